/- Ge: walks and plain laws, joined: VerSort RefA RefB RefC RefV RefV2 RefO VoMath RefSort FileFind. Conditions: at each theorem. -/
import Derived.Test.YtmnojbbcaboagaaGreatDoorGej
import Derived.Test.YtmnojbbcaboagaaGreatDoorGek
import Derived.Test.YtmnojbbcaboagaaGreatDoorGeb
import Derived.Test.YtmnojbbcaboagaaGreatDoorShelf
import Derived.Shelf.SlSortCmp.Whole1
import Derived.Stop.IfaceNil
import Derived.Test.YtmnojbbcaboagaaGreatDoorGee
import Derived.Laws.AppendOwn
import Derived.LoopTactic
import Derived.OwnWalk
import Derived.Laws.IdiomStrings
import Derived.Shelf.SlSortCmp.QuietGrown
import Derived.Lib.AppendIntMem
import Derived.Deep.CutRange
import Derived.Deep.CutBlock
import Derived.Test.YtmnojbbcaboagaaGreatDoorGeg
import Derived.RegionTactic
import Derived.BigRegion
import Derived.Lib.AppendZeros
import Derived.Deep.Upon
import Derived.Deep.Onto
import Derived.Test.YtmnojbbcaboagaaGreatDoorGei
import Derived.Shelf.Abstract

namespace Go.Proofs.Pw
open Go.RowKit Go.Sort
open Go.Lib hiding intOf
theorem bytes_back (b : ByteArray) : (⟨b.data.toList.toArray⟩ : ByteArray) = b := bytes_eq.1 rfl
theorem lstF_arr (n : Nat) (L : Nat → ByteArray) (j : Nat) (h : j < n) : (lstF n L).toArray[j]! = (L j).data.toList := by
  rw [getElem!_pos _ j (by rw [List.size_toArray, lstF_length]; exact h)]
  have := lstF_get n L j h
  rw [List.getElem?_eq_getElem (by rw [lstF_length]; exact h)] at this
  simpa using this
theorem strsAt_holds {w : World} {g off cap : Nat} {l : List Str} (h : Holds encStr w g off l.toArray) (hc : l.length ≤ cap) (hm : cap ≤ 9223372036854775807) : StrsAt w (.slice (some ⟨g, off, none⟩) l.length cap) l := by
  refine ⟨_, l.length, cap, fun j => ⟨(l.getD j []).toArray⟩, rfl, ?_, hc, hm, fun j hj => ⟨g, off, rfl, ?_⟩⟩
  · apply List.ext_getElem?
    intro i
    by_cases hi : i < l.length
    · rw [lstF_get _ _ i hi, List.getElem?_eq_getElem hi, List.getD_eq_getElem?_getD, List.getElem?_eq_getElem hi]; rfl
    · rw [List.getElem?_eq_none (by omega), List.getElem?_eq_none (by rw [lstF_length]; omega)]
  · have := (h j (by simpa using hj)).1
    rw [this]
    show some (encStr l.toArray[j]!) = some (Value.string ⟨(l.getD j []).toArray⟩)
    rw [getElem!_pos _ j (by simpa using hj), List.getD_eq_getElem?_getD, List.getElem?_eq_getElem hj]
    simp
theorem lstF_mem' {m : Nat} {M : Nat → ByteArray} {x : Str} : x ∈ lstF m M ↔ ∃ j, j < m ∧ (M j).data.toList = x := by simp [lstF]
theorem compactUpTo_length_le {α : Type} [Inhabited α] [DecidableEq α] (d : Array α) : (compactUpTo d d.size).length ≤ d.size := by
  unfold compactUpTo
  rw [List.length_map]
  exact Nat.le_trans (List.length_filter_le _ _) (by simp)
theorem cloneS_calls (a : Option Addr) (n cap : Nat) (L : Nat → ByteArray) (w : World) (hn : n ≤ 4000000000) (hc : ∀ j, j < n → ∃ b o, a = some ⟨b, o, none⟩ ∧ w.cell? ⟨b, o + j, none⟩ = some (.string (L j))) :
    Calls Tryz.prog 202 #[.slice a n cap] w fun e w' => ((e = .returned (.slice none 0 0) ∧ n = 0) ∨ ∃ g c, e = .returned (.slice (some ⟨g, 0, none⟩) n c) ∧ w.heap.size ≤ g ∧ g < w'.heap.size ∧ n ≤ c ∧ c ≤ 9223372036854775807 ∧ Holds encStr w' g 0 (lstF n L).toArray) ∧ Below w.heap.size w w' := by
  have key : ∀ (v' : Value) (w' : World) (zs : List ByteArray), zs.length = n → (∀ j, j < n → zs[j]? = some (L j)) → w'.ownsRow w.heap.size 9 1 v' n (zs.map Value.string) → v' ≠ .slice none 0 0 → ∃ g c, v' = .slice (some ⟨g, 0, none⟩) n c ∧ w.heap.size ≤ g ∧ g < w'.heap.size ∧ n ≤ c ∧ c ≤ 9223372036854775807 ∧ Holds encStr w' g 0 (lstF n L).toArray := by
    intro v' w' zs hz hL h hne
    rcases h.2 with ⟨rfl, _⟩ | ⟨g, c, cur, rfl, hb, hg, hnc, hm, hs, ht⟩
    · exact absurd rfl hne
    · refine ⟨g, c, rfl, hb, (Array.getElem?_eq_some_iff.1 hg).1, hnc, by unfold maxLen at hm; exact hm, fun j hj => ?_⟩
      have hj' : j < n := by simpa [lstF_length] using hj
      rw [Nat.zero_add, lstF_arr n L j hj']
      show _ = some (Value.string ⟨(L j).data.toList.toArray⟩) ∧ _
      rw [bytes_back]
      constructor
      · rw [cell_of_row w' g j cur 9 (0, 0) hg]
        have h1 : (zs.map Value.string)[j]? = some (.string (L j)) := by rw [List.getElem?_map, hL j hj']; rfl
        rw [← ht, List.getElem?_take, if_pos (by omega)] at h1
        simpa using h1
      · simp [World.frozen?, hg]
  by_cases h0 : n = 0
  · subst h0
    cases a with
    | none => exact (Tryz.slices_Clone_string_nil 0 cap w).mono fun e w' ⟨h1, h2⟩ => ⟨.inl ⟨h1, rfl⟩, by rw [h2]; exact Below.refl _ _⟩
    | some a =>
        refine (Tryz.slices_Clone_string_zero a cap w).mono fun e w' ⟨v', h1, h2, h3, h4⟩ => ?_
        obtain ⟨g, c, rfl, r⟩ := key v' w' [] rfl (fun j hj => absurd hj (Nat.not_lt_zero _)) h2 h3
        exact ⟨.inr ⟨g, c, h1, r⟩, h4⟩
  · obtain ⟨b, o, rfl, _⟩ := hc 0 (by omega)
    have hc2 : ∀ j, j < n → w.cell? ⟨b, o + j, none⟩ = some (.string (L j)) := fun j hj => by
      obtain ⟨b', o', e, h⟩ := hc j hj
      injection e with e
      injection e with e1 e2 _
      rw [e1, e2]; exact h
    have hzl : ((List.range n).map L).length = n := by simp
    have hzg : ∀ j, j < n → ((List.range n).map L)[j]? = some (L j) := fun j hj => by simp [hj]
    refine (Tryz.slices_Clone_string b o n cap ((List.range n).map L) w (by rw [hzl]; exact Nat.le_refl _) (by omega) (fun j hj => by
      rw [hzl] at hj
      rw [List.getD_eq_getElem?_getD, hzg j hj]
      exact hc2 j hj)).mono fun e w' ⟨v', h1, h2, h3, h4⟩ => ?_
    rw [List.take_of_length_le (by rw [hzl]; exact Nat.le_refl _)] at h2
    obtain ⟨g, c, rfl, r⟩ := key v' w' _ hzl hzg h2 h3
    exact ⟨.inr ⟨g, c, h1, r⟩, h4⟩
theorem indexFuncS_nil (f : Value) (cap : Nat) (w : World) :
    Calls Tryz.prog 149 #[.slice none 0 cap, f] w fun e w' => e = .returned (.int .i64 (-1)) ∧ w = w' := by
  go_enter Tryz.func149, Tryz.ntmps149
  go_wp2_with fail
  refine wp_loop_rounds 1 ?_
  rw [rounds_succ]
  go_wp2_with fail
  go_ret
  exact ⟨rfl, rfl⟩
theorem deleteFunc_nil (f : Value) (cap : Nat) (w : World) :
    Calls Tryz.prog 139 #[.slice none 0 cap, f] w fun e w' => e = .returned (.slice none 0 cap) ∧ w = w' := by
  go_enter Tryz.func139, Tryz.ntmps139
  go_wp2_with fail
  refine (indexFuncS_nil f cap _).mono ?_
  rintro e w' ⟨rfl, rfl⟩
  go_wp2_with fail
  go_ret
  exact ⟨rfl, rfl⟩
def OkV (s : Str) : Prop := verErr s = 0 ∧ s.length ≤ 1000000000
abbrev RV := {s : Str // OkV s}
instance : Inhabited RV := ⟨⟨[118, 48, 46, 48, 46, 48], by decide +kernel, by decide⟩⟩
def encRV (x : RV) : Value := encStr x.1
def cmpRV (x y : RV) : Int := verCmp x.1 y.1
theorem cmpRV_swo : SWO (ltOf cmpRV) := by
  have h := verCmp_ord
  refine ⟨fun x => ?_, fun x y z h1 h2 => ?_, fun x y z h1 h2 => ?_⟩
  · unfold ltOf cmpRV
    rw [h.self]; rfl
  · unfold ltOf cmpRV at *
    rw [decide_eq_true_iff] at *
    have a1 := h.tr x.1 y.1 z.1 (by omega) (by omega)
    rcases Int.lt_or_eq_of_le a1 with a2 | a2
    · exact a2
    · exfalso
      have a3 := h.zero a2
      have a4 := h.tr z.1 x.1 y.1 (by omega) (by omega)
      have a5 := (h.anti y.1 z.1).1 h2
      omega
  · unfold ltOf cmpRV at *
    rw [decide_eq_false_iff_not] at *
    intro h3
    have b1 := (h.anti x.1 z.1).1 h3
    have b2 := h.anti y.1 x.1
    have b3 := h.anti z.1 y.1
    have b4 := h.anti x.1 y.1
    have b5 := h.anti y.1 z.1
    have := h.tr z.1 y.1 x.1 (by omega) (by omega)
    omega
theorem encRV_one : Go.Proofs.OneCell encRV := fun _ => rfl
theorem below_sortW {B : Nat} {w0 w : World} (h : Below B w0 w) (hB : B ≤ w0.heap.size) {blk : Nat} (hb : B ≤ blk) (off m : Nat) (d : Array RV) (os : Array Obj) : Below B w0 (Go.Proofs.sortWorld encRV w blk off m d os) := by
  have hBs := h.size
  refine h.trans ⟨rfl, rfl, rfl, ?_, fun k hk => ?_⟩
  · simp [sortWorld, grow, putRow, mapBlock, Sort.ahead]
  · simp only [sortWorld, grow, putRow, mapBlock, Sort.ahead]
    by_cases hk2 : k < w.heap.size
    · rw [Array.getElem?_append_left (by simpa using hk2), Array.getElem?_modify, if_neg (by omega)]
    · exact absurd (Nat.lt_of_lt_of_le hk (Nat.le_trans hB hBs)) hk2
theorem sortV_calls (ks : List Nat) (A : Nat → Addr) (w0 w : World) (hE : EnvP ks A w0) (g cap : Nat) (d : Array RV) (hB : Below w0.heap.size w0 w) (hg0 : w0.heap.size ≤ g) (hg : g < w.heap.size) (hH : Holds encRV w g 0 d) (hsz : d.size ≤ 1000000) :
    Calls Tryz.prog 253 #[.slice (some ⟨g, 0, none⟩) d.size cap, .func (.func 130) #[] #[]] w fun e w' => e = .returned (.tuple #[]) ∧ ∃ d' : Array RV, d'.size = d.size ∧ (∀ x, x ∈ d'.toList ↔ x ∈ d.toList) ∧ (∀ i j, i < j → j < d'.size → verCmp d'[i]!.1 d'[j]!.1 ≤ 0) ∧ Holds encRV w' g 0 d' ∧ g < w'.heap.size ∧ Below w0.heap.size w0 w' := by
  have hcmp : CmpLays1 Tryz.prog 130 #[] encRV cmpRV g 0 d.size w := by
    intro m os dk hs x y
    refine (verCompareD ks A ⟨x.1.toArray⟩ ⟨y.1.toArray⟩ _ (hE.below (below_sortW hB (Nat.le_refl _) hg0 0 m dk os)) (by show x.1.length ≤ _; exact x.2.2) (by show y.1.length ≤ _; exact y.2.2) x.2.1 y.2.1).mono ?_
    rintro e w' ⟨rfl, hb⟩
    exact ⟨rfl, hb.grown⟩
  refine (Any.slices_SortFunc laysSortS encRV encRV_one cmpRV cmpRV_swo 130 #[] g 0 cap d w (Go.Proofs.enters_of Tryz.func130 (by kernel_rfl) rfl) hcmp hH hg (by omega)).mono ?_
  rintro e w' ⟨rfl, d', n, os, hp, hs, rfl⟩
  obtain ⟨hp1, _, hp3⟩ := hp
  have hH2 : Holds encRV (putRow encRV (Sort.ahead w n) g 0 d') g 0 d' := holds_putRow encRV _ g 0 d d' hH hp1
  refine ⟨rfl, d', hp1, fun x => ?_, fun i j hij hj => ?_, ?_, ?_, below_sortW hB (Nat.le_refl _) hg0 0 n d' os⟩
  · have := hp3.mem_iff (a := x)
    rw [Array.extract_eq_self_of_le (by omega), Array.extract_eq_self_of_le (Nat.le_refl _)] at this
    exact this
  · have h1 := hs i j (Nat.zero_le _) hij (by omega)
    unfold ltOf cmpRV at h1
    rw [decide_eq_false_iff_not] at h1
    have := verCmp_ord.anti d'[i]!.1 d'[j]!.1
    have := verCmp_ord.anti d'[j]!.1 d'[i]!.1
    omega
  · exact holds_grow encRV _ os g 0 d' (by simpa [putRow, mapBlock, Sort.ahead] using hg) hH2
  · simp [sortWorld, grow, putRow, mapBlock, Sort.ahead]; omega
theorem map_sub {P : Str → Prop} : ∀ (l : List Str), (∀ x ∈ l, P x) → ∃ m : List {s : Str // P s}, m.map (·.1) = l
  | [], _ => ⟨[], rfl⟩
  | a :: r, h => by
    obtain ⟨m, hm⟩ := map_sub r (fun x hx => h x (by simp [hx]))
    exact ⟨⟨a, h a (by simp)⟩ :: m, by simp [hm]⟩
theorem map_get (m : Array RV) (j : Nat) (hj : j < m.size) : (m.map (·.1))[j]! = (m[j]!).1 := by
  rw [getElem!_pos _ j (by simpa using hj), getElem!_pos m j hj]; simp
theorem holds_rv {w : World} {g off : Nat} {m : Array RV} : Holds encRV w g off m ↔ Holds encStr w g off (m.map (·.1)) := by
  constructor
  · intro h j hj
    have hj' : j < m.size := by simpa using hj
    rw [map_get m j hj']
    exact h j hj'
  · intro h j hj
    have := h j (by simpa using hj)
    rw [map_get m j hj] at this
    exact this
theorem vsort_of {l : List Str} {d : Array RV} (hm : ∀ x : RV, x ∈ d.toList ↔ x.1 ∈ l) (hl : ∀ x ∈ l, x.length ≤ 1000000000) (hs : ∀ i j, i < j → j < d.size → verCmp d[i]!.1 d[j]!.1 ≤ 0) : compactUpTo (d.map (·.1)) (d.map (·.1)).size = vsort l := by
  apply rises_ext verCmp_ord
  · apply compact_rises verCmp_ord
    · intro i j hij hj
      have hj' : j < d.size := by simpa using hj
      rw [map_get d i (by omega), map_get d j hj']
      exact hs i j hij hj'
    · intro i j hi hj he
      have hi' : i < d.size := by simpa using hi
      have hj' : j < d.size := by simpa using hj
      rw [map_get d i hi', map_get d j hj'] at he ⊢
      exact (verCmp_same d[i]!.2.1 d[j]!.2.1).1 he
  · exact vsort_rises l
  · intro x
    rw [compact_mem, vsort_mem]
    constructor
    · rintro ⟨i, hi, rfl⟩
      have hi' : i < d.size := by simpa using hi
      rw [map_get d i hi']
      exact ⟨(hm _).1 (by rw [getElem!_pos d i hi']; simp), d[i]!.2.1⟩
    · rintro ⟨h1, h2⟩
      have := (hm ⟨x, h2, hl x h1⟩).2 h1
      obtain ⟨i, hi, e⟩ := List.mem_iff_getElem.1 this
      have hi' : i < d.size := by simpa using hi
      refine ⟨i, by simpa using hi', ?_⟩
      rw [map_get d i hi', getElem!_pos d i hi']
      have e' : d[i] = ⟨x, h2, hl x h1⟩ := by simpa using e
      rw [e']
theorem verSort1_calls (ks : List Nat) (A : Nat → Addr) (s : ByteArray) (w : World) (hE : EnvP ks A w) (hs : s.size ≤ 1000000000) :
    Calls Tryz.prog 252 #[.string s] w fun e w' => e = .returned (.bool (!decide (verErr s.data.toList = 0))) ∧ Below w.heap.size w w' := by
  have hk := verCheck_calls ks A s w hE hs
  by_cases h0 : verErr s.data.toList = 0
  · rw [decide_eq_true h0]
    rw [h0, errV_zero] at hk
    clear h0
    replace hk := Lib.hid hk
    go_enter Tryz.func252, Tryz.ntmps252
    go_wp2_with fail
    refine hk.out.mono ?_
    rintro e w1 ⟨rfl, hb1⟩
    go_wp2_with fail
    go_ret
    exact ⟨rfl, hb1⟩
  · rw [decide_eq_false h0]
    rw [errV_pos A h0] at hk
    clear h0
    replace hk := Lib.hid hk
    go_enter Tryz.func252, Tryz.ntmps252
    go_wp2_with fail
    refine hk.out.mono ?_
    rintro e w1 ⟨rfl, hb1⟩
    go_wp2_with fail
    go_ret
    exact ⟨rfl, hb1⟩
theorem Tryz.enters_sort1 : ∀ args w, (callFunc 252 args).run Tryz.prog w = .ok (.enter 252 args) w := Go.Proofs.enters_of Tryz.func252 (by kernel_rfl) rfl
set_option maxHeartbeats 1000000 in
set_option maxRecDepth 100000 in
theorem verSort_calls (ks : List Nat) (A : Nat → Addr) (v : Value) (l : List Str) (w : World) (hE : EnvP ks A w) (hS : StrsAt w v l) (hn : l.length ≤ 1000000) (hl : ∀ x ∈ l, x.length ≤ 1000000000) :
    Calls Tryz.prog 201 #[v] w fun e w' => (∃ v', e = .returned v' ∧ StrsAt w' v' (vsort l)) ∧ Below w.heap.size w w' := by
  obtain ⟨a, n, cap, L, rfl, rfl, hnc, hcap, hc⟩ := hS
  rw [lstF_length] at hn
  have hcl := cloneS_calls a n cap L w (by omega) hc
  have hsn := AnyF.slices_SortFunc_none (P := Tryz.prog) (ρ := laysSortSR) { laysSortS with }
  have hce := Tryz.slices_Compact_string_empty
  have HL := Lib.hid hl
  replace hcl := Lib.hid hcl
  replace hsn := Lib.hid hsn
  replace hce := Lib.hid hce
  clear hc hl
  go_enter Tryz.func201, Tryz.ntmps201
  go_wp2_with fail
  refine hcl.out.mono ?_
  rintro e w1 ⟨h, hb1⟩
  rcases h with ⟨rfl, rfl⟩ | ⟨g, c, rfl, h1, h2, h3, h4, h5⟩
  · go_wp2_with fail
    refine (deleteFunc_nil _ 0 _).mono ?_
    rintro e w' ⟨rfl, rfl⟩
    go_wp2_with fail
    refine (hsn.out none 0 _ _).mono ?_
    rintro e w' ⟨rfl, rfl⟩
    go_wp2_with fail
    refine (hce.out none 0 _).mono ?_
    rintro e w' ⟨rfl, rfl⟩
    go_wp2_with fail
    go_ret
    exact ⟨⟨_, rfl, StrsAt.nil _⟩, hb1⟩
  · have hdz : (lstF n L).toArray.size = n := by rw [List.size_toArray, lstF_length]
    have hT : TestsB 252 #[] (fun s => !decide (verErr s = 0)) (lstF n L).toArray.toList w.heap.size w1 := by
      intro W hB s hs
      obtain ⟨j, hj, rfl⟩ := lstF_mem'.1 (by simpa using hs)
      have := verSort1_calls ks A (L j) W (hE.below (hb1.trans hB)) (by rw [size_eq]; exact HL.out _ (lstF_mem'.2 ⟨j, hj, rfl⟩))
      rw [← bytes_back (L j)] at this
      exact this
    have hD := deleteFunc_calls 252 #[] Tryz.enters_sort1 (fun s => !decide (verErr s = 0)) g 0 c w.heap.size (lstF n L).toArray w1 (by rw [hdz]; omega) (by rw [hdz]; exact h3) h1 h2 h5 hT
    rw [hdz] at hD
    have hfe : ((lstF n L).toArray.toList.filter fun x => !(!decide (verErr x = 0))) = (lstF n L).filter fun x => decide (verErr x = 0) := by
      congr 1; funext x; simp
    simp only [hfe] at hD
    obtain ⟨m, hm⟩ := map_sub (P := OkV) ((lstF n L).filter fun x => decide (verErr x = 0)) (fun x hx => ⟨by have := (List.mem_filter.1 hx).2; simpa using this, HL.out x (List.mem_filter.1 hx).1⟩)
    have hml : ((lstF n L).filter fun x => decide (verErr x = 0)).length = m.length := by rw [← hm, List.length_map]
    have hmn : m.length ≤ n := by
      have := List.length_filter_le (fun x => decide (verErr x = 0)) (lstF n L)
      rw [lstF_length, hml] at this
      exact this
    have hma : m.toArray.map (·.1) = ((lstF n L).filter fun x => decide (verErr x = 0)).toArray := by rw [← hm]; simp
    rw [hml, ← hma] at hD
    have hmem : ∀ x : RV, x ∈ m ↔ x.1 ∈ lstF n L := by
      intro x
      constructor
      · intro hx
        have : x.1 ∈ m.map (·.1) := List.mem_map.2 ⟨x, hx, rfl⟩
        rw [hm] at this
        exact (List.mem_filter.1 this).1
      · intro hx
        have : x.1 ∈ m.map (·.1) := by rw [hm]; exact List.mem_filter.2 ⟨hx, by simpa using x.2.1⟩
        obtain ⟨y, hy, e⟩ := List.mem_map.1 this
        have : y = x := Subtype.ext e
        rw [← this]; exact hy
    have HM := Lib.hid hmem
    replace hD := Lib.hid hD
    clear hT hfe hm hma hmem hcl
    go_wp2_with fail
    refine hD.out.mono ?_
    rintro e w2 ⟨rfl, hb2, h6⟩
    have hb02 := hb1.trans hb2
    have hso := sortV_calls ks A w w2 hE g c m.toArray hb02 h1 (Nat.lt_of_lt_of_le h2 hb2.size) (holds_rv.2 h6) (by simp; omega)
    rw [List.size_toArray] at hso
    replace hso := Lib.hid hso
    clear hD h6
    go_wp2_with fail
    refine hso.out.mono ?_
    rintro e w3 ⟨rfl, d', hd1, hd2, hd3, hd4, hd5, hb3⟩
    have hdm : (d'.map (·.1)).size = m.length := by rw [Array.size_map, hd1]
    have hH3 := holds_rv.1 hd4
    have hco := Tryz.slices_Compact_string_arr g 0 c (d'.map (·.1)) w3 hH3 (by rw [hdm]; omega) (by rw [hdm]; omega)
    have hv := vsort_of (l := lstF n L) (d := d') (fun x => by rw [hd2 x]; exact HM.out x) HL.out hd3
    rw [hv, hdm] at hco
    have hvl : (vsort (lstF n L)).length ≤ m.length := by
      rw [← hv, ← hdm]
      exact compactUpTo_length_le _
    replace hco := Lib.hid hco
    clear hso hv hd2 hd3 hd4 hsn hce
    go_wp2_with fail
    refine hco.out.mono ?_
    rintro e w4 ⟨rfl, q, rfl⟩
    go_wp2_with fail
    go_ret
    refine ⟨⟨_, rfl, ?_⟩, below_putRow (below_drewN hb3 q) h1 0 _⟩
    refine strsAt_holds (holds_take (m := List.replicate (m.length - (vsort (lstF n L)).length) []) ?_) (by omega) h4
    have hH4 : Holds encStr (Sort.ahead w3 q) g 0 (d'.map (·.1)) := fun j hj => hH3 j hj
    exact holds_putRow encStr (Sort.ahead w3 q) g 0 _ _ hH4 (by simp [hd1]; omega)
end Go.Proofs.Pw

namespace Go.Proofs.Pw
open Go.RowKit
open Go.Lib hiding intOf
end Go.Proofs.Pw

namespace Go.Proofs.Pw
open Go.RowKit
open Go.Lib hiding intOf
theorem Tryz.infoString : (Tryz.prog.info? 9).map (fun i => (i.zero, i.size, i.bytes)) = some (some (.string ⟨#[]⟩), 1, 16) := by kernel_rfl
def strVs (l : List ByteArray) : List Value := l.map Value.string
def strTs (l : List ByteArray) : List Str := l.map (·.data.toList)
theorem strVs_snoc (l : List ByteArray) (x : ByteArray) : strVs l ++ [.string x] = strVs (l ++ [x]) := by simp [strVs]
theorem strTs_snoc (l : List ByteArray) (x : ByteArray) : strTs (l ++ [x]) = strTs l ++ [x.data.toList] := by simp [strTs]
theorem lstF_list (l : List ByteArray) : lstF l.length (fun j => l.getD j ByteArray.empty) = strTs l := by
  apply List.ext_getElem
  · simp [lstF_length, strTs]
  · intro i h1 h2
    simp only [strTs, List.length_map] at h2
    simp [lstF, strTs, List.getD_eq_getElem?_getD, List.getElem?_eq_getElem h2]
theorem strsAt_own {w : World} {base e : Nat} {v : Value} {l : List ByteArray} (h : w.ownsRow base e 1 v l.length (strVs l)) : StrsAt w v (strTs l) := by
  rcases h.2 with ⟨rfl, h0⟩ | ⟨g, cap, cur, rfl, hb, hg, hn, hm, hs, ht⟩
  · have : l = [] := List.eq_nil_of_length_eq_zero h0
    subst this
    exact StrsAt.nil w
  · refine ⟨_, l.length, cap, fun j => l.getD j ByteArray.empty, rfl, (lstF_list l).symm, hn, by unfold maxLen at hm; exact hm, fun j hj => ⟨g, 0, rfl, ?_⟩⟩
    rw [Nat.zero_add, cell_of_row w g j cur e (0, 0) hg]
    have h1 : (strVs l)[j]? = some (.string (l.getD j ByteArray.empty)) := by
      simp [strVs, List.getD_eq_getElem?_getD, List.getElem?_eq_getElem hj]
    rw [← ht, List.getElem?_take, if_pos (by omega)] at h1
    simpa using h1
theorem bytes_ext {a b : ByteArray} : a.data.toList = b.data.toList ↔ a = b := ⟨fun h => by
  apply ByteArray.ext; apply Array.ext'; exact h, fun h => by rw [h]⟩
end Go.Proofs.Pw

namespace Go.Proofs.Pw
open Go.RowKit
open Go.Lib hiding intOf
open Go.Sort (grow grow_grow grow_empty)
def GrownW (w w' : World) : Prop := ∃ q os, w' = grow (w.drewN q) os
theorem GrownW.below {w w' : World} (h : GrownW w w') : Below w.heap.size w w' := by
  obtain ⟨q, os, rfl⟩ := h
  exact below_grow _ _ (Nat.le_refl _) _ _
theorem GrownW.trans {a b c : World} (h : GrownW a b) (k : GrownW b c) : GrownW a c := by
  obtain ⟨q, os, rfl⟩ := h
  obtain ⟨q', os', rfl⟩ := k
  refine ⟨q + q', os ++ os', ?_⟩
  show grow (grow ((a.drewN q).drewN q') os) os' = _
  rw [grow_grow, World.drewN_drewN]
theorem GrownW.refl (w : World) : GrownW w w := ⟨0, #[], (grow_empty _).symm⟩
end Go.Proofs.Pw

namespace Go.Proofs.Pw
open Go.RowKit
open Go.Lib hiding intOf
structure NBox (w : World) (b : Nat) (L : Nat → ByteArray) (k : Nat) (v3 : Value) : Prop where
  c : ∀ j, j < 3 → w.cell? ⟨b, j, none⟩ = some (.int .i64 (numAt L k j))
  c3 : w.cell? ⟨b, 3, none⟩ = some v3
  fr : ∀ j, w.frozen? ⟨b, j, none⟩ = false
theorem NBox.below {w w' : World} {b : Nat} {L : Nat → ByteArray} {k : Nat} {v3 : Value} (h : NBox w b L k v3) (hb : Below w.heap.size w w') : NBox w' b L k v3 :=
  ⟨fun j hj => Below.cell_some hb (h.c j hj), Below.cell_some hb h.c3, fun j => (hb.frozen (p := ⟨b, j, none⟩) (show b < w.heap.size from lt_of_cell h.c3)).trans (h.fr j)⟩
theorem NBox.step {w : World} {b : Nat} {L : Nat → ByteArray} {k : Nat} {v3 : Value} (h : NBox w b L k v3) (hk : k < 3) : NBox (w.setCell ⟨b, k, none⟩ (.int .i64 ((numberOf (L k).data.toList).1 : Nat))) b L (k + 1) v3 := by
  refine ⟨fun j hj => ?_, ?_, fun j => by simp [h.fr]⟩
  · by_cases e : j = k
    · subst e
      rw [numAt_new]
      exact World.cell?_setCell_same _ _ _ (h.c j hj)
    · rw [numAt_old _ _ _ e, World.cell?_setCell_other _ _ _ _ (fun h2 => e (by injection h2 with _ h3 _; exact h3.symm))]
      exact h.c j hj
  · rw [World.cell?_setCell_other _ _ _ _ (fun h2 => by injection h2 with _ h3 _; omega)]
    exact h.c3
theorem NBox.set3 {w : World} {b : Nat} {L : Nat → ByteArray} {k : Nat} {v3 : Value} (h : NBox w b L k v3) (v : Value) : NBox (w.setCell ⟨b, 3, none⟩ v) b L k v := by
  refine ⟨fun j hj => ?_, World.cell?_setCell_same _ _ _ h.c3, fun j => by simp [h.fr]⟩
  rw [World.cell?_setCell_other _ _ _ _ (by intro e; injection e with _ e2 _; omega)]
  exact h.c j hj
end Go.Proofs.Pw

namespace Go.Proofs.Pw
open Go.RowKit
open Go.Lib hiding intOf
def CellsOver (w : World) (B : Nat) (a : Option Addr) (n : Nat) (P : Nat → ByteArray) : Prop := ∀ j, j < n → ∃ b o, a = some ⟨b, o, none⟩ ∧ B < b ∧ w.cell? ⟨b, o + j, none⟩ = some (.string (P j))
theorem CellsOver.set {w : World} {B B' n : Nat} {a : Option Addr} {P : Nat → ByteArray} (h : CellsOver w B a n P) (hB : B' ≤ B) (i : Nat) (u : Value) : CellsOver (w.setCell ⟨B', i, none⟩ u) B a n P := by
  intro j hj
  obtain ⟨b, o, rfl, h1, h2⟩ := h j hj
  refine ⟨b, o, rfl, h1, ?_⟩
  rw [World.cell?_setCell_other _ _ _ _ (by intro e; injection e with e1 _ _; omega)]
  exact h2
theorem CellsOver.strs {w : World} {B n cap : Nat} {a : Option Addr} {P : Nat → ByteArray} (h : CellsOver w B a n P) (hn : n ≤ cap) (hc : cap ≤ 9223372036854775807) : StrsAt w (.slice a n cap) (lstF n P) :=
  ⟨a, n, cap, P, rfl, rfl, hn, hc, fun j hj => let ⟨b, o, e, _, h2⟩ := h j hj; ⟨b, o, e, h2⟩⟩
end Go.Proofs.Pw

namespace Go.Proofs.Pw
open Go.RowKit
open Go.Lib hiding intOf
structure NumsAt (w : World) (b : Nat) (s : Str) (v3 : Value) : Prop where
  c : ∀ j, j < 3 → w.cell? ⟨b, j, none⟩ = some (.int .i64 (verNum s j : Nat))
  c3 : w.cell? ⟨b, 3, none⟩ = some v3
theorem NumsAt.below {w w' : World} {b : Nat} {s : Str} {v3 : Value} (h : NumsAt w b s v3) (hb : Below w.heap.size w w') : NumsAt w' b s v3 :=
  ⟨fun j hj => Below.cell_some hb (h.c j hj), Below.cell_some hb h.c3⟩
def verMax (a b : Str) : Str := if verErr a ≠ 0 ∧ verErr b ≠ 0 then [] else if verErr a ≠ 0 then b else if verErr b ≠ 0 then a else if verCmp a b < 0 then b else a
theorem mk_data (b : ByteArray) : (⟨b.data.toList.toArray⟩ : ByteArray) = b := by apply bytes_ext.1; rfl
end Go.Proofs.Pw

namespace Go.Proofs.Pw
open Go.Lib hiding intOf
end Go.Proofs.Pw

namespace Go.Proofs.Pw
open Go.RowKit
open Go.Lib hiding intOf
def AccAt (w : World) (base : Nat) (o : Value) (P : List ByteArray) : Prop :=
  (P = [] ∧ o = .slice none 0 0) ∨ ∃ g c, P ≠ [] ∧ o = .slice (some ⟨g, 0, none⟩) P.length c ∧ base ≤ g ∧ g < w.heap.size ∧ P.length ≤ c ∧ c ≤ 9223372036854775807 ∧ ∀ j, j < P.length → w.cell? ⟨g, j, none⟩ = some (.string (P.getD j ByteArray.empty))
theorem AccAt.below {w w' : World} {base : Nat} {o : Value} {P : List ByteArray} (h : AccAt w base o P) (hb : Below w.heap.size w w') : AccAt w' base o P := by
  rcases h with h | ⟨g, c, h1, h2, h3, h4, h5, h6, h7⟩
  · exact .inl h
  · exact .inr ⟨g, c, h1, h2, h3, Nat.lt_of_lt_of_le h4 hb.size, h5, h6, fun j hj => Below.cell_some hb (h7 j hj)⟩
theorem AccAt.mono {w : World} {base base' : Nat} {o : Value} {P : List ByteArray} (h : AccAt w base o P) (hb : base' ≤ base) : AccAt w base' o P := by
  rcases h with h | ⟨g, c, h1, h2, h3, r⟩
  · exact .inl h
  · exact .inr ⟨g, c, h1, h2, by omega, r⟩
theorem AccAt.strs {w : World} {base : Nat} {o : Value} {P : List ByteArray} (h : AccAt w base o P) : StrsAt w o (strTs P) := by
  rcases h with ⟨rfl, rfl⟩ | ⟨g, c, h1, rfl, h3, h4, h5, h6, h7⟩
  · exact StrsAt.nil w
  · exact ⟨_, P.length, c, fun j => P.getD j ByteArray.empty, rfl, (lstF_list P).symm, h5, h6, fun j hj => ⟨g, 0, rfl, by rw [Nat.zero_add]; exact h7 j hj⟩⟩
end Go.Proofs.Pw

namespace Go.Proofs.Pw
open Go.RowKit
open Go.Lib hiding intOf
def TestsM (g : Nat) (lb : Array Value) (p : Md → Bool) (n : Nat) (P V : Nat → ByteArray) (base : Nat) (w : World) : Prop :=
  ∀ W, Below base w W → ∀ j, j < n → Calls Tryz.prog g (#[.agg #[.string (P j), .string (V j)]] ++ lb) W fun e w'' => e = .returned (.bool (p ((P j).data.toList, (V j).data.toList))) ∧ Below W.heap.size W w''
set_option maxHeartbeats 1000000 in
set_option maxRecDepth 100000 in
theorem indexFuncM_calls (g : Nat) (lb : Array Value) (eg : ∀ args w, (callFunc g args).run Tryz.prog w = .ok (.enter g args) w) (p : Md → Bool) (a : Option Addr) (n cap base : Nat) (P V : Nat → ByteArray) (w : World) (hn : n ≤ 1000000) (hbase : base ≤ w.heap.size)
    (hc : ∀ j, j < n → ∃ b o, a = some ⟨b, o, none⟩ ∧ w.cell? ⟨b, o + j * 2, none⟩ = some (.string (P j)) ∧ w.cell? ⟨b, o + j * 2 + 1, none⟩ = some (.string (V j))) (hT : TestsM g lb p n P V base w) :
    Calls Tryz.prog 133 #[.slice a n cap, .func (.func g) #[] lb] w fun e w' => e = .returned (.int .i64 (findI p (mdF n P V))) ∧ Below w.heap.size w w' := by
  replace hc := Lib.hid hc
  replace hT := Lib.hid hT
  go_enter Tryz.func133, Tryz.ntmps133
  go_wp2_with fail
  go_loopw [8] (fun i wr => ∃ k : Nat, k ≤ n ∧ i = .int .i64 k ∧ Below w.heap.size w wr ∧ Hid (∀ j, j < k → p ((P j).data.toList, (V j).data.toList) = false)) (fun i _ => n - (intOf i).toNat)
  case atStart => exact ⟨0, by omega, rfl, Below.refl _ _, Lib.hid (fun j hj => absurd hj (Nat.not_lt_zero _))⟩
  case round =>
    obtain ⟨k, hk, rfl, hb, HA⟩ := hrel
    by_cases hlt : k < n
    · obtain ⟨b1, o1, rfl, c1, c2⟩ := hc.out k hlt
      replace c1 := Below.cell_some hb c1
      replace c2 := Below.cell_some hb c2
      have hcall := hT.out wr (hb.mono hbase) k hlt
      have hget := mdF_get n P V k hlt
      cases hq : p ((P k).data.toList, (V k).data.toList) with
      | true =>
        have HR : Hid (findI p (mdF n P V) = k) := Lib.hid (findI_hit hget hq (fun j y hj hy => by
          rw [mdF_get n P V j (by omega)] at hy
          cases hy
          exact HA.out j hj))
        rw [hq] at hcall
        clear hq hget
        go_wp2_with (go_at_fn g; refine hcall.mono ?_; rintro e w' ⟨rfl, hb2⟩)
        go_ret
        rw [HR.out]
        exact ⟨rfl, below_step hb hb2⟩
      | false =>
        have HN : Hid (∀ j, j < k + 1 → p ((P j).data.toList, (V j).data.toList) = false) := Lib.hid (fun j hj => by
          by_cases e : j = k
          · subst e; exact hq
          · exact HA.out j (by omega))
        rw [hq] at hcall
        clear hq hget
        go_wp2_with (go_at_fn g; refine hcall.mono ?_; rintro e w' ⟨rfl, hb2⟩)
        go_roundw
        case rel => exact ⟨k + 1, by omega, by go_num, below_step hb hb2, HN⟩
        case measure => simp [intOf]; omega
    · obtain rfl : k = n := by omega
      have HR : Hid (findI p (mdF k P V) = -1) := Lib.hid (findI_none (fun j y hy => by
        have hj : j < k := by have := (List.getElem?_eq_some_iff.1 hy).1; rwa [mdF_length] at this
        rw [mdF_get k P V j hj] at hy
        cases hy
        exact HA.out j hj))
      go_wp2_with fail
      go_ret
      rw [HR.out]
      exact ⟨rfl, hb⟩
theorem Tryz.enters_find1 : ∀ args w, (callFunc 136 args).run Tryz.prog w = .ok (.enter 136 args) w := Go.Proofs.enters_of Tryz.func136 (by kernel_rfl) rfl
theorem find1_calls (p v s : ByteArray) (b : Nat) (w : World) (hc : w.cell? ⟨b, 0, none⟩ = some (.string s)) :
    Calls Tryz.prog 136 #[.agg #[.string p, .string v], .pointer (some ⟨b, 0, none⟩)] w fun e w' => e = .returned (.bool (decide (p.data.toList = s.data.toList))) ∧ Below w.heap.size w w' := by
  have hb := below_alloc w (.cells #[.string p, .string v] 47)
  have c0 := Below.cell_some hb hc
  have HD : Hid (decide (p.data.toList = s.data.toList) = (p.toList == s.toList)) := Lib.hid (by
    rw [toList_data, toList_data, Bool.eq_iff_iff, decide_eq_true_iff, beq_iff_eq])
  go_enter Tryz.func136, Tryz.ntmps136
  go_wp2_with fail
  go_ret
  rw [HD.out]
  exact ⟨rfl, hb⟩
theorem modFind_calls (v : Value) (l : List Md) (s : ByteArray) (w : World) (h : ModsAt w v l) (hl : l.length ≤ 1000000) :
    Calls Tryz.prog 72 #[v, .string s] w fun e w' => e = .returned (.int .i64 (findI (fun m : Md => decide (m.1 = s.data.toList)) l)) ∧ Below w.heap.size w w' := by
  obtain ⟨a, n, cap, P, V, rfl, rfl, hnc, hcap, hc⟩ := h
  rw [mdF_length] at hl
  have hb := below_alloc w (.cells #[.string s] 9)
  have hcs : (w.alloc (.cells #[.string s] 9)).cell? ⟨w.heap.size, 0, none⟩ = some (.string s) := by simp
  have hi := indexFuncM_calls 136 #[.pointer (some ⟨w.heap.size, 0, none⟩)] Tryz.enters_find1 (fun m : Md => decide (m.1 = s.data.toList)) a n cap (w.alloc (.cells #[.string s] 9)).heap.size P V (w.alloc (.cells #[.string s] 9)) hl (Nat.le_refl _)
    (fun j hj => let ⟨b, o, e, h1, h2⟩ := hc j hj; ⟨b, o, e, Below.cell_some hb h1, Below.cell_some hb h2⟩)
    (fun W hW j hj => find1_calls (P j) (V j) s w.heap.size W (Below.cell_some hW hcs))
  generalize findI (fun m : Md => decide (m.1 = s.data.toList)) (mdF n P V) = x at hi ⊢
  replace hi := Lib.hid hi
  clear hc hcs
  go_enter Tryz.func72, Tryz.ntmps72
  go_wp2_with fail
  refine hi.out.mono ?_
  rintro e w1 ⟨rfl, hb1⟩
  go_wp2_with fail
  go_ret
  exact ⟨rfl, below_step hb hb1⟩
end Go.Proofs.Pw
