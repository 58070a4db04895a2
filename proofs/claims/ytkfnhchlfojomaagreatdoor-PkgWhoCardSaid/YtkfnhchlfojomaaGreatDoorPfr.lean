/- Pf: walks and plain laws, joined: VerSort VoMath. Conditions: at each theorem. -/
import Derived.Test.YtkfnhchlfojomaaGreatDoorPfq
import Derived.Test.YtkfnhchlfojomaaGreatDoorPfp
import Derived.Test.YtkfnhchlfojomaaGreatDoorPfb
import Derived.Test.YtkfnhchlfojomaaGreatDoorPfi
import Derived.Test.YtkfnhchlfojomaaGreatDoorShelf
import Derived.Shelf.SlSortCmp.Whole1
import Derived.Stop.IfaceNil
import Derived.Test.YtkfnhchlfojomaaGreatDoorPfh

namespace Go.Proofs.Pw
open Go.RowKit Go.Sort
open Go.Lib hiding intOf
theorem bytes_back (b : ByteArray) : (⟨b.data.toList.toArray⟩ : ByteArray) = b := bytes_eq.1 rfl
theorem lstF_arr (n : Nat) (L : Nat → ByteArray) (j : Nat) (h : j < n) : (lstF n L).toArray[j]! = (L j).data.toList := by
  rw [getElem!_pos _ j (by rw [List.size_toArray, lstF_length]; exact h)]
  have := lstF_get n L j h
  rw [List.getElem?_eq_getElem (by rw [lstF_length]; exact h)] at this
  simpa using this
theorem strsAt_holds {w : World} {g off cap : Nat} {l : List Str} (h : Holds encStr w g off l.toArray) (hc : l.length ≤ cap) (hm : cap ≤ 9223372036854775807) : StrsAt w (.slice (some ⟨g, off, none⟩) l.length cap) l := by
  refine ⟨_, l.length, cap, fun j => ⟨(l.getD j []).toArray⟩, rfl, ?_, hc, hm, fun j hj => ⟨g, off, rfl, ?_⟩⟩
  · apply List.ext_getElem?
    intro i
    by_cases hi : i < l.length
    · rw [lstF_get _ _ i hi, List.getElem?_eq_getElem hi, List.getD_eq_getElem?_getD, List.getElem?_eq_getElem hi]; rfl
    · rw [List.getElem?_eq_none (by omega), List.getElem?_eq_none (by rw [lstF_length]; omega)]
  · have := (h j (by simpa using hj)).1
    rw [this]
    show some (encStr l.toArray[j]!) = some (Value.string ⟨(l.getD j []).toArray⟩)
    rw [getElem!_pos _ j (by simpa using hj), List.getD_eq_getElem?_getD, List.getElem?_eq_getElem hj]
    simp
theorem lstF_mem' {m : Nat} {M : Nat → ByteArray} {x : Str} : x ∈ lstF m M ↔ ∃ j, j < m ∧ (M j).data.toList = x := by simp [lstF]
theorem compactUpTo_length_le {α : Type} [Inhabited α] [DecidableEq α] (d : Array α) : (compactUpTo d d.size).length ≤ d.size := by
  unfold compactUpTo
  rw [List.length_map]
  exact Nat.le_trans (List.length_filter_le _ _) (by simp)
theorem cloneS_calls (a : Option Addr) (n cap : Nat) (L : Nat → ByteArray) (w : World) (hn : n ≤ 4000000000) (hc : ∀ j, j < n → ∃ b o, a = some ⟨b, o, none⟩ ∧ w.cell? ⟨b, o + j, none⟩ = some (.string (L j))) :
    Calls Tryz.prog 140 #[.slice a n cap] w fun e w' => ((e = .returned (.slice none 0 0) ∧ n = 0) ∨ ∃ g c, e = .returned (.slice (some ⟨g, 0, none⟩) n c) ∧ w.heap.size ≤ g ∧ g < w'.heap.size ∧ n ≤ c ∧ c ≤ 9223372036854775807 ∧ Holds encStr w' g 0 (lstF n L).toArray) ∧ Below w.heap.size w w' := by
  have key : ∀ (v' : Value) (w' : World) (zs : List ByteArray), zs.length = n → (∀ j, j < n → zs[j]? = some (L j)) → w'.ownsRow w.heap.size 9 1 v' n (zs.map Value.string) → v' ≠ .slice none 0 0 → ∃ g c, v' = .slice (some ⟨g, 0, none⟩) n c ∧ w.heap.size ≤ g ∧ g < w'.heap.size ∧ n ≤ c ∧ c ≤ 9223372036854775807 ∧ Holds encStr w' g 0 (lstF n L).toArray := by
    intro v' w' zs hz hL h hne
    rcases h.2 with ⟨rfl, _⟩ | ⟨g, c, cur, rfl, hb, hg, hnc, hm, hs, ht⟩
    · exact absurd rfl hne
    · refine ⟨g, c, rfl, hb, (Array.getElem?_eq_some_iff.1 hg).1, hnc, by unfold maxLen at hm; exact hm, fun j hj => ?_⟩
      have hj' : j < n := by simpa [lstF_length] using hj
      rw [Nat.zero_add, lstF_arr n L j hj']
      show _ = some (Value.string ⟨(L j).data.toList.toArray⟩) ∧ _
      rw [bytes_back]
      constructor
      · rw [cell_of_row w' g j cur 9 (0, 0) hg]
        have h1 : (zs.map Value.string)[j]? = some (.string (L j)) := by rw [List.getElem?_map, hL j hj']; rfl
        rw [← ht, List.getElem?_take, if_pos (by omega)] at h1
        simpa using h1
      · simp [World.frozen?, hg]
  by_cases h0 : n = 0
  · subst h0
    cases a with
    | none => exact (Tryz.slices_Clone_string_nil 0 cap w).mono fun e w' ⟨h1, h2⟩ => ⟨.inl ⟨h1, rfl⟩, by rw [h2]; exact Below.refl _ _⟩
    | some a =>
        refine (Tryz.slices_Clone_string_zero a cap w).mono fun e w' ⟨v', h1, h2, h3, h4⟩ => ?_
        obtain ⟨g, c, rfl, r⟩ := key v' w' [] rfl (fun j hj => absurd hj (Nat.not_lt_zero _)) h2 h3
        exact ⟨.inr ⟨g, c, h1, r⟩, h4⟩
  · obtain ⟨b, o, rfl, _⟩ := hc 0 (by omega)
    have hc2 : ∀ j, j < n → w.cell? ⟨b, o + j, none⟩ = some (.string (L j)) := fun j hj => by
      obtain ⟨b', o', e, h⟩ := hc j hj
      injection e with e
      injection e with e1 e2 _
      rw [e1, e2]; exact h
    have hzl : ((List.range n).map L).length = n := by simp
    have hzg : ∀ j, j < n → ((List.range n).map L)[j]? = some (L j) := fun j hj => by simp [hj]
    refine (Tryz.slices_Clone_string b o n cap ((List.range n).map L) w (by rw [hzl]; exact Nat.le_refl _) (by omega) (fun j hj => by
      rw [hzl] at hj
      rw [List.getD_eq_getElem?_getD, hzg j hj]
      exact hc2 j hj)).mono fun e w' ⟨v', h1, h2, h3, h4⟩ => ?_
    rw [List.take_of_length_le (by rw [hzl]; exact Nat.le_refl _)] at h2
    obtain ⟨g, c, rfl, r⟩ := key v' w' _ hzl hzg h2 h3
    exact ⟨.inr ⟨g, c, h1, r⟩, h4⟩
theorem indexFuncS_nil (f : Value) (cap : Nat) (w : World) :
    Calls Tryz.prog 149 #[.slice none 0 cap, f] w fun e w' => e = .returned (.int .i64 (-1)) ∧ w = w' := by
  go_enter Tryz.func149, Tryz.ntmps149
  go_wp2_with fail
  refine wp_loop_rounds 1 ?_
  rw [rounds_succ]
  go_wp2_with fail
  go_ret
  exact ⟨rfl, rfl⟩
theorem deleteFunc_nil (f : Value) (cap : Nat) (w : World) :
    Calls Tryz.prog 86 #[.slice none 0 cap, f] w fun e w' => e = .returned (.slice none 0 cap) ∧ w = w' := by
  go_enter Tryz.func86, Tryz.ntmps86
  go_wp2_with fail
  refine (indexFuncS_nil f cap _).mono ?_
  rintro e w' ⟨rfl, rfl⟩
  go_wp2_with fail
  go_ret
  exact ⟨rfl, rfl⟩
def OkV (s : Str) : Prop := verErr s = 0 ∧ s.length ≤ 1000000000
abbrev RV := {s : Str // OkV s}
instance : Inhabited RV := ⟨⟨[118, 48, 46, 48, 46, 48], by decide +kernel, by decide⟩⟩
def encRV (x : RV) : Value := encStr x.1
def cmpRV (x y : RV) : Int := verCmp x.1 y.1
theorem cmpRV_swo : SWO (ltOf cmpRV) := by
  have h := verCmp_ord
  refine ⟨fun x => ?_, fun x y z h1 h2 => ?_, fun x y z h1 h2 => ?_⟩
  · unfold ltOf cmpRV
    rw [h.self]; rfl
  · unfold ltOf cmpRV at *
    rw [decide_eq_true_iff] at *
    have a1 := h.tr x.1 y.1 z.1 (by omega) (by omega)
    rcases Int.lt_or_eq_of_le a1 with a2 | a2
    · exact a2
    · exfalso
      have a3 := h.zero a2
      have a4 := h.tr z.1 x.1 y.1 (by omega) (by omega)
      have a5 := (h.anti y.1 z.1).1 h2
      omega
  · unfold ltOf cmpRV at *
    rw [decide_eq_false_iff_not] at *
    intro h3
    have b1 := (h.anti x.1 z.1).1 h3
    have b2 := h.anti y.1 x.1
    have b3 := h.anti z.1 y.1
    have b4 := h.anti x.1 y.1
    have b5 := h.anti y.1 z.1
    have := h.tr z.1 y.1 x.1 (by omega) (by omega)
    omega
theorem encRV_one : Go.Proofs.OneCell encRV := fun _ => rfl
theorem below_sortW {B : Nat} {w0 w : World} (h : Below B w0 w) (hB : B ≤ w0.heap.size) {blk : Nat} (hb : B ≤ blk) (off m : Nat) (d : Array RV) (os : Array Obj) : Below B w0 (Go.Proofs.sortWorld encRV w blk off m d os) := by
  have hBs := h.size
  refine h.trans ⟨rfl, rfl, rfl, ?_, fun k hk => ?_⟩
  · simp [sortWorld, grow, putRow, mapBlock, Sort.ahead]
  · simp only [sortWorld, grow, putRow, mapBlock, Sort.ahead]
    by_cases hk2 : k < w.heap.size
    · rw [Array.getElem?_append_left (by simpa using hk2), Array.getElem?_modify, if_neg (by omega)]
    · exact absurd (Nat.lt_of_lt_of_le hk (Nat.le_trans hB hBs)) hk2
theorem sortV_calls (ks : List Nat) (A : Nat → Addr) (w0 w : World) (hE : EnvP ks A w0) (g cap : Nat) (d : Array RV) (hB : Below w0.heap.size w0 w) (hg0 : w0.heap.size ≤ g) (hg : g < w.heap.size) (hH : Holds encRV w g 0 d) (hsz : d.size ≤ 1000000) :
    Calls Tryz.prog 142 #[.slice (some ⟨g, 0, none⟩) d.size cap, .func (.func 92) #[] #[]] w fun e w' => e = .returned (.tuple #[]) ∧ ∃ d' : Array RV, d'.size = d.size ∧ (∀ x, x ∈ d'.toList ↔ x ∈ d.toList) ∧ (∀ i j, i < j → j < d'.size → verCmp d'[i]!.1 d'[j]!.1 ≤ 0) ∧ Holds encRV w' g 0 d' ∧ g < w'.heap.size ∧ Below w0.heap.size w0 w' := by
  have hcmp : CmpLays1 Tryz.prog 92 #[] encRV cmpRV g 0 d.size w := by
    intro m os dk hs x y
    refine (verCompareD ks A ⟨x.1.toArray⟩ ⟨y.1.toArray⟩ _ (hE.below (below_sortW hB (Nat.le_refl _) hg0 0 m dk os)) (by show x.1.length ≤ _; exact x.2.2) (by show y.1.length ≤ _; exact y.2.2) x.2.1 y.2.1).mono ?_
    rintro e w' ⟨rfl, hb⟩
    exact ⟨rfl, hb.grown⟩
  refine (Any.slices_SortFunc laysSortS encRV encRV_one cmpRV cmpRV_swo 92 #[] g 0 cap d w (Go.Proofs.enters_of Tryz.func92 (by kernel_rfl) rfl) hcmp hH hg (by omega)).mono ?_
  rintro e w' ⟨rfl, d', n, os, hp, hs, rfl⟩
  obtain ⟨hp1, _, hp3⟩ := hp
  have hH2 : Holds encRV (putRow encRV (Sort.ahead w n) g 0 d') g 0 d' := holds_putRow encRV _ g 0 d d' hH hp1
  refine ⟨rfl, d', hp1, fun x => ?_, fun i j hij hj => ?_, ?_, ?_, below_sortW hB (Nat.le_refl _) hg0 0 n d' os⟩
  · have := hp3.mem_iff (a := x)
    rw [Array.extract_eq_self_of_le (by omega), Array.extract_eq_self_of_le (Nat.le_refl _)] at this
    exact this
  · have h1 := hs i j (Nat.zero_le _) hij (by omega)
    unfold ltOf cmpRV at h1
    rw [decide_eq_false_iff_not] at h1
    have := verCmp_ord.anti d'[i]!.1 d'[j]!.1
    have := verCmp_ord.anti d'[j]!.1 d'[i]!.1
    omega
  · exact holds_grow encRV _ os g 0 d' (by simpa [putRow, mapBlock, Sort.ahead] using hg) hH2
  · simp [sortWorld, grow, putRow, mapBlock, Sort.ahead]; omega
theorem map_sub {P : Str → Prop} : ∀ (l : List Str), (∀ x ∈ l, P x) → ∃ m : List {s : Str // P s}, m.map (·.1) = l
  | [], _ => ⟨[], rfl⟩
  | a :: r, h => by
    obtain ⟨m, hm⟩ := map_sub r (fun x hx => h x (by simp [hx]))
    exact ⟨⟨a, h a (by simp)⟩ :: m, by simp [hm]⟩
theorem map_get (m : Array RV) (j : Nat) (hj : j < m.size) : (m.map (·.1))[j]! = (m[j]!).1 := by
  rw [getElem!_pos _ j (by simpa using hj), getElem!_pos m j hj]; simp
theorem holds_rv {w : World} {g off : Nat} {m : Array RV} : Holds encRV w g off m ↔ Holds encStr w g off (m.map (·.1)) := by
  constructor
  · intro h j hj
    have hj' : j < m.size := by simpa using hj
    rw [map_get m j hj']
    exact h j hj'
  · intro h j hj
    have := h j (by simpa using hj)
    rw [map_get m j hj] at this
    exact this
theorem vsort_of {l : List Str} {d : Array RV} (hm : ∀ x : RV, x ∈ d.toList ↔ x.1 ∈ l) (hl : ∀ x ∈ l, x.length ≤ 1000000000) (hs : ∀ i j, i < j → j < d.size → verCmp d[i]!.1 d[j]!.1 ≤ 0) : compactUpTo (d.map (·.1)) (d.map (·.1)).size = vsort l := by
  apply rises_ext verCmp_ord
  · apply compact_rises verCmp_ord
    · intro i j hij hj
      have hj' : j < d.size := by simpa using hj
      rw [map_get d i (by omega), map_get d j hj']
      exact hs i j hij hj'
    · intro i j hi hj he
      have hi' : i < d.size := by simpa using hi
      have hj' : j < d.size := by simpa using hj
      rw [map_get d i hi', map_get d j hj'] at he ⊢
      exact (verCmp_same d[i]!.2.1 d[j]!.2.1).1 he
  · exact vsort_rises l
  · intro x
    rw [compact_mem, vsort_mem]
    constructor
    · rintro ⟨i, hi, rfl⟩
      have hi' : i < d.size := by simpa using hi
      rw [map_get d i hi']
      exact ⟨(hm _).1 (by rw [getElem!_pos d i hi']; simp), d[i]!.2.1⟩
    · rintro ⟨h1, h2⟩
      have := (hm ⟨x, h2, hl x h1⟩).2 h1
      obtain ⟨i, hi, e⟩ := List.mem_iff_getElem.1 this
      have hi' : i < d.size := by simpa using hi
      refine ⟨i, by simpa using hi', ?_⟩
      rw [map_get d i hi', getElem!_pos d i hi']
      have e' : d[i] = ⟨x, h2, hl x h1⟩ := by simpa using e
      rw [e']
theorem verSort1_calls (ks : List Nat) (A : Nat → Addr) (s : ByteArray) (w : World) (hE : EnvP ks A w) (hs : s.size ≤ 1000000000) :
    Calls Tryz.prog 141 #[.string s] w fun e w' => e = .returned (.bool (!decide (verErr s.data.toList = 0))) ∧ Below w.heap.size w w' := by
  have hk := verCheck_calls ks A s w hE hs
  by_cases h0 : verErr s.data.toList = 0
  · rw [decide_eq_true h0]
    rw [h0, errV_zero] at hk
    clear h0
    replace hk := Lib.hid hk
    go_enter Tryz.func141, Tryz.ntmps141
    go_wp2_with fail
    refine hk.out.mono ?_
    rintro e w1 ⟨rfl, hb1⟩
    go_wp2_with fail
    go_ret
    exact ⟨rfl, hb1⟩
  · rw [decide_eq_false h0]
    rw [errV_pos A h0] at hk
    clear h0
    replace hk := Lib.hid hk
    go_enter Tryz.func141, Tryz.ntmps141
    go_wp2_with fail
    refine hk.out.mono ?_
    rintro e w1 ⟨rfl, hb1⟩
    go_wp2_with fail
    go_ret
    exact ⟨rfl, hb1⟩
theorem Tryz.enters_sort1 : ∀ args w, (callFunc 141 args).run Tryz.prog w = .ok (.enter 141 args) w := Go.Proofs.enters_of Tryz.func141 (by kernel_rfl) rfl
end Go.Proofs.Pw

namespace Go.Proofs.Pw
open Go.Lib hiding intOf
theorem lstF_mem {m : Nat} {M : Nat → ByteArray} {x : Str} : x ∈ lstF m M ↔ ∃ j, j < m ∧ (M j).data.toList = x := by
  simp [lstF]
end Go.Proofs.Pw
