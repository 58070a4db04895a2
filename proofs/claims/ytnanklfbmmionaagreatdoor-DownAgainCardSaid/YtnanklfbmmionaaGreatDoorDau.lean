/- Da: walks and plain laws, joined: SortLayM SortM SortMO OwnIdx AppM SlModK SlIns. Conditions: at each theorem. -/
import Derived.Test.YtnanklfbmmionaaGreatDoorProg
import Derived.Shelf.SlSortCmp.NoneTotal
import Derived.Test.YtnanklfbmmionaaGreatDoorDat
import Derived.Test.YtnanklfbmmionaaGreatDoorDaj
import Derived.Test.YtnanklfbmmionaaGreatDoorDab
import Derived.Test.YtnanklfbmmionaaGreatDoorDag
import Derived.Test.YtnanklfbmmionaaGreatDoorDak
import Derived.Test.YtnanklfbmmionaaGreatDoorDaf
import Derived.Laws.CopyRow
import Derived.Laws.CopyOwn
import Derived.Lib.Overlaps
import Derived.Lib.AppendZerosOnto
import Derived.Lib.SliceRun
import Derived.Deep.RegionLaw
import Derived.Deep.AppendLies
import Derived.Shelf.RegionOpenPlain

namespace Go.Proofs.Pw
open Go.RowKit
def laysSortMR : Go.Shelf.Ren := ⟨fun | 6 => 93 | 14 => 157 | 15 => 158 | 20 => 212 | 21 => 213 | 22 => 214 | 23 => 215 | 24 => 216 | 25 => 217 | 26 => 218 | 27 => 219 | 28 => 220 | 29 => 221 | 46 => 266 | 47 => 267 | 48 => 268 | 49 => 269 | 50 => 270 | 57 => 298 | n => n,
  fun | 0 => 0 | 3 => 3 | 4 => 4 | 5 => 5 | 9 => 9 | 22 => 23 | 24 => 29 | 25 => 142 | 39 => 180 | 45 => 234 | 46 => 235 | 50 => 239 | 53 => 33 | 55 => 128 | 66 => 284 | 70 => 288 | 76 => 308 | 77 => 123 | n => n, fun n => n⟩
theorem laysSortM : Go.Proofs.SlLaysF0.n6 Tryz.prog laysSortMR := {
  mixed := by kernel_rfl
  f6 := ⟨Tryz.f93.name, by decide, Tryz.func93.trans (congrArg some (by kernel_rfl))⟩
  f14 := ⟨Tryz.f157.name, by decide, Tryz.func157.trans (congrArg some (by kernel_rfl))⟩
  f15 := Tryz.func158.trans (congrArg some (by kernel_rfl))
  f20 := ⟨Tryz.f212.name, by decide, Tryz.func212.trans (congrArg some (by kernel_rfl))⟩
  f21 := ⟨Tryz.f213.name, by decide, Tryz.func213.trans (congrArg some (by kernel_rfl))⟩
  f22 := ⟨Tryz.f214.name, by decide, Tryz.func214.trans (congrArg some (by kernel_rfl))⟩
  f23 := ⟨Tryz.f215.name, by decide, Tryz.func215.trans (congrArg some (by kernel_rfl))⟩
  f24 := ⟨Tryz.f216.name, by decide, Tryz.func216.trans (congrArg some (by kernel_rfl))⟩
  f25 := ⟨Tryz.f217.name, by decide, Tryz.func217.trans (congrArg some (by kernel_rfl))⟩
  f26 := ⟨Tryz.f218.name, by decide, Tryz.func218.trans (congrArg some (by kernel_rfl))⟩
  f27 := ⟨Tryz.f219.name, by decide, Tryz.func219.trans (congrArg some (by kernel_rfl))⟩
  f28 := Tryz.func220.trans (congrArg some (by kernel_rfl))
  f29 := Tryz.func221.trans (congrArg some (by kernel_rfl))
  f46 := ⟨Tryz.f266.name, by decide, Tryz.func266.trans (congrArg some (by kernel_rfl))⟩
  f47 := Tryz.func267.trans (congrArg some (by kernel_rfl))
  f48 := Tryz.func268.trans (congrArg some (by kernel_rfl))
  f49 := ⟨Tryz.f269.name, by decide, Tryz.func269.trans (congrArg some (by kernel_rfl))⟩
  f50 := ⟨Tryz.f270.name, by decide, Tryz.func270.trans (congrArg some (by kernel_rfl))⟩
  f57 := ⟨Tryz.f298.name, by decide, Tryz.func298.trans (congrArg some (by kernel_rfl))⟩
  t0 := Tryz.underlying0
  a0 := Tryz.isAgg0
  z0 := Tryz.sizeOf0
  v0 := Tryz.zeroValue0
  t3 := Tryz.underlying3
  a3 := Tryz.isAgg3
  z3 := Tryz.sizeOf3
  v3 := Tryz.zeroValue3
  t4 := Tryz.underlying4
  a4 := Tryz.isAgg4
  z4 := Tryz.sizeOf4
  v4 := Tryz.zeroValue4
  t5 := Tryz.underlying5
  a5 := Tryz.isAgg5
  z5 := Tryz.sizeOf5
  v5 := Tryz.zeroValue5
  t9 := Tryz.underlying9
  a9 := Tryz.isAgg9
  z9 := Tryz.sizeOf9
  v9 := Tryz.zeroValue9
  t22 := Tryz.underlying23
  a22 := Tryz.isAgg23
  z22 := Tryz.sizeOf23
  v22 := Tryz.zeroValue23
  t25 := Tryz.underlying142
  a25 := Tryz.isAgg142
  z25 := Tryz.sizeOf142
  v25 := Tryz.zeroValue142
  t39 := Tryz.underlying180
  a39 := Tryz.isAgg180
  z39 := Tryz.sizeOf180
  v39 := Tryz.zeroValue180
  t45 := Tryz.underlying234
  a45 := Tryz.isAgg234
  z45 := Tryz.sizeOf234
  v45 := Tryz.zeroValue234
  t46 := Tryz.underlying235
  a46 := Tryz.isAgg235
  z46 := Tryz.sizeOf235
  v46 := Tryz.zeroValue235
  t50 := Tryz.underlying239
  a50 := Tryz.isAgg239
  z50 := Tryz.sizeOf239
  v50 := Tryz.zeroValue239
  t53 := Tryz.underlying33
  a53 := Tryz.isAgg33
  z53 := Tryz.sizeOf33
  v53 := Tryz.zeroValue33
  t55 := Tryz.underlying128
  a55 := Tryz.isAgg128
  z55 := Tryz.sizeOf128
  v55 := Tryz.zeroValue128
  t66 := Tryz.underlying284
  a66 := Tryz.isAgg284
  z66 := Tryz.sizeOf284
  v66 := Tryz.zeroValue284
  t70 := Tryz.underlying288
  a70 := Tryz.isAgg288
  z70 := Tryz.sizeOf288
  v70 := Tryz.zeroValue288
  t76 := Tryz.underlying308
  a76 := Tryz.isAgg308
  z76 := Tryz.sizeOf308
  v76 := Tryz.zeroValue308
  t77 := Tryz.underlying123
  a77 := Tryz.isAgg123
  z77 := Tryz.sizeOf123
  v77 := Tryz.zeroValue123 }
end Go.Proofs.Pw

namespace Go.Proofs.Pw
open Go.RowKit
open Go.Proofs Go.Sort
open Go.Lib hiding intOf
def OkM (m : ByteArray × ByteArray) : Prop := verErr m.2.data.toList = 0 ∧ m.2.size ≤ 1000000000
abbrev RM := {m : ByteArray × ByteArray // OkM m}
instance : Inhabited RM := ⟨⟨(⟨#[]⟩, ⟨#[118, 48, 46, 48, 46, 48]⟩), by decide +kernel, by decide⟩⟩
def tRM (x : RM) : Md := (x.1.1.data.toList, x.1.2.data.toList)
def encRM (x : RM) : List Value := [.string x.1.1, .string x.1.2]
def cmpRM (x y : RM) : Int := modCmp (tRM x) (tRM y)
theorem swo_of {α : Type} {f : α → α → Int} (h : Ord3 f) : SWO (ltOf f) := by
  refine ⟨fun x => ?_, fun x y z h1 h2 => ?_, fun x y z h1 h2 => ?_⟩
  · unfold ltOf
    rw [h.self]; rfl
  · unfold ltOf at *
    rw [decide_eq_true_iff] at *
    have a1 := h.tr x y z (by omega) (by omega)
    rcases Int.lt_or_eq_of_le a1 with a2 | a2
    · exact a2
    · exfalso
      have a3 := h.zero a2
      have a4 := h.tr z x y (by omega) (by omega)
      have a5 := (h.anti y z).1 h2
      omega
  · unfold ltOf at *
    rw [decide_eq_false_iff_not] at *
    intro h3
    have b1 := (h.anti x z).1 h3
    have b2 := h.anti y x
    have b3 := h.anti z y
    have b4 := h.anti x y
    have b5 := h.anti y z
    have := h.tr z y x (by omega) (by omega)
    omega
theorem cmpRM_ord : Ord3 cmpRM := modCmp_ord.comap tRM
theorem encRM_len (x : RM) : (encRM x).length = 2 := rfl
theorem encRM_one (x : RM) : ∀ v ∈ encRM x, v.oneCell' = true := by
  intro v hv
  simp [encRM] at hv
  rcases hv with rfl | rfl <;> rfl
theorem below_sortWK {B : Nat} {w0 w : World} (h : Below B w0 w) (hB : B ≤ w0.heap.size) {blk : Nat} (hb : B ≤ blk) (off m : Nat) (d : Array RM) (os : Array Obj) : Below B w0 (sortWorldK encRM 2 w blk off m d os) := by
  have hBs := h.size
  refine h.trans ⟨rfl, rfl, rfl, ?_, fun k hk => ?_⟩
  · simp [sortWorldK, grow, putRowK, putRow, mapBlock, Sort.ahead]
  · simp only [sortWorldK, grow, putRowK, putRow, mapBlock, Sort.ahead]
    by_cases hk2 : k < w.heap.size
    · rw [Array.getElem?_append_left (by simpa using hk2), Array.getElem?_modify, if_neg (by omega)]
    · exact absurd (Nat.lt_of_lt_of_le hk (Nat.le_trans hB hBs)) hk2
theorem map_subM {P : ByteArray × ByteArray → Prop} : ∀ (l : List (ByteArray × ByteArray)), (∀ x ∈ l, P x) → ∃ m : List {s : ByteArray × ByteArray // P s}, m.map (·.1) = l
  | [], _ => ⟨[], rfl⟩
  | a :: r, h => by
    obtain ⟨m, hm⟩ := map_subM r (fun x hx => h x (by simp [hx]))
    exact ⟨⟨a, h a (by simp)⟩ :: m, by simp [hm]⟩
theorem modsAt_holds {w : World} {g cap : Nat} {d : Array RM} (h : HoldsK encRM 2 w g 0 d) (hc : d.size ≤ cap) (hm : cap ≤ 9223372036854775807) : ModsAt w (.slice (some ⟨g, 0, none⟩) d.size cap) (d.toList.map tRM) := by
  refine ⟨some ⟨g, 0, none⟩, d.size, cap, fun i => (d[i]!).1.1, fun i => (d[i]!).1.2, rfl, ?_, hc, hm, fun j hj => ?_⟩
  · apply List.ext_getElem?
    intro i
    by_cases hi : i < d.size
    · rw [mdF_get _ _ _ i hi, List.getElem?_map, List.getElem?_eq_getElem (by simpa using hi)]
      rw [getElem!_pos d i hi]
      simp [tRM]
    · rw [List.getElem?_eq_none (by simpa using hi), List.getElem?_eq_none (by rw [mdF_length]; omega)]
  · have h0 := (h.cell hj (show 0 < 2 by decide)).1
    have h1 := (h.cell hj (show 1 < 2 by decide)).1
    exact ⟨g, 0, rfl, by simpa [encRM] using h0, by simpa [encRM] using h1⟩
theorem holds_own {w : World} {base e g cap : Nat} {L : List (ByteArray × ByteArray)} {d : Array RM} (hd : d.toList.map (·.1) = L) (h : w.ownsRow base e 2 (.slice (some ⟨g, 0, none⟩) L.length cap) L.length (mdVs L)) : HoldsK encRM 2 w g 0 d := by
  have hs : d.size = L.length := by rw [← hd]; simp
  rcases h.2 with ⟨h2, _⟩ | ⟨g', c', cur, e1, _, hg, hn, _, hcs, ht⟩
  · cases h2
  · injection e1 with e1 _ e2
    injection e1 with e1
    injection e1 with e1
    subst e1 e2
    intro j hj
    rw [size_flatK] at hj
    have hjl : j < (mdVs L).length := by rw [mdVs_length]; omega
    have hcur : j < cur.size := by rw [hcs]; omega
    have e3 : cur[j]? = (mdVs L)[j]? := by
      rw [← ht, List.getElem?_take, if_pos (by omega)]
      simp
    rw [get_flatK _ _ _ _ hj]
    have e4 : (mdVs L)[j]? = some ((encRM d[j / 2]!)[j % 2]!) := by
      have hget : L[j / 2]? = some (d[j / 2]!).1 := by
        have h2 : j / 2 < d.size := by omega
        rw [← hd, List.getElem?_map, List.getElem?_eq_getElem (by simpa using h2), getElem!_pos d _ h2]
        simp
      obtain ⟨q0, q1⟩ := mdVs_get hget
      rcases Nat.mod_two_eq_zero_or_one j with h2 | h2
      · rw [show j / 2 * 2 = j by omega] at q0
        rw [q0, h2]; rfl
      · rw [show j / 2 * 2 + 1 = j by omega] at q1
        rw [q1, h2]; rfl
    refine ⟨?_, ?_⟩
    · rw [Nat.zero_add, cell_of_row w g j cur e (0, 0) hg, e3, e4]; rfl
    · simp [World.frozen?, hg]
theorem sortM_calls (ks : List Nat) (A : Nat → Addr) (w0 w : World) (hE : EnvP ks A w0) (base : Nat) (x : Value) (L : List (ByteArray × ByteArray)) (hB : Below w0.heap.size w0 w) (hb : w0.heap.size ≤ base) (ho : w.ownsRow base 29 2 x L.length (mdVs L)) (hL : ∀ m ∈ L, OkM m) (hsz : L.length ≤ 1000000) :
    Calls Tryz.prog 93 #[x, .func (.func 94) #[] #[]] w fun e w' => e = .returned (.tuple #[]) ∧ (∃ l' : List Md, ModsAt w' x l' ∧ l'.Perm (mdTs L) ∧ l'.Pairwise fun a b => modCmp a b ≤ 0) ∧ Below w0.heap.size w0 w' := by
  rcases ho.2 with ⟨rfl, h0⟩ | ⟨g, cap, cur, rfl, hbg, hg, hn, hm, hcs, ht⟩
  · have : L = [] := List.eq_nil_of_length_eq_zero h0
    subst this
    refine (AnyF.slices_SortFunc_none laysSortM none 0 _ w).mono ?_
    rintro e w' ⟨rfl, rfl⟩
    exact ⟨rfl, ⟨[], ModsAt.nil _, List.Perm.refl _, List.Pairwise.nil⟩, hB⟩
  · obtain ⟨m, hd⟩ := map_subM L hL
    have hd' : (m.toArray).toList.map (·.1) = L := by simpa using hd
    have hH := holds_own (d := m.toArray) hd' ho
    have hms : m.toArray.size = L.length := by rw [← hd]; simp
    have hgw : g < w.heap.size := (Array.getElem?_eq_some_iff.1 hg).1
    have hcmp : CmpLays Tryz.prog 94 #[] encRM 2 cmpRM g 0 m.toArray.size w := by
      intro n os dk hs a b
      refine (modCompareD ks A a.1.1 a.1.2 b.1.1 b.1.2 _ (hE.below (below_sortWK hB (Nat.le_refl _) (by omega) 0 n dk os)) a.2.2 b.2.2 a.2.1 b.2.1).mono ?_
      rintro e w' ⟨rfl, hb⟩
      exact ⟨rfl, hb.grown⟩
    have h := AnyQ.slices_SortFunc laysSortM 2 Tryz.isAgg29 Tryz.sizeOf29 encRM encRM_len encRM_one cmpRM (swo_of cmpRM_ord) 94 #[] g 0 cap m.toArray w (Go.Proofs.enters_of Tryz.func94 (by kernel_rfl) rfl) hcmp hH hgw (by omega)
    rw [hms] at h
    refine h.mono ?_
    rintro e w' ⟨rfl, d', n, os, hp, hs, rfl⟩
    obtain ⟨hp1, _, hp3⟩ := hp
    have hH2 : HoldsK encRM 2 (sortWorldK encRM 2 w g 0 n d' os) g 0 d' := holdsK_sortWorldK_c encRM 2 w g 0 m.toArray d' n os hH hgw hp1
    refine ⟨rfl, ⟨d'.toList.map tRM, ?_, ?_, ?_⟩, below_sortWK hB (Nat.le_refl _) (by omega) 0 n d' os⟩
    · have := modsAt_holds (cap := cap) hH2 (by omega) (by unfold maxLen at hm; exact hm)
      rw [hp1, hms] at this
      exact this
    · have hpm := hp3
      rw [Array.extract_eq_self_of_le (show d'.size ≤ L.length by omega), Array.extract_eq_self_of_le (show m.toArray.size ≤ L.length by omega)] at hpm
      rw [← hd]
      unfold mdTs
      rw [List.map_map]
      exact hpm.map tRM
    · rw [List.pairwise_map, List.pairwise_iff_getElem]
      intro i j hi hj hij
      have hj' : j < d'.size := by simpa using hj
      have h1 := hs i j (Nat.zero_le _) hij (by omega)
      unfold ltOf at h1
      rw [decide_eq_false_iff_not, getElem!_pos d' i (by omega), getElem!_pos d' j hj'] at h1
      have := cmpRM_ord.anti d'[i] d'[j]
      have := cmpRM_ord.anti d'[j] d'[i]
      show cmpRM d'.toList[i] d'.toList[j] ≤ 0
      rw [Array.getElem_toList, Array.getElem_toList]
      omega
end Go.Proofs.Pw

namespace Go.Proofs.Pw
open Go.RowKit
open Go.Proofs Go.Sort
open Go.Lib hiding intOf
theorem row_grow {w : World} {os : Array Obj} {g : Nat} {o : Obj} (h : w.heap[g]? = some o) : (grow w os).heap[g]? = some o := by
  have h1 := (Array.getElem?_eq_some_iff.1 h).1
  show (w.heap ++ os)[g]? = _
  rw [Array.getElem?_append, if_pos h1]
  exact h
theorem own_of_holds {w : World} {base e g cap : Nat} {d : Array RM} {cur : Array Value} (hg : w.heap[g]? = some (.cells cur e (0, 0))) (hs : cur.size = cap * 2) (hH : HoldsK encRM 2 w g 0 d) (hb : base ≤ g) (hc : d.size ≤ cap) (hm : cap ≤ maxLen) :
    w.ownsRow base e 2 (.slice (some ⟨g, 0, none⟩) d.size cap) d.size (mdVs (d.toList.map (·.1))) := by
  have hl : (mdVs (d.toList.map (·.1))).length = d.size * 2 := by rw [mdVs_length]; simp
  refine ⟨hl, .inr ⟨g, cap, cur, rfl, hb, hg, hc, hm, hs, ?_⟩⟩
  apply List.ext_getElem?
  intro j
  by_cases hj : j < d.size * 2
  · rw [List.getElem?_take, if_pos hj]
    have h1 := (hH j (by rw [size_flatK]; exact hj)).1
    rw [get_flatK _ _ _ _ hj, Nat.zero_add, cell_of_row w g j cur e (0, 0) hg] at h1
    have e4 : (mdVs (d.toList.map (·.1)))[j]? = some ((encRM d[j / 2]!)[j % 2]!) := by
      have hget : (d.toList.map (·.1))[j / 2]? = some (d[j / 2]!).1 := by
        have h2 : j / 2 < d.size := by omega
        rw [List.getElem?_map, List.getElem?_eq_getElem (by simpa using h2), getElem!_pos d _ h2]
        simp
      obtain ⟨q0, q1⟩ := mdVs_get hget
      rcases Nat.mod_two_eq_zero_or_one j with h2 | h2
      · rw [show j / 2 * 2 = j by omega] at q0
        rw [q0, h2]; rfl
      · rw [show j / 2 * 2 + 1 = j by omega] at q1
        rw [q1, h2]; rfl
    rw [e4, Array.getElem?_toList]
    exact h1
  · rw [List.getElem?_take, if_neg hj, List.getElem?_eq_none (by omega)]
theorem sortMO_calls (ks : List Nat) (A : Nat → Addr) (w0 w : World) (hE : EnvP ks A w0) (base : Nat) (x : Value) (L : List (ByteArray × ByteArray)) (hB : Below w0.heap.size w0 w) (hb : w0.heap.size ≤ base) (ho : w.ownsRow base 29 2 x L.length (mdVs L)) (hL : ∀ m ∈ L, OkM m) (hsz : L.length ≤ 1000000) :
    Calls Tryz.prog 93 #[x, .func (.func 94) #[] #[]] w fun e w' => e = .returned (.tuple #[]) ∧ (∃ L' : List (ByteArray × ByteArray), L'.length = L.length ∧ w'.ownsRow base 29 2 x L'.length (mdVs L') ∧ (mdTs L').Perm (mdTs L) ∧ (mdTs L').Pairwise fun a b => modCmp a b ≤ 0) ∧ Below w0.heap.size w0 w' := by
  rcases ho.2 with ⟨rfl, h0⟩ | ⟨g, cap, cur, rfl, hbg, hg, hn, hm, hcs, ht⟩
  · have : L = [] := List.eq_nil_of_length_eq_zero h0
    subst this
    refine (AnyF.slices_SortFunc_none laysSortM none 0 _ w).mono ?_
    rintro e w' ⟨rfl, rfl⟩
    exact ⟨rfl, ⟨[], rfl, World.ownsRow_nil _ _ _ _, List.Perm.refl _, List.Pairwise.nil⟩, hB⟩
  · obtain ⟨m, hd⟩ := map_subM L hL
    have hd' : (m.toArray).toList.map (·.1) = L := by simpa using hd
    have hH := holds_own (d := m.toArray) hd' ho
    have hms : m.toArray.size = L.length := by rw [← hd]; simp
    have hgw : g < w.heap.size := (Array.getElem?_eq_some_iff.1 hg).1
    have hcmp : CmpLays Tryz.prog 94 #[] encRM 2 cmpRM g 0 m.toArray.size w := by
      intro n os dk hs a b
      refine (modCompareD ks A a.1.1 a.1.2 b.1.1 b.1.2 _ (hE.below (below_sortWK hB (Nat.le_refl _) (by omega) 0 n dk os)) a.2.2 b.2.2 a.2.1 b.2.1).mono ?_
      rintro e w' ⟨rfl, hb⟩
      exact ⟨rfl, hb.grown⟩
    have h := AnyQ.slices_SortFunc laysSortM 2 Tryz.isAgg29 Tryz.sizeOf29 encRM encRM_len encRM_one cmpRM (swo_of cmpRM_ord) 94 #[] g 0 cap m.toArray w (Go.Proofs.enters_of Tryz.func94 (by kernel_rfl) rfl) hcmp hH hgw (by omega)
    rw [hms] at h
    refine h.mono ?_
    rintro e w' ⟨rfl, d', n, os, hp, hs, rfl⟩
    obtain ⟨hp1, _, hp3⟩ := hp
    have hH2 : HoldsK encRM 2 (sortWorldK encRM 2 w g 0 n d' os) g 0 d' := holdsK_sortWorldK_c encRM 2 w g 0 m.toArray d' n os hH hgw hp1
    have hsz' : d'.size = L.length := by rw [hp1]; exact hms
    have hrowg : ∃ cur', (sortWorldK encRM 2 w g 0 n d' os).heap[g]? = some (.cells cur' 29 (0, 0)) ∧ cur'.size = cap * 2 := by
      refine ⟨Go.Sort.putCells id 0 (flatK encRM 2 d') cur, ?_, by unfold Go.Sort.putCells; rw [Array.size_mapIdx]; exact hcs⟩
      have h1 : (Go.Sort.mapBlock (Go.Sort.ahead w n) g (Go.Sort.putCells id 0 (flatK encRM 2 d'))).heap[g]? = some (.cells (Go.Sort.putCells id 0 (flatK encRM 2 d') cur) 29 (0, 0)) := by
        show ((w.heap).modify g _)[g]? = _
        rw [Array.getElem?_modify, if_pos rfl, hg]
        rfl
      exact row_grow h1
    obtain ⟨cur', hg', hcs'⟩ := hrowg
    have hml : (d'.toList.map (·.1)).length = L.length := by simp [hsz']
    have hts : mdTs (d'.toList.map (·.1)) = d'.toList.map tRM := by unfold mdTs; rw [List.map_map]; rfl
    refine ⟨rfl, ⟨d'.toList.map (·.1), hml, ?_, ?_, ?_⟩, below_sortWK hB (Nat.le_refl _) (by omega) 0 n d' os⟩
    · have := own_of_holds (base := base) hg' hcs' hH2 hbg (by omega) hm
      rw [hml]
      rw [hsz'] at this
      exact this
    · rw [hts]
      have hpm := hp3
      rw [Array.extract_eq_self_of_le (show d'.size ≤ L.length by omega), Array.extract_eq_self_of_le (show m.toArray.size ≤ L.length by omega)] at hpm
      rw [← hd]
      unfold mdTs
      rw [List.map_map]
      exact hpm.map tRM
    · rw [hts, List.pairwise_map, List.pairwise_iff_getElem]
      intro i j hi hj hij
      have hj' : j < d'.size := by simpa using hj
      have h1 := hs i j (Nat.zero_le _) hij (by omega)
      unfold ltOf at h1
      rw [decide_eq_false_iff_not, getElem!_pos d' i (by omega), getElem!_pos d' j hj'] at h1
      have := cmpRM_ord.anti d'[i] d'[j]
      have := cmpRM_ord.anti d'[j] d'[i]
      show cmpRM d'.toList[i] d'.toList[j] ≤ 0
      rw [Array.getElem_toList, Array.getElem_toList]
      omega
end Go.Proofs.Pw

namespace Go.Proofs.Pw
open Go.RowKit
open Go.Lib hiding intOf
set_option maxRecDepth 100000 in
theorem app_strs (w : World) (base : Nat) (hb : base ≤ w.heap.size) (v : Value) (l : List Str) (h : StrsAt w v l) (hl : l.length ≤ 1000000) :
    ∃ kv w', (Builtin.append_ #[35, 35] 35 #[.slice none 0 0, v]).run Tryz.prog w = .ok kv w' ∧ (∃ T, l = strTs T ∧ w'.ownsRow base 9 1 kv T.length (strVs T)) ∧ w.grownBy w' none := by
  obtain ⟨i0, hi, hz0, hz1, hz2⟩ := info_parts Tryz.infoString
  obtain ⟨a, n, cap, L, rfl, rfl, hnc, hcap, hc⟩ := h
  rw [lstF_length] at hl
  cases a with
  | none =>
    have hn0 : n = 0 := by
      rcases Nat.eq_zero_or_pos n with h | h
      · exact h
      · obtain ⟨b, o, e, _⟩ := hc 0 h
        cases e
    subst hn0
    exact ⟨_, w, run_append_nothing (P := Tryz.prog) w 35 35 35 9 i0 Tryz.underlying35 hi none 0 0 (Nat.le_refl _) (.slice none 0 cap) (Src.ofNil w Tryz.underlying35 cap), ⟨[], rfl, World.ownsRow_nil _ _ _ _⟩, World.grownBy.refl _ _⟩
  | some a =>
    have hnews : ∀ j u, (strVs ((List.range n).map L))[j]? = some u → w.cell? (a.add j) = some u := by
      intro j u hu
      have hj : j < n := by
        have := (List.getElem?_eq_some_iff.1 hu).1
        simpa [strVs] using this
      obtain ⟨b, o, e, h1⟩ := hc j hj
      injection e with e
      subst e
      have hu2 : u = .string (L j) := by
        simp [strVs, hj] at hu
        exact hu.symm
      rw [hu2, show (⟨b, o, none⟩ : Addr).add j = ⟨b, o + j, none⟩ from by unfold Addr.add; split <;> simp_all]
      exact h1
    obtain ⟨kv, w', h1, h2, h3, _⟩ := run_append_own (P := Tryz.prog) w base 35 35 9 i0 (.string ⟨#[]⟩) 1 16 Tryz.underlying35 hi hz0 hz1 hz2 rfl (by decide) (.slice none 0 0) 0 [] (World.ownsRow_nil _ _ _ _) a n cap (strVs ((List.range n).map L)) (by simp [strVs]) hnews (fun u hu => by
      simp [strVs] at hu
      obtain ⟨_, _, rfl⟩ := hu
      rfl) (by unfold maxLen; omega) (by omega) hb
    refine ⟨kv, w', h1, ⟨(List.range n).map L, by simp [strTs, lstF], ?_⟩, h3⟩
    simpa using h2
def ec (P V : Nat → ByteArray) (Rv Kv : Nat → Value) (B : Nat → Bool) (j : Nat) : List Value := [.string (P j), .string (V j), Rv j, Kv j, .bool (B j)]
def enVs (P V : Nat → ByteArray) (Rv Kv : Nat → Value) (B : Nat → Bool) (k : Nat) : List Value := (List.range k).flatMap (ec P V Rv Kv B)
theorem enVs_succ (P V Rv Kv B k) : enVs P V Rv Kv B (k + 1) = enVs P V Rv Kv B k ++ ec P V Rv Kv B k := by
  unfold enVs
  rw [List.range_succ, List.flatMap_append]
  simp
theorem enVs_length (P V Rv Kv B) : ∀ k, (enVs P V Rv Kv B k).length = k * 5
  | 0 => rfl
  | k + 1 => by rw [enVs_succ, List.length_append, enVs_length]; simp [ec]; omega
theorem enVs_get (P V Rv Kv B) : ∀ (k j c : Nat), j < k → c < 5 → (enVs P V Rv Kv B k)[j * 5 + c]? = (ec P V Rv Kv B j)[c]?
  | 0, j, c, h, _ => absurd h (Nat.not_lt_zero _)
  | k + 1, j, c, h, hc => by
    rw [enVs_succ]
    by_cases e : j = k
    · subst e
      rw [List.getElem?_append_right (by rw [enVs_length]; omega), enVs_length]
      congr 1; omega
    · rw [List.getElem?_append_left (by rw [enVs_length]; omega)]
      exact enVs_get P V Rv Kv B k j c (by omega) hc
theorem enVs_cong {P V : Nat → ByteArray} {Rv Kv Rv' Kv' : Nat → Value} {B : Nat → Bool} : ∀ {k : Nat}, (∀ j, j < k → Rv j = Rv' j ∧ Kv j = Kv' j) → enVs P V Rv Kv B k = enVs P V Rv' Kv' B k
  | 0, _ => rfl
  | k + 1, h => by
    rw [enVs_succ, enVs_succ, enVs_cong (k := k) (fun j hj => h j (by omega))]
    unfold ec
    rw [(h k (by omega)).1, (h k (by omega)).2]
structure RowsE (w : World) (base k : Nat) (R : Nat → List Md) (K : Nat → List Str) (Rv Kv : Nat → Value) : Prop where
  r : ∀ j, j < k → ∃ M, R j = mdTs M ∧ w.ownsRow base 29 2 (Rv j) M.length (mdVs M)
  s : ∀ j, j < k → ∃ T, K j = strTs T ∧ w.ownsRow base 9 1 (Kv j) T.length (strVs T)
theorem tag_apart {w : World} {b b' s s' m m' : Nat} {e e' : TypeId} {u o : Value} {xs ys : List Value} (h : w.ownsRow b e s u m xs) (h2 : w.ownsRow b' e' s' o m' ys) (hne : e ≠ e') : u.ownBlock = none ∨ u.ownBlock ≠ o.ownBlock := by
  refine apart_row fun g hg hu => ?_
  rcases h.2 with ⟨rfl, _⟩ | ⟨g1, c1, cur1, rfl, _, k1, _⟩
  · cases hu
  · rcases h2.2 with ⟨rfl, _⟩ | ⟨g2, c2, cur2, rfl, _, k2, _⟩
    · cases hg
    · have e1 : g1 = g := Option.some.inj hu
      have e2 : g2 = g := Option.some.inj hg
      subst e1 e2
      rw [k1] at k2
      injection k2 with k2
      injection k2 with _ k3 _
      exact hne k3
theorem entsAt_own {w : World} {base n : Nat} {e : TypeId} {v : Value} {P V : Nat → ByteArray} {R : Nat → List Md} {K : Nat → List Str} {B : Nat → Bool} {Rv Kv : Nat → Value} (h : w.ownsRow base e 5 v n (enVs P V Rv Kv B n)) (hr : RowsE w base n R K Rv Kv) : EntsAt w v (enF n P V R K B) := by
  have hR : ∀ j, j < n → ModsAt w (Rv j) (R j) := fun j hj => by
    obtain ⟨M, e1, h1⟩ := hr.r j hj
    rw [e1]; exact modsAt_own h1
  have hK : ∀ j, j < n → StrsAt w (Kv j) (K j) := fun j hj => by
    obtain ⟨T, e1, h1⟩ := hr.s j hj
    rw [e1]; exact strsAt_own h1
  rcases h.2 with ⟨rfl, h0⟩ | ⟨g, cap, cur, rfl, hb, hg, hn, hm, hs, ht⟩
  · subst h0
    exact EntsAt.nil w
  · refine ⟨some ⟨g, 0, none⟩, n, cap, P, V, R, K, B, Rv, Kv, rfl, rfl, hn, by unfold maxLen at hm; exact hm, fun j hj => ⟨g, 0, rfl, ?_⟩, hR, hK⟩
    have hcell : ∀ c u, c < 5 → (ec P V Rv Kv B j)[c]? = some u → w.cell? ⟨g, 0 + j * 5 + c, none⟩ = some u := fun c u hc hu => by
      rw [← enVs_get P V Rv Kv B n j c hj hc, ← ht, List.getElem?_take, if_pos (by omega)] at hu
      rw [Nat.zero_add, cell_of_row w g _ cur e (0, 0) hg]
      simpa using hu
    exact ⟨hcell 0 _ (by decide) rfl, hcell 1 _ (by decide) rfl, hcell 2 _ (by decide) rfl, hcell 3 _ (by decide) rfl, hcell 4 _ (by decide) rfl⟩
theorem EntsIn.forms2 {w : World} {a n cap P V R K B Rv Kv} (h : EntsIn w a n cap P V R K B Rv Kv) {j : Nat} (hj : j < n) : ∃ a1 n1 c1 a2 n2 c2, Rv j = .slice a1 n1 c1 ∧ Kv j = .slice a2 n2 c2 := by
  obtain ⟨a1, n1, c1, _, _, e1, _⟩ := h.reqs j hj
  obtain ⟨a2, n2, c2, _, e2, _⟩ := h.packs j hj
  exact ⟨_, _, _, _, _, _, e1, e2⟩
theorem Tryz.infoEnt : (Tryz.prog.info? 37).map (fun i => (i.zero, i.size, i.bytes)) = some (some (.agg #[.string ⟨#[]⟩, .string ⟨#[]⟩, .slice none 0 0, .slice none 0 0, .bool false]), 5, 88) := by kernel_rfl
theorem wpList_append_run {P : Program} {w : World} {ops : Array Oper} {rest : List Oper} {o : Oper} {a : Act} {Q : Exit → Act → World → Prop} (hgd : o.guard = none) (s x : Operand) (t : TypeId)
    (ho : o.op = .call { callee := .builtin .append, args := #[s, x], argTypes := #[t, t] }) (v y : Value) (hs : a.eval s = v) (hx : a.eval x = y) (v' : Value) (w' : World)
    (hr : (Builtin.append_ #[t, t] o.type #[v, y]).run P w = .ok v' w') (h : wpList P ops Q rest (a.put o.dst v') w') : wpList P ops Q (o :: rest) a w :=
  wpList_plain hgd fun _ hK => by
    unfold Oper.wp execOp
    simp only [ho, resolve, invoke, builtin, Sem.run_bind, Sem.run_pure, Result.andThen_ok, List.map_toArray, List.map_cons, List.map_nil, hs, hx, hr]
    exact hK _ _ h
theorem World.ownsRow.mono_base {w : World} {b b' e s m : Nat} {u : Value} {xs : List Value} (h : w.ownsRow b e s u m xs) (hb : b' ≤ b) : w.ownsRow b' e s u m xs := by
  refine ⟨h.1, ?_⟩
  rcases h.2 with h2 | ⟨g, c, cur, h1, h2, h3⟩
  · exact .inl h2
  · exact .inr ⟨g, c, cur, h1, Nat.le_trans hb h2, h3⟩
theorem grown_none {v : Value} : v.ownBlock = none ∨ v.ownBlock ≠ none := by
  cases v.ownBlock with
  | none => exact .inl rfl
  | some b => exact .inr (fun h => by cases h)
set_option maxHeartbeats 4000000 in
set_option maxRecDepth 100000 in
theorem ownIndex_calls (v : Value) (l : List En) (w : World) (h : EntsAt w v l) (hn : l.length ≤ 1000) (hl : ∀ e ∈ l, e.reqs.length ≤ 100000 ∧ e.packs.length ≤ 100000) :
    Calls Tryz.prog 16 #[v] w fun e w' => (∃ v', e = .returned v' ∧ EntsAt w' v' l) ∧ Below w.heap.size w w' := by
  obtain ⟨i0, hi, hz0, hz1, hz2⟩ := info_parts Tryz.infoEnt
  obtain ⟨a, n, cap, P, V, R, K, B, Rv, Kv, rfl, rfl, hin⟩ := h
  rw [enF_length] at hn
  have H := Lib.hid hin
  have HL : Hid (∀ j, j < n → (R j).length ≤ 100000 ∧ (K j).length ≤ 100000) := Lib.hid (fun j hj => hl _ (List.mem_of_getElem? (enF_get n P V R K B j hj)))
  clear hl hin
  go_enter Tryz.func16, Tryz.ntmps16
  go_wp2_with fail
  go_loopw [3, 4] (fun o i wr => ∃ (k : Nat) (Rv' Kv' : Nat → Value), k ≤ n ∧ i = .int .i64 k ∧ Hid (wr.ownsRow w.heap.size 37 5 o k (enVs P V Rv' Kv' B k)) ∧ Hid (RowsE wr w.heap.size k R K Rv' Kv') ∧ Below w.heap.size w wr) (fun _ i _ => n - (intOf i).toNat)
  case atStart => exact ⟨0, Rv, Kv, Nat.zero_le _, rfl, Lib.hid (World.ownsRow_nil _ _ _ _), Lib.hid ⟨fun j hj => absurd hj (Nat.not_lt_zero _), fun j hj => absurd hj (Nat.not_lt_zero _)⟩, Below.refl _ _⟩
  case round =>
    obtain ⟨k, Rv', Kv', hk, rfl, hO, hRows, hBr⟩ := hrel
    by_cases hlt : k < n
    · have hkn : (k : Int) < (n : Int) := by omega
      obtain ⟨b1, o1, ea, hcell⟩ := (H.out.below hBr).at_ k hlt
      obtain ⟨a1, n1, s1, aK, nK, cK, e1, e2⟩ := H.out.forms2 hlt
      have hM := (H.out.below hBr).reqs k hlt
      have hS := (H.out.below hBr).packs k hlt
      rw [e1, e2] at hcell
      rw [e1] at hM
      rw [e2] at hS
      subst ea
      obtain ⟨c0, c1, c2, c3, c4⟩ := hcell
      have hba := below_alloc wr (.cells #[.string (P k), .string (V k), .slice a1 n1 s1, .slice aK nK cK, .bool (B k)] 37)
      have x0 : (wr.alloc (.cells #[.string (P k), .string (V k), .slice a1 n1 s1, .slice aK nK cK, .bool (B k)] 37)).cell? ⟨wr.heap.size, 0, none⟩ = some (.string (P k)) := by simp
      have x1 : (wr.alloc (.cells #[.string (P k), .string (V k), .slice a1 n1 s1, .slice aK nK cK, .bool (B k)] 37)).cell? ⟨wr.heap.size, 1, none⟩ = some (.string (V k)) := by simp
      have x2 : (wr.alloc (.cells #[.string (P k), .string (V k), .slice a1 n1 s1, .slice aK nK cK, .bool (B k)] 37)).cell? ⟨wr.heap.size, 2, none⟩ = some (.slice a1 n1 s1) := by simp
      have x3 : (wr.alloc (.cells #[.string (P k), .string (V k), .slice a1 n1 s1, .slice aK nK cK, .bool (B k)] 37)).cell? ⟨wr.heap.size, 3, none⟩ = some (.slice aK nK cK) := by simp
      have x4 : (wr.alloc (.cells #[.string (P k), .string (V k), .slice a1 n1 s1, .slice aK nK cK, .bool (B k)] 37)).cell? ⟨wr.heap.size, 4, none⟩ = some (.bool (B k)) := by simp
      have xf : ∀ i, (wr.alloc (.cells #[.string (P k), .string (V k), .slice a1 n1 s1, .slice aK nK cK, .bool (B k)] 37)).frozen? ⟨wr.heap.size, i, none⟩ = false := fun i => by simp
      have hom := ownMods_calls (.slice a1 n1 s1) (R k) (wr.alloc (.cells #[.string (P k), .string (V k), .slice a1 n1 s1, .slice aK nK cK, .bool (B k)] 37)) (hM.below hba) (by have := (HL.out k hlt).1; omega)
      have hszN : (wr.alloc (.cells #[.string (P k), .string (V k), .slice a1 n1 s1, .slice aK nK cK, .bool (B k)] 37)).heap.size = wr.heap.size + 1 := by simp
      replace hom := Lib.hid hom
      clear hM e1 e2
      go_wp2_with fail
      generalize wr.alloc (.cells #[.string (P k), .string (V k), .slice a1 n1 s1, .slice aK nK cK, .bool (B k)] 37) = w1 at *
      refine hom.out.mono ?_
      rintro e w2 ⟨⟨v', rfl, _, M, hRM, hoM⟩, hb2⟩
      obtain ⟨aM, nM, cM, rfl⟩ := own_form hoM
      have hs1 := hba.size
      have hs2 := hb2.size
      have hNlt : wr.heap.size < w2.heap.size := by omega
      replace x0 := Below.cell_some hb2 x0
      replace x1 := Below.cell_some hb2 x1
      replace x2 := Below.cell_some hb2 x2
      replace x3 := Below.cell_some hb2 x3
      replace x4 := Below.cell_some hb2 x4
      replace xf := fun i => (hb2.frozen (p := ⟨wr.heap.size, i, none⟩) (show wr.heap.size < w1.heap.size by omega)).trans (xf i)
      have neM := own_ne (b := wr.heap.size) hoM (by omega)
      have hS3 : StrsAt (w2.setCell ⟨wr.heap.size, 2, none⟩ (.slice aM nM cM)) (.slice aK nK cK) (K k) := by
        obtain ⟨a', n', cap', L', q1, q2, q3, q4, q5⟩ := hS
        refine ⟨a', n', cap', L', q1, q2, q3, q4, fun j hj => ?_⟩
        obtain ⟨b, o, e, c⟩ := q5 j hj
        refine ⟨b, o, e, ?_⟩
        have : b < wr.heap.size := lt_of_cell c
        rw [set_blk _ (by omega)]
        exact Below.cell_some hb2 (Below.cell_some hba c)
      obtain ⟨kv, w4, hap, ⟨T, hKT, hoK⟩, hg4⟩ := app_strs (w2.setCell ⟨wr.heap.size, 2, none⟩ (.slice aM nM cM)) w2.heap.size (by simp) (.slice aK nK cK) (K k) hS3 (by have := (HL.out k hlt).2; omega)
      obtain ⟨aq, nq, cq, rfl⟩ := own_form hoK
      have neK := own_ne (b := wr.heap.size) hoK hNlt
      have hs4 := hg4.size
      have hs3 : (w2.setCell ⟨wr.heap.size, 2, none⟩ (.slice aM nM cM)).heap.size = w2.heap.size := by simp
      have hsome : ∀ k : Nat, some k ≠ (none : Option Nat) := fun k h => by cases h
      have u0 := hg4.cell ((set_off (.slice aM nM cM) (by decide)).trans x0) (hsome _)
      have u1 := hg4.cell ((set_off (.slice aM nM cM) (by decide)).trans x1) (hsome _)
      have u2 := hg4.cell (set_same (.slice aM nM cM) x2) (hsome _)
      have u3 := hg4.cell ((set_off (.slice aM nM cM) (by decide)).trans x3) (hsome _)
      have u4 := hg4.cell ((set_off (.slice aM nM cM) (by decide)).trans x4) (hsome _)
      have uf : ∀ i, w4.frozen? ⟨wr.heap.size, i, none⟩ = false := fun i => (hg4.frozen_far ⟨wr.heap.size, i, none⟩ (show wr.heap.size < _ by rw [hs3]; exact hNlt) (hsome _)).trans (by simp [xf i])
      have t0 := (set_off (w := w4) (b := wr.heap.size) (k := 3) (.slice aq nq cq) (by decide)).trans u0
      have t1 := (set_off (w := w4) (b := wr.heap.size) (k := 3) (.slice aq nq cq) (by decide)).trans u1
      have t2 := (set_off (w := w4) (b := wr.heap.size) (k := 3) (.slice aq nq cq) (by decide)).trans u2
      have t3 := set_same (.slice aq nq cq) u3
      have t4 := (set_off (w := w4) (b := wr.heap.size) (k := 3) (.slice aq nq cq) (by decide)).trans u4
      have chain : ∀ (b e s m : Nat) (u : Value) (xs : List Value), w2.ownsRow b e s u m xs → u.ownBlock ≠ some wr.heap.size → (w4.setCell ⟨wr.heap.size, 3, none⟩ (.slice aq nq cq)).ownsRow b e s u m xs := fun _ _ _ _ _ _ h hne => ownsRow_set ((ownsRow_set h hne _).kept hg4 grown_none) hne _
      have old : ∀ (b e s m : Nat) (u : Value) (xs : List Value), wr.ownsRow b e s u m xs → (w4.setCell ⟨wr.heap.size, 3, none⟩ (.slice aq nq cq)).ownsRow b e s u m xs := fun _ _ _ _ _ _ h => chain _ _ _ _ _ _ (ownsRow_kept (ownsRow_kept h hba) hb2) (fun e => by have := (h.lt _ e).2; omega)
      have hO5 := old _ _ _ _ _ _ hO.out
      have hoM5 := chain _ _ _ _ _ _ hoM neM
      have hoK5 := ownsRow_set (b := wr.heap.size) (j := 3) hoK neK (.slice aq nq cq)
      have hsz5 : (w4.setCell ⟨wr.heap.size, 3, none⟩ (.slice aq nq cq)).heap.size = w4.heap.size := by simp
      have hnew := World.news_of_block (cs := #[.string (P k), .string (V k), .slice aM nM cM, .slice aq nq cq, .bool (B k)]) (Go.Deep.blk_alloc_new (w4.setCell ⟨wr.heap.size, 3, none⟩ (.slice aq nq cq)) (.cells #[.string (P k), .string (V k), .slice aM nM cM, .slice aq nq cq, .bool (B k)] 37))
      rw [hsz5] at hnew
      have hB5 : Below w.heap.size w (w4.setCell ⟨wr.heap.size, 3, none⟩ (.slice aq nq cq)) := by
        have hsw := hBr.size
        have h1 : Below w.heap.size w w2 := hBr.trans ((below_step hba hb2).mono hsw)
        have h2 : Below w.heap.size w (w2.setCell ⟨wr.heap.size, 2, none⟩ (.slice aM nM cM)) := h1.setCell (p := ⟨wr.heap.size, 2, none⟩) hsw _
        exact (h2.grown hg4 (by rw [hs3]; omega) (fun k hk => by cases hk)).setCell (p := ⟨wr.heap.size, 3, none⟩) hsw _
      have hbase5 : w.heap.size ≤ w4.heap.size := by have := hB5.size; rw [hsz5] at this; exact this
      have z3 := (set_off (w := w2) (b := wr.heap.size) (k := 2) (.slice aM nM cM) (by decide)).trans x3
      have HR := Lib.hid (And.intro hRM hKT)
      have HO := Lib.hid (And.intro hO5 (And.intro hoM5 (And.intro hoK5 hnew)))
      have HOLD := Lib.hid old
      have HAP := Lib.hid hap
      clear hap hS3 hS hO hoM hoK hg4 hRM hKT hnew hO5 hoM5 hoK5 chain old x0 x1 x3 x4 hom hsome neM neK hba hb2 c0 c1 c2 c3 c4 u0 u1 u2 u4
      go_wp2_with (at_builtin; first | (refine wpList_append_run rfl _ _ 35 rfl _ _ rfl rfl _ _ HAP.out ?_) | (refine wpList_append_own _ rfl _ _ 22 rfl w.heap.size 37 i0 (.agg #[.string ⟨#[]⟩, .string ⟨#[]⟩, .slice none 0 0, .slice none 0 0, .bool false]) 5 88 Tryz.underlying22 hi hz0 hz1 hz2 rfl (by decide) _ _ _ rfl (HO.out.1.alloc _) ⟨w4.heap.size, 0, none⟩ 1 1 [.string (P k), .string (V k), .slice aM nM cM, .slice aq nq cq, .bool (B k)] rfl rfl HO.out.2.2.2 (by intro u hu; simp at hu; rcases hu with rfl | rfl | rfl | rfl | rfl <;> rfl) (by unfold maxLen; omega) (by omega) (by simp; omega) ?_; intro o' w6 hown6 hgrow6 _))
      go_roundw
      case rel =>
        have hkeep : ∀ (b e s m : Nat) (u : Value) (xs : List Value), (w4.setCell ⟨wr.heap.size, 3, none⟩ (.slice aq nq cq)).ownsRow b e s u m xs → e ≠ 37 → w6.ownsRow b e s u m xs := fun _ _ _ _ _ _ h hne =>
          (h.alloc _).kept hgrow6 (tag_apart (h.alloc (.cells #[.string (P k), .string (V k), .slice aM nM cM, .slice aq nq cq, .bool (B k)] 37)) (HO.out.1.alloc _) hne)
        refine ⟨k + 1, fun j => if j = k then .slice aM nM cM else Rv' j, fun j => if j = k then .slice aq nq cq else Kv' j, by omega, by go_num, Lib.hid ?_, Lib.hid ⟨fun j hj => ?_, fun j hj => ?_⟩, ?_⟩
        · have h1 : enVs P V (fun j => if j = k then .slice aM nM cM else Rv' j) (fun j => if j = k then .slice aq nq cq else Kv' j) B (k + 1) = enVs P V Rv' Kv' B k ++ [.string (P k), .string (V k), .slice aM nM cM, .slice aq nq cq, .bool (B k)] := by
            rw [enVs_succ, enVs_cong (Rv' := Rv') (Kv' := Kv') (fun j hj => ⟨if_neg (by omega), if_neg (by omega)⟩)]
            simp [ec]
          rw [h1]
          exact hown6
        · by_cases e : j = k
          · subst e
            refine ⟨M, HR.out.1, ?_⟩
            rw [if_pos rfl]
            exact (World.ownsRow.mono_base (hkeep _ _ _ _ _ _ HO.out.2.1 (by decide)) (by have := hBr.size; omega))
          · obtain ⟨M', q1, q2⟩ := hRows.out.r j (by omega)
            refine ⟨M', q1, ?_⟩
            rw [if_neg e]
            exact hkeep _ _ _ _ _ _ (HOLD.out _ _ _ _ _ _ q2) (by decide)
        · by_cases e : j = k
          · subst e
            refine ⟨T, HR.out.2, ?_⟩
            rw [if_pos rfl]
            exact (World.ownsRow.mono_base (hkeep _ _ _ _ _ _ HO.out.2.2.1 (by decide)) (by have := hBr.size; omega))
          · obtain ⟨M', q1, q2⟩ := hRows.out.s j (by omega)
            refine ⟨M', q1, ?_⟩
            rw [if_neg e]
            exact hkeep _ _ _ _ _ _ (HOLD.out _ _ _ _ _ _ q2) (by decide)
        · exact (hB5.alloc (by rw [hsz5]; exact hbase5) _).grown hgrow6 (by simp; omega) (fun q hq => (HO.out.1.lt q hq).1)
      case measure => simp [intOf]; omega
    · obtain rfl : n = k := by omega
      have hfin : EntsAt wr _ (enF n P V R K B) := entsAt_own hO.out hRows.out
      replace hfin := Lib.hid hfin
      go_wp2_with fail
      go_ret
      exact ⟨⟨_, rfl, hfin.out⟩, hBr⟩
end Go.Proofs.Pw

namespace Go.Proofs.Pw
open Go.RowKit
open Go.Lib hiding intOf
theorem app_mods (w : World) (base : Nat) (hb : base ≤ w.heap.size) (o v : Value) (L : List (ByteArray × ByteArray)) (l : List Md) (ho : w.ownsRow base 29 2 o L.length (mdVs L)) (h : ModsAt w v l) (hL : L.length ≤ 1000000) (hl : l.length ≤ 1000000) :
    ∃ o' w', (Builtin.append_ #[23, 23] 23 #[o, v]).run Tryz.prog w = .ok o' w' ∧ (∃ L', mdTs L' = mdTs L ++ l ∧ w'.ownsRow base 29 2 o' L'.length (mdVs L')) ∧ w.grownBy w' o.ownBlock := by
  obtain ⟨i0, hi, hz0, hz1, hz2⟩ := info_parts Tryz.infoMod
  obtain ⟨a, n, cap, P, V, rfl, rfl, hnc, hcap, hc⟩ := h
  rw [mdF_length] at hl
  cases a with
  | none =>
    have hn0 : n = 0 := by
      rcases Nat.eq_zero_or_pos n with h | h
      · exact h
      · obtain ⟨b, o, e, _⟩ := hc 0 h
        cases e
    subst hn0
    have hform : ∃ a m c, o = .slice a m c ∧ m ≤ c := by
      rcases ho.2 with ⟨rfl, _⟩ | ⟨g, c, cur, rfl, _, _, h1, _⟩
      · exact ⟨_, _, _, rfl, Nat.le_refl _⟩
      · exact ⟨_, _, _, rfl, h1⟩
    obtain ⟨ao, m, c, rfl, hmc⟩ := hform
    exact ⟨_, w, run_append_nothing (P := Tryz.prog) w 23 23 23 29 i0 Tryz.underlying23 hi ao m c hmc (.slice none 0 cap) (Src.ofNil w Tryz.underlying23 cap), ⟨L, by simp [mdF], ho⟩, World.grownBy.refl _ _⟩
  | some a =>
    have hnews : ∀ j u, (mdVs (mdL n P V))[j]? = some u → w.cell? (a.add j) = some u := by
      rcases Nat.eq_zero_or_pos n with h | h
      · subst h
        intro j u hu
        simp [mdL, mdVs] at hu
      · obtain ⟨b, o, e, _⟩ := hc 0 h
        injection e with e
        subst e
        exact mods_cells (fun j hj => by
          obtain ⟨b', o', e, h1, h2⟩ := hc j hj
          injection e with e
          injection e with e1 e2 _
          subst e1 e2
          exact ⟨h1, h2⟩)
    obtain ⟨kv, w', h1, h2, h3, _⟩ := run_append_own (P := Tryz.prog) w base 23 23 29 i0 (.agg #[.string ⟨#[]⟩, .string ⟨#[]⟩]) 2 32 Tryz.underlying23 hi hz0 hz1 hz2 rfl (by decide) o L.length (mdVs L) ho a n cap (mdVs (mdL n P V)) (by rw [mdVs_length, mdL_length]) hnews mdVs_one (by unfold maxLen; omega) (by omega) hb
    refine ⟨kv, w', h1, ⟨L ++ mdL n P V, by rw [← mdL_ts]; simp [mdTs], ?_⟩, h3⟩
    rw [mdVs_append, List.length_append, mdL_length]
    exact h2
end Go.Proofs.Pw

namespace Go.Proofs.Pw
open Go.RowKit
open Go.Lib hiding intOf
theorem grownBy_setRow (w : World) (g : Nat) (cs : Array Value) : w.grownBy (w.setRow g cs) (some g) :=
  ⟨rfl, rfl, rfl, by simp [World.setRow], fun k _ hk => setRow_other w g k cs (by rintro rfl; exact hk rfl)⟩
theorem ModsAt.grownBy {w w' : World} {v : Value} {l : List Md} {r : Option Nat} (h : ModsAt w v l) (hg : w.grownBy w' r) (hr : ∀ q n m, v = .slice (some q) n m → some q.block ≠ r) : ModsAt w' v l := by
  obtain ⟨a, n, cap, P, V, rfl, h2, h3, h4, h5⟩ := h
  refine ⟨a, n, cap, P, V, rfl, h2, h3, h4, fun j hj => ?_⟩
  obtain ⟨b, o, rfl, e1, e2⟩ := h5 j hj
  have hb : some b ≠ r := hr _ _ _ rfl
  exact ⟨b, o, rfl, hg.cell e1 hb, hg.cell e2 hb⟩
theorem splice_length {α : Type} {L cs : List α} {o : Nat} (h : o + cs.length ≤ L.length) : (splice L o cs).length = L.length := by
  unfold splice; simp; omega
end Go.Proofs.Pw

namespace Go.Proofs.Pw
open Go.RowKit
open Go.Lib hiding intOf
theorem mdVs_take : ∀ (l : List (ByteArray × ByteArray)) (i : Nat), mdVs (l.take i) = (mdVs l).take (i * 2)
  | [], i => by simp [mdVs]
  | a :: r, 0 => by simp [mdVs]
  | a :: r, i + 1 => by
    have ih := mdVs_take r i
    have e : mdVs (a :: r) = .string a.1 :: .string a.2 :: mdVs r := rfl
    have e2 : mdVs (a :: r.take i) = .string a.1 :: .string a.2 :: mdVs (r.take i) := rfl
    rw [List.take_succ_cons, e, e2, ih, show (i + 1) * 2 = i * 2 + 1 + 1 by omega, List.take_succ_cons, List.take_succ_cons]
theorem zeroCells_len (z : Array Value) (h : z.size = 2) (n : Nat) : (Builtin.zeroCells z n).toList.length = n * 2 := by
  simp [Builtin.zeroCells, h]
end Go.Proofs.Pw
