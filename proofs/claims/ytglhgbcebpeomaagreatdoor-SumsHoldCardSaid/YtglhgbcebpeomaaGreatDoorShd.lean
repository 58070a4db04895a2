/- Sh: walks and plain laws, joined: SortLayM SortM GrReach MvsMath MvsMath2 SumMem SlCat Great Mvs OnesMath. Conditions: at each theorem. -/
import Derived.Test.YtglhgbcebpeomaaGreatDoorProg
import Derived.Shelf.SlSortCmp.NoneTotal
import Derived.Shelf.Spec.SlicesGrow
import Derived.Test.YtglhgbcebpeomaaGreatDoorSta
import Derived.Test.YtglhgbcebpeomaaGreatDoorStb
import Derived.Test.YtglhgbcebpeomaaGreatDoorStc
import Derived.Test.YtglhgbcebpeomaaGreatDoorStd
import Derived.Test.YtglhgbcebpeomaaGreatDoorSte
import Derived.Test.YtglhgbcebpeomaaGreatDoorStf
import Derived.Test.YtglhgbcebpeomaaGreatDoorStg
import Derived.Test.YtglhgbcebpeomaaGreatDoorSth
import Derived.Test.YtglhgbcebpeomaaGreatDoorSti
import Derived.Test.YtglhgbcebpeomaaGreatDoorStj
import Derived.Test.YtglhgbcebpeomaaGreatDoorStk
import Derived.Test.YtglhgbcebpeomaaGreatDoorStl
import Derived.Test.YtglhgbcebpeomaaGreatDoorStm
import Derived.Test.YtglhgbcebpeomaaGreatDoorStn
import Derived.Test.YtglhgbcebpeomaaGreatDoorSto
import Derived.Test.YtglhgbcebpeomaaGreatDoorStp
import Derived.Test.YtglhgbcebpeomaaGreatDoorStq
import Derived.Test.YtglhgbcebpeomaaGreatDoorStr
import Derived.Test.YtglhgbcebpeomaaGreatDoorSts
import Derived.Test.YtglhgbcebpeomaaGreatDoorStt
import Derived.Test.YtglhgbcebpeomaaGreatDoorStu
import Derived.Test.YtglhgbcebpeomaaGreatDoorStv
import Derived.Test.YtglhgbcebpeomaaGreatDoorStx
import Derived.Test.YtglhgbcebpeomaaGreatDoorSty
import Derived.Test.YtglhgbcebpeomaaGreatDoorStz
import Derived.Test.YtglhgbcebpeomaaGreatDoorStza
import Derived.Test.YtglhgbcebpeomaaGreatDoorStzb
import Derived.Test.YtglhgbcebpeomaaGreatDoorStzd
import Derived.Test.YtglhgbcebpeomaaGreatDoorSha
import Derived.Test.YtglhgbcebpeomaaGreatDoorShb
import Derived.Test.YtglhgbcebpeomaaGreatDoorShc

namespace Go.Proofs.Pw
open Go.RowKit
def laysSortMR : Go.Shelf.Ren := ⟨fun | 6 => 139 | 14 => 212 | 15 => 142 | 20 => 236 | 21 => 289 | 22 => 290 | 23 => 291 | 24 => 292 | 25 => 293 | 26 => 294 | 27 => 295 | 28 => 223 | 29 => 224 | 46 => 336 | 47 => 298 | 48 => 299 | 49 => 337 | 50 => 338 | 57 => 357 | n => n,
  fun | 0 => 0 | 3 => 3 | 4 => 4 | 5 => 5 | 9 => 9 | 22 => 23 | 24 => 29 | 25 => 137 | 39 => 174 | 45 => 266 | 46 => 267 | 50 => 271 | 53 => 33 | 55 => 117 | 66 => 334 | 70 => 338 | 76 => 362 | 77 => 112 | n => n, fun n => n⟩
theorem laysSortM : Go.Proofs.SlLaysF0.n6 Tryz.prog laysSortMR := {
  mixed := by kernel_rfl
  f6 := ⟨Tryz.f139.name, by decide, Tryz.func139.trans (congrArg some (by kernel_rfl))⟩
  f14 := ⟨Tryz.f212.name, by decide, Tryz.func212.trans (congrArg some (by kernel_rfl))⟩
  f15 := Tryz.func142.trans (congrArg some (by kernel_rfl))
  f20 := ⟨Tryz.f236.name, by decide, Tryz.func236.trans (congrArg some (by kernel_rfl))⟩
  f21 := ⟨Tryz.f289.name, by decide, Tryz.func289.trans (congrArg some (by kernel_rfl))⟩
  f22 := ⟨Tryz.f290.name, by decide, Tryz.func290.trans (congrArg some (by kernel_rfl))⟩
  f23 := ⟨Tryz.f291.name, by decide, Tryz.func291.trans (congrArg some (by kernel_rfl))⟩
  f24 := ⟨Tryz.f292.name, by decide, Tryz.func292.trans (congrArg some (by kernel_rfl))⟩
  f25 := ⟨Tryz.f293.name, by decide, Tryz.func293.trans (congrArg some (by kernel_rfl))⟩
  f26 := ⟨Tryz.f294.name, by decide, Tryz.func294.trans (congrArg some (by kernel_rfl))⟩
  f27 := ⟨Tryz.f295.name, by decide, Tryz.func295.trans (congrArg some (by kernel_rfl))⟩
  f28 := Tryz.func223.trans (congrArg some (by kernel_rfl))
  f29 := Tryz.func224.trans (congrArg some (by kernel_rfl))
  f46 := ⟨Tryz.f336.name, by decide, Tryz.func336.trans (congrArg some (by kernel_rfl))⟩
  f47 := Tryz.func298.trans (congrArg some (by kernel_rfl))
  f48 := Tryz.func299.trans (congrArg some (by kernel_rfl))
  f49 := ⟨Tryz.f337.name, by decide, Tryz.func337.trans (congrArg some (by kernel_rfl))⟩
  f50 := ⟨Tryz.f338.name, by decide, Tryz.func338.trans (congrArg some (by kernel_rfl))⟩
  f57 := ⟨Tryz.f357.name, by decide, Tryz.func357.trans (congrArg some (by kernel_rfl))⟩
  t0 := Tryz.underlying0
  a0 := Tryz.isAgg0
  z0 := Tryz.sizeOf0
  v0 := Tryz.zeroValue0
  t3 := Tryz.underlying3
  a3 := Tryz.isAgg3
  z3 := Tryz.sizeOf3
  v3 := Tryz.zeroValue3
  t4 := Tryz.underlying4
  a4 := Tryz.isAgg4
  z4 := Tryz.sizeOf4
  v4 := Tryz.zeroValue4
  t5 := Tryz.underlying5
  a5 := Tryz.isAgg5
  z5 := Tryz.sizeOf5
  v5 := Tryz.zeroValue5
  t9 := Tryz.underlying9
  a9 := Tryz.isAgg9
  z9 := Tryz.sizeOf9
  v9 := Tryz.zeroValue9
  t22 := Tryz.underlying23
  a22 := Tryz.isAgg23
  z22 := Tryz.sizeOf23
  v22 := Tryz.zeroValue23
  t25 := Tryz.underlying137
  a25 := Tryz.isAgg137
  z25 := Tryz.sizeOf137
  v25 := Tryz.zeroValue137
  t39 := Tryz.underlying174
  a39 := Tryz.isAgg174
  z39 := Tryz.sizeOf174
  v39 := Tryz.zeroValue174
  t45 := Tryz.underlying266
  a45 := Tryz.isAgg266
  z45 := Tryz.sizeOf266
  v45 := Tryz.zeroValue266
  t46 := Tryz.underlying267
  a46 := Tryz.isAgg267
  z46 := Tryz.sizeOf267
  v46 := Tryz.zeroValue267
  t50 := Tryz.underlying271
  a50 := Tryz.isAgg271
  z50 := Tryz.sizeOf271
  v50 := Tryz.zeroValue271
  t53 := Tryz.underlying33
  a53 := Tryz.isAgg33
  z53 := Tryz.sizeOf33
  v53 := Tryz.zeroValue33
  t55 := Tryz.underlying117
  a55 := Tryz.isAgg117
  z55 := Tryz.sizeOf117
  v55 := Tryz.zeroValue117
  t66 := Tryz.underlying334
  a66 := Tryz.isAgg334
  z66 := Tryz.sizeOf334
  v66 := Tryz.zeroValue334
  t70 := Tryz.underlying338
  a70 := Tryz.isAgg338
  z70 := Tryz.sizeOf338
  v70 := Tryz.zeroValue338
  t76 := Tryz.underlying362
  a76 := Tryz.isAgg362
  z76 := Tryz.sizeOf362
  v76 := Tryz.zeroValue362
  t77 := Tryz.underlying112
  a77 := Tryz.isAgg112
  z77 := Tryz.sizeOf112
  v77 := Tryz.zeroValue112 }
end Go.Proofs.Pw

namespace Go.Proofs.Pw
open Go.RowKit
open Go.Proofs Go.Sort
open Go.Lib hiding intOf
def tRM (x : RM) : Md := (x.1.1.data.toList, x.1.2.data.toList)
def encRM (x : RM) : List Value := [.string x.1.1, .string x.1.2]
def cmpRM (x y : RM) : Int := modCmp (tRM x) (tRM y)
theorem swo_of {α : Type} {f : α → α → Int} (h : Ord3 f) : SWO (ltOf f) := by
  refine ⟨fun x => ?_, fun x y z h1 h2 => ?_, fun x y z h1 h2 => ?_⟩
  · unfold ltOf
    rw [h.self]; rfl
  · unfold ltOf at *
    rw [decide_eq_true_iff] at *
    have a1 := h.tr x y z (by omega) (by omega)
    rcases Int.lt_or_eq_of_le a1 with a2 | a2
    · exact a2
    · exfalso
      have a3 := h.zero a2
      have a4 := h.tr z x y (by omega) (by omega)
      have a5 := (h.anti y z).1 h2
      omega
  · unfold ltOf at *
    rw [decide_eq_false_iff_not] at *
    intro h3
    have b1 := (h.anti x z).1 h3
    have b2 := h.anti y x
    have b3 := h.anti z y
    have b4 := h.anti x y
    have b5 := h.anti y z
    have := h.tr z y x (by omega) (by omega)
    omega
theorem cmpRM_ord : Ord3 cmpRM := modCmp_ord.comap tRM
theorem encRM_len (x : RM) : (encRM x).length = 2 := rfl
theorem encRM_one (x : RM) : ∀ v ∈ encRM x, v.oneCell' = true := by
  intro v hv
  simp [encRM] at hv
  rcases hv with rfl | rfl <;> rfl
theorem below_sortWK {B : Nat} {w0 w : World} (h : Below B w0 w) (hB : B ≤ w0.heap.size) {blk : Nat} (hb : B ≤ blk) (off m : Nat) (d : Array RM) (os : Array Obj) : Below B w0 (sortWorldK encRM 2 w blk off m d os) := by
  have hBs := h.size
  refine h.trans ⟨rfl, rfl, rfl, ?_, fun k hk => ?_⟩
  · simp [sortWorldK, grow, putRowK, putRow, mapBlock, Sort.ahead]
  · simp only [sortWorldK, grow, putRowK, putRow, mapBlock, Sort.ahead]
    by_cases hk2 : k < w.heap.size
    · rw [Array.getElem?_append_left (by simpa using hk2), Array.getElem?_modify, if_neg (by omega)]
    · exact absurd (Nat.lt_of_lt_of_le hk (Nat.le_trans hB hBs)) hk2
theorem map_subM {P : ByteArray × ByteArray → Prop} : ∀ (l : List (ByteArray × ByteArray)), (∀ x ∈ l, P x) → ∃ m : List {s : ByteArray × ByteArray // P s}, m.map (·.1) = l
  | [], _ => ⟨[], rfl⟩
  | a :: r, h => by
    obtain ⟨m, hm⟩ := map_subM r (fun x hx => h x (by simp [hx]))
    exact ⟨⟨a, h a (by simp)⟩ :: m, by simp [hm]⟩
theorem modsAt_holds {w : World} {g cap : Nat} {d : Array RM} (h : HoldsK encRM 2 w g 0 d) (hc : d.size ≤ cap) (hm : cap ≤ 9223372036854775807) : ModsAt w (.slice (some ⟨g, 0, none⟩) d.size cap) (d.toList.map tRM) := by
  refine ⟨some ⟨g, 0, none⟩, d.size, cap, fun i => (d[i]!).1.1, fun i => (d[i]!).1.2, rfl, ?_, hc, hm, fun j hj => ?_⟩
  · apply List.ext_getElem?
    intro i
    by_cases hi : i < d.size
    · rw [mdF_get _ _ _ i hi, List.getElem?_map, List.getElem?_eq_getElem (by simpa using hi)]
      rw [getElem!_pos d i hi]
      simp [tRM]
    · rw [List.getElem?_eq_none (by simpa using hi), List.getElem?_eq_none (by rw [mdF_length]; omega)]
  · have h0 := (h.cell hj (show 0 < 2 by decide)).1
    have h1 := (h.cell hj (show 1 < 2 by decide)).1
    exact ⟨g, 0, rfl, by simpa [encRM] using h0, by simpa [encRM] using h1⟩
theorem holds_own {w : World} {base e g cap : Nat} {L : List (ByteArray × ByteArray)} {d : Array RM} (hd : d.toList.map (·.1) = L) (h : w.ownsRow base e 2 (.slice (some ⟨g, 0, none⟩) L.length cap) L.length (mdVs L)) : HoldsK encRM 2 w g 0 d := by
  have hs : d.size = L.length := by rw [← hd]; simp
  rcases h.2 with ⟨h2, _⟩ | ⟨g', c', cur, e1, _, hg, hn, _, hcs, ht⟩
  · cases h2
  · injection e1 with e1 _ e2
    injection e1 with e1
    injection e1 with e1
    subst e1 e2
    intro j hj
    rw [size_flatK] at hj
    have hjl : j < (mdVs L).length := by rw [mdVs_length]; omega
    have hcur : j < cur.size := by rw [hcs]; omega
    have e3 : cur[j]? = (mdVs L)[j]? := by
      rw [← ht, List.getElem?_take, if_pos (by omega)]
      simp
    rw [get_flatK _ _ _ _ hj]
    have e4 : (mdVs L)[j]? = some ((encRM d[j / 2]!)[j % 2]!) := by
      have hget : L[j / 2]? = some (d[j / 2]!).1 := by
        have h2 : j / 2 < d.size := by omega
        rw [← hd, List.getElem?_map, List.getElem?_eq_getElem (by simpa using h2), getElem!_pos d _ h2]
        simp
      obtain ⟨q0, q1⟩ := mdVs_get hget
      rcases Nat.mod_two_eq_zero_or_one j with h2 | h2
      · rw [show j / 2 * 2 = j by omega] at q0
        rw [q0, h2]; rfl
      · rw [show j / 2 * 2 + 1 = j by omega] at q1
        rw [q1, h2]; rfl
    refine ⟨?_, ?_⟩
    · rw [Nat.zero_add, cell_of_row w g j cur e (0, 0) hg, e3, e4]; rfl
    · simp [World.frozen?, hg]
theorem sortM_calls (ks : List Nat) (A : Nat → Addr) (w0 w : World) (hE : EnvP ks A w0) (base : Nat) (x : Value) (L : List (ByteArray × ByteArray)) (hB : Below w0.heap.size w0 w) (hb : w0.heap.size ≤ base) (ho : w.ownsRow base 29 2 x L.length (mdVs L)) (hL : ∀ m ∈ L, OkM m) (hsz : L.length ≤ 1000000) :
    Calls Tryz.prog 139 #[x, .func (.func 140) #[] #[]] w fun e w' => e = .returned (.tuple #[]) ∧ (∃ l' : List Md, ModsAt w' x l' ∧ l'.Perm (mdTs L) ∧ l'.Pairwise fun a b => modCmp a b ≤ 0) ∧ Below w0.heap.size w0 w' := by
  rcases ho.2 with ⟨rfl, h0⟩ | ⟨g, cap, cur, rfl, hbg, hg, hn, hm, hcs, ht⟩
  · have : L = [] := List.eq_nil_of_length_eq_zero h0
    subst this
    refine (AnyF.slices_SortFunc_none laysSortM none 0 _ w).mono ?_
    rintro e w' ⟨rfl, rfl⟩
    exact ⟨rfl, ⟨[], ModsAt.nil _, List.Perm.refl _, List.Pairwise.nil⟩, hB⟩
  · obtain ⟨m, hd⟩ := map_subM L hL
    have hd' : (m.toArray).toList.map (·.1) = L := by simpa using hd
    have hH := holds_own (d := m.toArray) hd' ho
    have hms : m.toArray.size = L.length := by rw [← hd]; simp
    have hgw : g < w.heap.size := (Array.getElem?_eq_some_iff.1 hg).1
    have hcmp : CmpLays Tryz.prog 140 #[] encRM 2 cmpRM g 0 m.toArray.size w := by
      intro n os dk hs a b
      refine (modCompareD ks A a.1.1 a.1.2 b.1.1 b.1.2 _ (hE.below (below_sortWK hB (Nat.le_refl _) (by omega) 0 n dk os)) a.2.2 b.2.2 a.2.1 b.2.1).mono ?_
      rintro e w' ⟨rfl, hb⟩
      exact ⟨rfl, hb.grown⟩
    have h := AnyQ.slices_SortFunc laysSortM 2 Tryz.isAgg29 Tryz.sizeOf29 encRM encRM_len encRM_one cmpRM (swo_of cmpRM_ord) 140 #[] g 0 cap m.toArray w (Go.Proofs.enters_of Tryz.func140 (by kernel_rfl) rfl) hcmp hH hgw (by omega)
    rw [hms] at h
    refine h.mono ?_
    rintro e w' ⟨rfl, d', n, os, hp, hs, rfl⟩
    obtain ⟨hp1, _, hp3⟩ := hp
    have hH2 : HoldsK encRM 2 (sortWorldK encRM 2 w g 0 n d' os) g 0 d' := holdsK_sortWorldK_c encRM 2 w g 0 m.toArray d' n os hH hgw hp1
    refine ⟨rfl, ⟨d'.toList.map tRM, ?_, ?_, ?_⟩, below_sortWK hB (Nat.le_refl _) (by omega) 0 n d' os⟩
    · have := modsAt_holds (cap := cap) hH2 (by omega) (by unfold maxLen at hm; exact hm)
      rw [hp1, hms] at this
      exact this
    · have hpm := hp3
      rw [Array.extract_eq_self_of_le (show d'.size ≤ L.length by omega), Array.extract_eq_self_of_le (show m.toArray.size ≤ L.length by omega)] at hpm
      rw [← hd]
      unfold mdTs
      rw [List.map_map]
      exact hpm.map tRM
    · rw [List.pairwise_map, List.pairwise_iff_getElem]
      intro i j hi hj hij
      have hj' : j < d'.size := by simpa using hj
      have h1 := hs i j (Nat.zero_le _) hij (by omega)
      unfold ltOf at h1
      rw [decide_eq_false_iff_not, getElem!_pos d' i (by omega), getElem!_pos d' j hj'] at h1
      have := cmpRM_ord.anti d'[i] d'[j]
      have := cmpRM_ord.anti d'[j] d'[i]
      show cmpRM d'.toList[i] d'.toList[j] ≤ 0
      rw [Array.getElem_toList, Array.getElem_toList]
      omega
end Go.Proofs.Pw

namespace Go.Proofs.Pw
open Go.RowKit
open Go.Lib hiding intOf
noncomputable def reachR (l : List En) (roots : List Md) : List Md := if (startErr l roots).1 = 0 then reachL l roots else []
theorem rises_le {l : List Md} (h : l.Pairwise fun a b => modCmp a b ≤ 0) (hn : l.Nodup) (hr : ∀ m ∈ l, mdErr m = 0) : Rises modCmp l := by
  unfold Rises
  have h2 := h.and hn
  refine List.Pairwise.imp_of_mem ?_ h2
  intro a b ha hb ⟨h3, h4⟩
  rcases Int.lt_or_eq_of_le h3 with h5 | h5
  · exact h5
  · exact absurd (modCmp_zero (hr a ha) (hr b hb) h5) h4
theorem mdTs_keys (S : List (MB × MB)) : mdTs (S.map (·.1)) = (cameOf S).map (·.1) := by
  unfold mdTs cameOf
  rw [List.map_map, List.map_map]
  rfl
theorem came_ok {l : List En} {roots : List Md} {S : List (MB × MB)} (hG : RightG l roots) (hs : ShortI l) (hS : cameOf S = walkS l roots) : ∀ m ∈ S.map (·.1), OkM m := by
  intro m hm
  have h1 := cameOf_mem.2 hm
  rw [hS] at h1
  have h2 := (walkS_mem hG _).1 h1
  obtain ⟨e, he, e1⟩ := hG.entry h2
  have h3 := hs.mds e he
  rw [e1] at h3
  refine ⟨(modErr_zero (hG.right h2)).2, ?_⟩
  rw [size_eq]
  exact Nat.le_trans h3.2 (by decide)
theorem walk_sorted {l : List En} {roots l' : List Md} {S : List (MB × MB)} (hG : RightG l roots) (hS : cameOf S = walkS l roots) (hp : l'.Perm (mdTs (S.map (·.1)))) (hl : l'.Pairwise fun a b => modCmp a b ≤ 0) : l' = reachL l roots := by
  have hm : ∀ m, m ∈ l' ↔ Reached l roots m := fun m => by
    rw [hp.mem_iff, mdTs_keys, hS, walkS_mem hG]
  have hn : l'.Nodup := by
    rw [hp.nodup_iff, mdTs_keys, hS]
    exact (walkS_walked hG).nd
  exact hG.is (rises_le hl hn (fun m h => hG.right ((hm m).1 h))) hm
set_option maxHeartbeats 4000000 in
set_option maxRecDepth 100000 in
theorem grReach_in (ks : List Nat) (A : Nat → Addr) (hks : IdxKs ks) (a : Option Addr) (n cap : Nat) (P V : Nat → ByteArray) (R : Nat → List Md) (K : Nat → List Str) (Bk : Nat → Bool) (Rv Kv : Nat → Value) (rv : Value) (roots : List Md) (w : World) (hE : EnvP ks A w) (h : EntsIn w a n cap P V R K Bk Rv Kv) (hs : ShortI (enF n P V R K Bk)) (hr : ModsAt w rv roots) (hl : roots.length ≤ 100000) :
    Calls Tryz.prog 74 #[.slice a n cap, rv] w fun e w' => (∃ x ev, e = .returned (.tuple #[x, ev]) ∧ FaultAt A w' ev (startErr (enF n P V R K Bk) roots) ∧ ModsAt w' x (reachR (enF n P V R K Bk) roots)) ∧ Below w.heap.size w w' := by
  have hst := grStart_in ks A hks a n cap P V R K Bk Rv Kv rv roots w hE h hs hr (by omega)
  have H := Lib.hid h
  have HS := Lib.hid hs
  have HE := Lib.hid hE
  obtain ⟨ar, rn, rc, _, _, rfl, _⟩ := id hr
  have HR := Lib.hid hr
  replace hst := Lib.hid hst
  clear h hs hE hr
  go_enter Tryz.func74, Tryz.ntmps74
  go_wp2_with fail
  refine hst.out.mono ?_
  rintro e w1 ⟨⟨v, rfl, hv⟩, hB⟩
  clear hst
  rcases fault_form hv with ⟨h0, rfl⟩ | ⟨h0, ty, q, rfl⟩
  · have hG := rightG_of h0
    have hn : n ≤ 100 := by have := hG.idx.len; rwa [enF_length] at this
    have hRj : ∀ j, j < n → (R j).length ≤ 1000 := fun j hj => by
      have h2 := hG.idx.small (List.mem_of_getElem? (enF_get n P V R K Bk j hj))
      have h3 : (R j).length ≤ 20 := h2
      omega
    have hwk := grWalk_in a n cap P V R K Bk Rv Kv (.slice ar rn rc) roots w1 (H.out.below hB) (HR.out.below hB) hl (by omega) hRj hG
    have h00 := startErr_at h0
    have HG := Lib.hid hG
    have H0 := Lib.hid h00
    replace hwk := Lib.hid hwk
    clear hG h00 h0 hv hRj hn
    go_wp2_with fail
    refine hwk.out.mono ?_
    rintro e w2 ⟨⟨x, S, rfl, hGo, hS⟩, hb2⟩
    have hB2 := below_step hB hb2
    have hSl : (S.map (·.1)).length ≤ 1000000 := by
      have h1 := (walkS_walked HG.out).len HG.out
      rw [← hS, cameOf_length, enF_length] at h1
      have h2 := HG.out.idx.len
      rw [enF_length] at h2
      rw [List.length_map]; omega
    have hso := sortM_calls ks A w w2 HE.out (w1.heap.size + 3) x (S.map (·.1)) hB2 (by have := hB.size; omega) hGo.own (came_ok HG.out HS.out hS) hSl
    obtain ⟨ax, nx, cx, rfl⟩ := own_form hGo.own
    have HSS := Lib.hid hS
    replace hso := Lib.hid hso
    clear hwk hGo hS hSl
    go_wp2_with fail
    refine hso.out.mono ?_
    rintro e w3 ⟨rfl, ⟨l', hM, hp, hpw⟩, hB3⟩
    have HM := Lib.hid (And.intro hM (And.intro hp hpw))
    clear hM hp hpw
    go_wp2_with fail
    go_ret2
    refine ⟨⟨_, _, rfl, ?_, ?_⟩, hB3⟩
    · rw [H0.out]; exact .inl ⟨rfl, rfl, rfl⟩
    · unfold reachR
      rw [if_pos (by rw [H0.out]), ← walk_sorted HG.out HSS.out HM.out.2.1 HM.out.2.2]
      exact HM.out.1
  · have HV := Lib.hid hv
    have H0 := Lib.hid h0
    clear hv h0
    go_wp2_with fail
    go_ret2
    refine ⟨⟨_, _, rfl, HV.out, ?_⟩, hB⟩
    unfold reachR
    rw [if_neg H0.out]
    exact ModsAt.nil _
end Go.Proofs.Pw

namespace Go.Proofs.Pw
open Go.Lib hiding intOf
theorem greatest_snoc (l : List Md) (m : Md) : greatest (l ++ [m]) = grow1 (greatest l) m := by simp [greatest]
end Go.Proofs.Pw

namespace Go.Proofs.Pw
open Go.Lib hiding intOf
theorem build_reached {l : List En} {roots : List Md} (h : RightG l roots) {m : Md} (hm : m ∈ buildL l roots) : Reached l roots m := h.mem.1 (h.great.sub m hm)
end Go.Proofs.Pw

namespace Go.Proofs.Pw
open Go.RowKit
open Go.Lib hiding intOf
theorem lnVs_length (kd) (l) : (lnVs kd l).length = l.length * 3 := by
  induction l with
  | nil => rfl
  | cons a r ih =>
    show (([.string a.1, .string a.2.1, .int kd (a.2.2 : Nat)] : List Value) ++ lnVs kd r).length = _
    rw [List.length_append, ih]; simp; omega
end Go.Proofs.Pw

namespace Go.Proofs.Pw
open Go.RowKit
open Go.Lib hiding intOf
theorem ownsRow_set1 {w : World} {base e k g cap m n j : Nat} {xs : List Value} (h : w.ownsRow base e k (.slice (some ⟨g, 0, none⟩) m cap) n xs) (u : Value) : (w.setCell ⟨g, j, none⟩ u).ownsRow base e k (.slice (some ⟨g, 0, none⟩) m cap) n (xs.set j u) := by
  refine ⟨by rw [List.length_set]; exact h.1, ?_⟩
  rcases h.2 with ⟨h2, _⟩ | ⟨g', c', cur, e1, hb, hg, hn, hm, hcs, ht⟩
  · cases h2
  · injection e1 with e1 e2 e3
    injection e1 with e1
    injection e1 with e1
    subst e1 e2 e3
    refine .inr ⟨g, cap, cur.setIfInBounds j u, rfl, hb, ?_, hn, hm, by simpa using hcs, ?_⟩
    · simp [World.setCell, Array.getElem?_modify, hg]
    · rw [Array.toList_setIfInBounds, List.take_set, ht]
theorem mdVs_set : ∀ (L : List (ByteArray × ByteArray)) (i : Nat) (x y : ByteArray), mdVs (L.set i (x, y)) = ((mdVs L).set (i * 2) (.string x)).set (i * 2 + 1) (.string y)
  | [], i, x, y => by simp [mdVs]
  | a :: r, 0, x, y => by simp [mdVs]
  | a :: r, i + 1, x, y => by
    have := mdVs_set r i x y
    rw [List.set_cons_succ, show (i + 1) * 2 = i * 2 + 2 by omega]
    simp only [mdVs, List.flatMap_cons, List.cons_append, List.nil_append, List.set_cons_succ] at *
    rw [this]
theorem own_put {w : World} {base e g cap m i : Nat} {L : List (ByteArray × ByteArray)} (h : w.ownsRow base e 2 (.slice (some ⟨g, 0, none⟩) m cap) L.length (mdVs L)) (x y : ByteArray) :
    ((w.setCell ⟨g, i * 2, none⟩ (.string x)).setCell ⟨g, i * 2 + 1, none⟩ (.string y)).ownsRow base e 2 (.slice (some ⟨g, 0, none⟩) m cap) (L.set i (x, y)).length (mdVs (L.set i (x, y))) := by
  rw [List.length_set, mdVs_set]
  exact ownsRow_set1 (ownsRow_set1 h _) _
theorem own_cells {w : World} {base e g cap m i : Nat} {L : List (ByteArray × ByteArray)} {x y : ByteArray} (h : w.ownsRow base e 2 (.slice (some ⟨g, 0, none⟩) m cap) L.length (mdVs L)) (hi : L[i]? = some (x, y)) :
    w.cell? ⟨g, i * 2, none⟩ = some (.string x) ∧ w.cell? ⟨g, i * 2 + 1, none⟩ = some (.string y) ∧ m = L.length := by
  rcases h.2 with ⟨h2, _⟩ | ⟨g', c', cur, e1, hb, hg, hn, hm, hcs, ht⟩
  · cases h2
  · injection e1 with e1 e2 e3
    injection e1 with e1
    injection e1 with e1
    subst e1 e2 e3
    obtain ⟨q0, q1⟩ := mdVs_get hi
    have hl := (List.getElem?_eq_some_iff.1 hi).1
    rw [← ht, List.getElem?_take, if_pos (by omega)] at q0 q1
    refine ⟨?_, ?_, rfl⟩
    · rw [cell_of_row w g _ cur e (0, 0) hg]; simpa using q0
    · rw [cell_of_row w g _ cur e (0, 0) hg]; simpa using q1
theorem own_frozen {w : World} {base e g cap m n j : Nat} {xs : List Value} (h : w.ownsRow base e 2 (.slice (some ⟨g, 0, none⟩) m cap) n xs) : w.frozen? ⟨g, j, none⟩ = false := by
  rcases h.2 with ⟨h2, _⟩ | ⟨g', c', cur, e1, hb, hg, hn, hm, hcs, ht⟩
  · cases h2
  · injection e1 with e1 e2 e3
    injection e1 with e1
    injection e1 with e1
    subst e1 e2 e3
    simp [World.frozen?, hg]
theorem below_put {B : Nat} {w0 w : World} (h : Below B w0 w) {g i : Nat} (hg : B ≤ g) (x y : Value) : Below B w0 ((w.setCell ⟨g, i * 2, none⟩ x).setCell ⟨g, i * 2 + 1, none⟩ y) :=
  (h.setCell (p := ⟨g, i * 2, none⟩) hg x).setCell (p := ⟨g, i * 2 + 1, none⟩) hg y
end Go.Proofs.Pw

namespace Go.Proofs.Pw
open Go.RowKit
open Go.Lib hiding intOf
theorem mdTs_sn (L : List (ByteArray × ByteArray)) (x y : ByteArray) : mdTs (L ++ [(x, y)]) = mdTs L ++ [(x.data.toList, y.data.toList)] := by simp [mdTs]
theorem own_len {w : World} {base e k n cap m : Nat} {a : Option Addr} {xs : List Value} (h : w.ownsRow base e k (.slice a m cap) n xs) : m = n := by
  rcases h.2 with ⟨h1, rfl⟩ | ⟨g, c, cur, h1, _⟩
  · injection h1
  · injection h1
theorem grow1_new {out : List Md} {m : Md} (h : out.getLast?.map (·.1) ≠ some m.1) : grow1 out m = out ++ [m] := if_neg h
theorem set_last {α : Type} (l : List α) (a b : α) : (l ++ [a]).set l.length b = l ++ [b] := by
  rw [List.set_append_right _ _ (Nat.le_refl _)]; simp
theorem grow1_same {L : List (ByteArray × ByteArray)} {x y p q : ByteArray} (h : x = p) : grow1 (mdTs (L ++ [(x, y)])) (p.data.toList, q.data.toList) = mdTs ((L ++ [(x, y)]).set L.length (p, q)) := by
  subst h
  rw [set_last, mdTs_sn, mdTs_sn]
  unfold grow1
  rw [if_pos (by simp)]
  simp
theorem grow1_less {L : List (ByteArray × ByteArray)} {x y p q : ByteArray} (h : x ≠ p) : grow1 (mdTs (L ++ [(x, y)])) (p.data.toList, q.data.toList) = mdTs (L ++ [(x, y)] ++ [(p, q)]) := by
  rw [mdTs_sn (L ++ [(x, y)]), mdTs_sn L]
  refine grow1_new ?_
  simp only [List.getLast?_append, List.getLast?_singleton, Option.some_or, Option.map_some]
  exact fun e => h (bytes_eq.1 (Option.some.inj e))
theorem grow1_nil (p q : ByteArray) : grow1 (mdTs []) (p.data.toList, q.data.toList) = mdTs [(p, q)] := rfl
set_option maxHeartbeats 4000000 in
set_option maxRecDepth 100000 in
theorem greatest_calls (v : Value) (l : List Md) (w : World) (h : ModsAt w v l) (hl : l.length ≤ 1000000) :
    Calls Tryz.prog 75 #[v] w fun e w' => (∃ v' L, e = .returned v' ∧ mdTs L = greatest l ∧ w'.ownsRow w.heap.size 29 2 v' L.length (mdVs L)) ∧ Below w.heap.size w w' := by
  obtain ⟨i0, hi, hz0, hz1, hz2⟩ := info_parts Tryz.infoMod
  obtain ⟨a, n, cap, P, V, rfl, rfl, hnc, hcap, hc⟩ := h
  rw [mdF_length] at hl
  replace hc := Lib.hid hc
  go_enter Tryz.func75, Tryz.ntmps75
  go_wp2_with fail
  go_loopw [3, 9] (fun o i wr => ∃ (k : Nat) (L : List (ByteArray × ByteArray)), k ≤ n ∧ i = .int .i64 k ∧ Hid (wr.ownsRow w.heap.size 29 2 o L.length (mdVs L)) ∧ L.length ≤ k ∧ Hid (mdTs L = greatest ((mdF n P V).take k)) ∧ Below w.heap.size w wr) (fun _ i _ => n - (intOf i).toNat)
  case atStart => exact ⟨0, [], Nat.zero_le _, rfl, Lib.hid (World.ownsRow_nil _ _ _ _), Nat.le_refl _, Lib.hid rfl, Below.refl _ _⟩
  case round =>
    obtain ⟨k, L, hk, rfl, hO, hLk, hT, hBr⟩ := hrel
    obtain ⟨ao, no, co, rfl⟩ := own_form hO.out
    have hown := Lib.hid (fun q (e : (Value.slice ao no co).ownBlock = some q) => (hO.out.lt q e).1)
    by_cases hlt : k < n
    · have hkn : (k : Int) < (n : Int) := by omega
      obtain ⟨b1, o1, ea, c0, c1⟩ := hc.out k hlt
      replace c0 := Below.cell_some hBr c0
      replace c1 := Below.cell_some hBr c1
      have HTK := Lib.hid (mdF_take_succ n P V k hlt)
      subst ea
      have hba := below_alloc wr (.cells #[.string (P k), .string (V k)] 29)
      obtain ⟨y0, y1, _⟩ := box2_alloc wr (.string (P k)) (.string (V k)) 29
      rcases List.eq_nil_or_concat L with rfl | ⟨L', ⟨x, y⟩, hLc⟩
      · have hn0 : no = 0 := own_len hO.out
        subst hn0
        have HN : Hid (mdTs ([] ++ [(P k, V k)]) = greatest ((mdF n P V).take (k + 1))) := Lib.hid (by
          rw [HTK.out, greatest_snoc, ← hT.out]; exact (grow1_nil _ _).symm)
        have hOa := ownsRow_kept hO.out hba
        have hBa := below_step hBr hba
        clear hT HTK hO hBr
        go_wp2_with fail
        have hx1 : decide ((-1 : Int) ≥ 0) = false := by decide
        have hx2 : decide ((0 : Int) ≤ -1) = false := by decide
        generalize wr.alloc (.cells #[.string (P k), .string (V k)] 29) = wa at *
        refine wp_region_quiet_patch (by kernel_rfl) (by kernel_rfl) ?_
        repeat (go_big_quiet_step (fail))
        refine wpQuiet_nil ?_
        intro _ hw'
        obtain ⟨⟨dq, osq⟩, hw''⟩ := hw'
        subst hw''
        have hb := below_patch wa dq osq
        replace hBa := below_step hBa hb
        replace hOa := hOa.below hb
        replace y0 := Below.cell_some hb y0
        replace y1 := Below.cell_some hb y1
        clear hb
        generalize patch wa dq osq = w5 at hBa hOa y0 y1 ⊢
        have HO := Lib.hid hOa
        clear hOa hx1 hx2
        have hBr := hBa
        have hLk : ([] : List (ByteArray × ByteArray)).length ≤ k := by simp
        go_wp2_with (at_builtin; refine wpList_append_own _ rfl _ _ 23 rfl w.heap.size 29 i0 (.agg #[.string ⟨#[]⟩, .string ⟨#[]⟩]) 2 32 Tryz.underlying23 hi hz0 hz1 hz2 rfl (by decide) _ _ _ rfl (HO.out.alloc _) ⟨w5.heap.size, 0, none⟩ 1 1 [.string (P k), .string (V k)] rfl rfl (cell_two_new _ _ _ _) (by intro u hu; simp at hu; rcases hu with rfl | rfl <;> rfl) (by unfold maxLen; omega) (by omega) (by have := hBr.size; simp; omega) ?_; intro o' w4 hown4 hgrow4 _)
        go_roundw
        case rel =>
          refine ⟨k + 1, [] ++ [(P k, V k)], by omega, by go_num, Lib.hid ?_, by first | (simp at hLk ⊢; omega) | (simp at hLk ⊢), HN, ?_⟩
          · rw [List.length_append, List.length_singleton, ← mdVs_snoc]
            exact hown4
          · exact (hBr.alloc hBr.size _).grown hgrow4 (by have := hBr.size; simp; omega) hown.out
        case measure => simp [intOf]; omega
      · rw [List.concat_eq_append] at hLc
        subst hLc
        have hT1 := hT.out
        have hOs := hO.out
        have hlx : L'.length < (L' ++ [(x, y)]).length := by simp
        obtain ⟨ag, rfl⟩ : ∃ g, ao = some ⟨g, 0, none⟩ := by
          rcases hO.out.2 with ⟨_, h1⟩ | ⟨g, c, cur, h1, _⟩
          · simp at h1
          · injection h1 with h1; exact ⟨g, h1⟩
        obtain ⟨d0, d1, hno⟩ := own_cells (i := L'.length) (x := x) (y := y) hOs (by simp)
        have hnl : no = L'.length + 1 := by rw [hno]; simp
        clear hno
        subst hnl
        replace d0 := Below.cell_some hba d0
        replace d1 := Below.cell_some hba d1
        have hOa := ownsRow_kept hO.out hba
        have hBa := below_step hBr hba
        have hw1 := wrap_nat L'.length (by simp at hLk; omega)
        have hm1 : ((L'.length + 1 : Nat) : Int) - 1 = (L'.length : Int) := by omega
        clear hT hO
        have hnn1 : decide ((L'.length : Int) ≥ 0) = true := decide_eq_true (by omega)
        have hnn2 : decide (0 ≤ (L'.length : Int)) = true := decide_eq_true (by omega)
        by_cases hxp : x = P k
        · subst hxp
          go_wp2_with fail
          generalize wr.alloc (.cells #[.string (P k), .string (V k)] 29) = wa at *
          have kqd0 := fun d os => cell_patch (d := d) (os := os) d0
          have kqy0 := fun d os => cell_patch (d := d) (os := os) y0
          refine wp_region_quiet_patch (by kernel_rfl) (by kernel_rfl) ?_
          repeat (go_big_quiet_step (fail))
          refine wpQuiet_nil ?_
          intro _ hw'
          obtain ⟨⟨dq, osq⟩, hw''⟩ := hw'
          subst hw''
          clear kqd0 kqy0
          have hb := below_patch wa dq osq
          replace hBa := below_step hBa hb
          replace hOa := hOa.below hb
          replace y0 := Below.cell_some hb y0
          replace y1 := Below.cell_some hb y1
          clear hb
          generalize patch wa dq osq = w5 at hBa hOa y0 y1 ⊢
          clear d0 d1
          obtain ⟨d0, d1, -⟩ := own_cells (i := L'.length) (x := P k) (y := y) hOa (by simp)
          have f0 := own_frozen (j := L'.length * 2) hOa
          have f1 := own_frozen (j := L'.length * 2 + 1) hOa
          have s1 : (w5.setCell ⟨ag, L'.length * 2, none⟩ (.string (P k))).cell? ⟨ag, L'.length * 2 + 1, none⟩ = some (.string y) := by rw [set_off _ (by omega)]; exact d1
          have s2 : (w5.setCell ⟨ag, L'.length * 2, none⟩ (.string (P k))).frozen? ⟨ag, L'.length * 2 + 1, none⟩ = false := by simpa using f1
          have HP := Lib.hid (own_put (i := L'.length) hOa (P k) (V k))
          have HN : Hid (mdTs ((L' ++ [(P k, y)]).set L'.length (P k, V k)) = greatest ((mdF n P V).take (k + 1))) := Lib.hid (by
            rw [HTK.out, greatest_snoc, ← hT1, grow1_same rfl])
          have hag := Lib.hid (hown.out ag rfl)
          have hLk2 := Lib.hid hLk
          clear hOa hOs hT1 HTK hLk hlx
          have hi1 : (L'.length : Int) < (L'.length : Int) + 1 := by omega
          go_wp2_with fail
          go_roundw
          case rel =>
            refine ⟨k + 1, (L' ++ [(P k, y)]).set L'.length (P k, V k), by omega, by go_num, HP, by rw [List.length_set]; have := hLk2.out; omega, HN, below_put hBa hag.out _ _⟩
          case measure => simp [intOf]; omega
        · have hq1 : (x.toList == (P k).toList) = false := by rw [toList_data, toList_data]; exact beq_eq_false_iff_ne.2 (fun e => hxp (bytes_eq.1 e))
          go_wp2_with fail
          generalize wr.alloc (.cells #[.string (P k), .string (V k)] 29) = wa at *
          have kqd0 := fun d os => cell_patch (d := d) (os := os) d0
          have kqy0 := fun d os => cell_patch (d := d) (os := os) y0
          refine wp_region_quiet_patch (by kernel_rfl) (by kernel_rfl) ?_
          repeat (go_big_quiet_step (fail))
          refine wpQuiet_nil ?_
          intro _ hw'
          obtain ⟨⟨dq, osq⟩, hw''⟩ := hw'
          subst hw''
          clear kqd0 kqy0
          have hb := below_patch wa dq osq
          replace hBa := below_step hBa hb
          replace hOa := hOa.below hb
          replace y0 := Below.cell_some hb y0
          replace y1 := Below.cell_some hb y1
          clear hb
          generalize patch wa dq osq = w5 at hBa hOa y0 y1 ⊢
          have HO := Lib.hid hOa
          have HN : Hid (mdTs (L' ++ [(x, y)] ++ [(P k, V k)]) = greatest ((mdF n P V).take (k + 1))) := Lib.hid (by
            rw [HTK.out, greatest_snoc, ← hT1, grow1_less hxp])
          have hLk2 : L'.length + 1 ≤ k := by simpa using hLk
          replace hBr := hBa
          clear hOa hOs hT1 HTK d0 d1
          go_wp2_with (at_builtin; refine wpList_append_own _ rfl _ _ 23 rfl w.heap.size 29 i0 (.agg #[.string ⟨#[]⟩, .string ⟨#[]⟩]) 2 32 Tryz.underlying23 hi hz0 hz1 hz2 rfl (by decide) _ _ _ rfl (HO.out.alloc _) ⟨w5.heap.size, 0, none⟩ 1 1 [.string (P k), .string (V k)] rfl rfl (cell_two_new _ _ _ _) (by intro u hu; simp at hu; rcases hu with rfl | rfl <;> rfl) (by unfold maxLen; omega) (by omega) (by have := hBr.size; simp; omega) ?_; intro o' w4 hown4 hgrow4 _)
          go_roundw
          case rel =>
            refine ⟨k + 1, (L' ++ [(x, y)]) ++ [(P k, V k)], by omega, by go_num, Lib.hid ?_, by first | (simp at hLk ⊢; omega) | (simp at hLk ⊢), HN, ?_⟩
            · rw [List.length_append, List.length_singleton, ← mdVs_snoc]
              exact hown4
            · exact (hBr.alloc hBr.size _).grown hgrow4 (by have := hBr.size; simp; omega) hown.out
          case measure => simp [intOf]; omega
    · obtain rfl : k = n := by omega
      have HF : Hid (mdTs L = greatest (mdF k P V)) := Lib.hid (by rw [hT.out, mdF_take_all])
      have HOr := hO
      clear hT hlt
      go_wp2_with fail
      go_ret
      exact ⟨⟨_, L, rfl, HF.out, HOr.out⟩, hBr⟩
end Go.Proofs.Pw

namespace Go.Proofs.Pw
open Go.RowKit
open Go.Lib hiding intOf
noncomputable def buildR (l : List En) (roots : List Md) : List Md := if (startErr l roots).1 = 0 then buildL l roots else []
theorem build_of {l : List En} {roots : List Md} : greatest (reachR l roots) = buildR l roots := by
  unfold reachR buildR
  by_cases h0 : (startErr l roots).1 = 0
  · rw [if_pos h0, if_pos h0]; rfl
  · rw [if_neg h0, if_neg h0]; rfl
theorem mvsBuild_in (ks : List Nat) (A : Nat → Addr) (hks : IdxKs ks) (a : Option Addr) (n cap : Nat) (P V : Nat → ByteArray) (R : Nat → List Md) (K : Nat → List Str) (Bk : Nat → Bool) (Rv Kv : Nat → Value) (rv : Value) (roots : List Md) (w : World) (hE : EnvP ks A w) (h : EntsIn w a n cap P V R K Bk Rv Kv) (hs : ShortI (enF n P V R K Bk)) (hr : ModsAt w rv roots) (hl : roots.length ≤ 100000) :
    Calls Tryz.prog 27 #[.slice a n cap, rv] w fun e w' => (∃ x ev, e = .returned (.tuple #[x, ev]) ∧ FaultAt A w' ev (startErr (enF n P V R K Bk) roots) ∧ ModsAt w' x (buildR (enF n P V R K Bk) roots)) ∧ Below w.heap.size w w' := by
  have hre := grReach_in ks A hks a n cap P V R K Bk Rv Kv rv roots w hE h hs hr hl
  obtain ⟨ar, rn, rc, _, _, rfl, _⟩ := id hr
  have hlen : (reachR (enF n P V R K Bk) roots).length ≤ 1000000 := by
    unfold reachR
    by_cases h0 : (startErr (enF n P V R K Bk) roots).1 = 0
    · rw [if_pos h0]
      have h2 : (reachL (enF n P V R K Bk) roots).length ≤ (enF n P V R K Bk).length := by
        unfold reachL
        exact Nat.le_trans (List.length_filter_le _ _) (by rw [List.length_map]; exact Nat.le_refl _)
      have := (rightG_of h0).idx.len
      omega
    · rw [if_neg h0]; decide
  have hbu := build_of (l := enF n P V R K Bk) (roots := roots)
  have hbe : (startErr (enF n P V R K Bk) roots).1 ≠ 0 → buildR (enF n P V R K Bk) roots = [] := fun h0 => by unfold buildR; rw [if_neg h0]
  generalize reachR (enF n P V R K Bk) roots = X at hre hlen hbu
  generalize buildR (enF n P V R K Bk) roots = Y at hbu hbe ⊢
  replace hre := Lib.hid hre
  clear h hs hr hE
  go_enter Tryz.func27, Tryz.ntmps27
  go_wp2_with fail
  refine hre.out.mono ?_
  rintro e w1 ⟨⟨x, ev, rfl, hf, hx⟩, hB⟩
  have hgr := greatest_calls x X w1 hx hlen
  obtain ⟨ax, nx, cx, _, _, rfl, _⟩ := id hx
  replace hgr := Lib.hid hgr
  clear hre hx hlen
  rcases fault_form hf with ⟨h0, rfl⟩ | ⟨h0, ty, q, rfl⟩
  · have HF := Lib.hid hf
    clear hf h0 hbe
    go_wp2_with fail
    refine hgr.out.mono ?_
    rintro e w2 ⟨⟨v2, L, rfl, hL, ho⟩, hb2⟩
    have hM := modsAt_own ho
    rw [hL, hbu] at hM
    have HM := Lib.hid hM
    clear hM ho hL
    go_wp2_with fail
    go_ret2
    exact ⟨⟨_, _, rfl, HF.out.below hb2, HM.out⟩, below_step hB hb2⟩
  · have HF := Lib.hid hf
    have HY := Lib.hid (hbe h0)
    clear hf h0 hbe hbu hgr
    go_wp2_with fail
    go_ret2
    refine ⟨⟨_, _, rfl, HF.out, ?_⟩, hB⟩
    rw [HY.out]
    exact ModsAt.nil _
end Go.Proofs.Pw

namespace Go.Proofs.Pw
open Go.Lib hiding intOf
theorem sel_build {l : List En} {roots : List Md} (h : (startErr l roots).1 = 0) : Sel l (buildR l roots) := by
  have hG := rightG_of h
  have hb : buildR l roots = buildL l roots := by unfold buildR; rw [if_pos h]
  rw [hb]
  refine ⟨hG.idx, ?_, hG.great.rise, fun m hm => hG.entry (build_reached hG hm)⟩
  unfold startErr at h
  exact (orE_zero.1 h).1
namespace Sel
variable {l : List En} {S : List Md}
end Sel
end Go.Proofs.Pw
