/- St: walks and plain laws, joined: Mod2 ModAhead Patch File File2 Mem2 File3 Ent. Conditions: at each theorem. -/
import Derived.Test.YtglhgbcebpeomaaGreatDoorSti
import Derived.Test.YtglhgbcebpeomaaGreatDoorStg
import Derived.Test.YtglhgbcebpeomaaGreatDoorStb
import Derived.WalkKit
import Derived.Deep.QuietTactic
import Derived.BigQuiet
import Derived.Shelf.SlSortCmp.QuietGrown
import Derived.Shelf.Abstract
import Derived.Deep.Upon
import Derived.Stop.IfaceNil
import Derived.Test.YtglhgbcebpeomaaGreatDoorStc

namespace Go.Proofs.Pw
open Go.RowKit
open Go.Lib hiding intOf
theorem modSplit_bad {s : Str} (h : pathErr s ≠ 0) : modSplit s = ([], 0) := by unfold modSplit; rw [if_pos h]
theorem modSplit_no {s : Str} (h : pathErr s = 0) (hl : lastIndex s [47] < 0) : modSplit s = (s, 0) := by unfold modSplit; rw [if_neg (by rw [h]; simp)]; simp only; rw [if_pos hl]
theorem modSplit_at {s : Str} (h : pathErr s = 0) {k : Nat} (hl : lastIndex s [47] = k) : modSplit s = if isSuf (s.drop (k + 1)) then (s.take k, sufNum (s.drop (k + 1))) else (s, 0) := by
  unfold modSplit; rw [if_neg (by rw [h]; simp)]; simp only; rw [if_neg (by omega), hl]; rfl
theorem lastOcc_lt (s sub : Str) : ∀ n, lastOcc s sub n < n := by
  intro n
  induction n with
  | zero => unfold lastOcc; omega
  | succ n ih => unfold lastOcc; split <;> omega
theorem lastIndex_lt (s : Str) (c : UInt8) : lastIndex s [c] < s.length := by
  unfold lastIndex
  split
  · rename_i h
    have := lastOcc_lt s [c] (s.length - [c].length + 1)
    simp only [List.length_cons, List.length_nil] at h this ⊢
    omega
  · omega
theorem modSplit_calls (ks : List Nat) (A : Nat → Addr) (h4 : 4 ∈ ks) (s : ByteArray) (w : World) (hE : EnvP ks A w) (hs : s.size ≤ 1000000000) :
    Calls Tryz.prog 126 #[.string s] w fun e w' => e = .returned (.tuple #[.string ⟨(modSplit s.data.toList).1.toArray⟩, .int .i64 ((modSplit s.data.toList).2 : Nat)]) ∧ Below w.heap.size w w' := by
  by_cases hp : pathErr s.data.toList = 0
  · have hlt := lastIndex_lt s.data.toList 47
    have hL := Tryz.strings_LastIndex s ⟨#[47]⟩ (by omega)
    rw [show (⟨#[47]⟩ : ByteArray).data.toList = [47] from rfl] at hL
    by_cases hl : lastIndex s.data.toList [47] < 0
    · rw [modSplit_no hp hl]
      generalize lastIndex s.data.toList [47] = i at hl hL
      have HL := Lib.hid hL
      have HP := Lib.hid hp
      clear hlt hp hL
      go_enter Tryz.func126, Tryz.ntmps126
      go_wp2_with fail
      refine (path_calls ks A h4 s w hE hs).mono ?_
      rintro e w1 ⟨rfl, hb1⟩
      rw [HP.out, errV_zero]
      go_wp2_with fail
      refine (HL.out w1).mono ?_
      rintro e w2 ⟨rfl, rfl⟩
      go_wp2_with fail
      go_ret2
      exact ⟨rfl, hb1⟩
    · obtain ⟨k, hk⟩ : ∃ k : Nat, lastIndex s.data.toList [47] = k := ⟨(lastIndex s.data.toList [47]).toNat, by omega⟩
      have hm := modSplit_at hp hk
      have hks : k < s.size := by rw [size_eq]; omega
      rw [hk] at hL
      generalize modSplit s.data.toList = R at hm ⊢
      have HM := Lib.hid hm
      have HL := Lib.hid hL
      have HP := Lib.hid hp
      clear hlt hp hL hl hk hm
      go_enter Tryz.func126, Tryz.ntmps126
      go_wp2_with fail
      refine (path_calls ks A h4 s w hE hs).mono ?_
      rintro e w1 ⟨rfl, hb1⟩
      rw [HP.out, errV_zero]
      go_wp2_with fail
      refine (HL.out w1).mono ?_
      rintro e w2 ⟨rfl, rfl⟩
      have hsz : (s.extract (k + 1) s.size).size ≤ 4000000000 := by simp; omega
      have hE1 := hE.below hb1
      go_wp2_with fail
      refine (suffixWell_calls ks A _ _ hE1 hsz).mono ?_
      rintro e w3 ⟨⟨q, rfl, hq⟩, hb3⟩
      have hdr : (s.extract (k + 1) s.size).data.toList = s.data.toList.drop (k + 1) := extract_to_end s (k + 1)
      rw [hdr] at hq ⊢
      have hb13 := below_step hb1 hb3
      cases hi : isSuf (s.data.toList.drop (k + 1)) with
      | true =>
        have HQ := Lib.hid (hq hi)
        have HF : Hid (R = (s.data.toList.take k, sufNum (s.data.toList.drop (k + 1)))) := Lib.hid (by rw [HM.out, if_pos hi])
        clear hq hi hdr
        go_wp2_with fail
        go_ret2
        rw [HF.out, HQ.out]
        refine ⟨?_, hb13⟩
        have : s.extract 0 k = ⟨(s.data.toList.take k).toArray⟩ := by
          apply ByteArray.ext
          apply Array.ext'
          simp
        rw [this]
        rfl
      | false =>
        have HF : Hid (R = (s.data.toList, 0)) := Lib.hid (by rw [HM.out, if_neg (by rw [hi]; decide)])
        clear hq hi hdr
        go_wp2_with fail
        go_ret2
        rw [HF.out]
        exact ⟨rfl, hb13⟩
  · rw [modSplit_bad hp]
    have HP := Lib.hid hp
    clear hp
    go_enter Tryz.func126, Tryz.ntmps126
    go_wp2_with fail
    refine (path_calls ks A h4 s w hE hs).mono ?_
    rintro e w1 ⟨rfl, hb1⟩
    rw [errV_pos A HP.out]
    go_wp2_with fail
    go_ret2
    exact ⟨rfl, hb1⟩
theorem modErr_path {p v : Str} (h : pathErr p ≠ 0) : modErr p v = pathErr p := by unfold modErr; rw [if_pos h]
theorem modErr_ver {p v : Str} (h : pathErr p = 0) (h2 : verErr v ≠ 0) : modErr p v = verErr v := by unfold modErr; rw [if_neg (by rw [h]; simp), if_pos h2]
theorem modErr_major {p v : Str} (h : pathErr p = 0) (h2 : verErr v = 0) : modErr p v = if ((modSplit p).2 = 0 ∧ 1 < verNum v 0) ∨ (0 < (modSplit p).2 ∧ verNum v 0 ≠ (modSplit p).2) then 4 else 0 := by
  unfold modErr; rw [if_neg (by rw [h]; simp), if_neg (by rw [h2]; simp)]
structure Box2 (w : World) (b : Nat) (v0 v1 : Value) : Prop where
  c0 : w.cell? ⟨b, 0, none⟩ = some v0
  c1 : w.cell? ⟨b, 1, none⟩ = some v1
  fr : ∀ j, w.frozen? ⟨b, j, none⟩ = false
theorem Box2.below {w w' : World} {b : Nat} {v0 v1 : Value} (h : Box2 w b v0 v1) (hb : Below w.heap.size w w') : Box2 w' b v0 v1 :=
  ⟨Below.cell_some hb h.c0, Below.cell_some hb h.c1, fun j => (hb.frozen (p := ⟨b, j, none⟩) (show b < w.heap.size from lt_of_cell h.c0)).trans (h.fr j)⟩
theorem box2_alloc (w : World) (v0 v1 : Value) (t : TypeId) : Box2 (w.alloc (.cells #[v0, v1] t)) w.heap.size v0 v1 :=
  ⟨by simp, by simp, fun j => by simp⟩
set_option maxHeartbeats 1000000 in
theorem modCheck_calls (ks : List Nat) (A : Nat → Addr) (h4 : 4 ∈ ks) (p v : ByteArray) (w : World) (hE : EnvP ks A w) (hp : p.size ≤ 1000000000) (hv : v.size ≤ 1000000000) :
    Calls Tryz.prog 62 #[.agg #[.string p, .string v]] w fun e w' => e = .returned (errV A (modErr p.data.toList v.data.toList)) ∧ Below w.heap.size w w' := by
  have hbA := below_alloc w (.cells #[.string p, .string v] 29)
  have hzA := box2_alloc w (.string p) (.string v) 29
  have hEA := hE.below hbA
  by_cases h1 : pathErr p.data.toList = 0
  · have H1 := Lib.hid h1
    by_cases h2 : verErr v.data.toList = 0
    · have hm := modErr_major h1 h2
      have H2 := Lib.hid h2
      have hmc : ((modSplit p.data.toList).2 = 0 ∧ 1 < verNum v.data.toList 0) ∨ ((modSplit p.data.toList).2 = 0 ∧ ¬ 1 < verNum v.data.toList 0) ∨ (0 < (modSplit p.data.toList).2 ∧ verNum v.data.toList 0 ≠ (modSplit p.data.toList).2) ∨ (0 < (modSplit p.data.toList).2 ∧ verNum v.data.toList 0 = (modSplit p.data.toList).2) := by omega
      generalize modErr p.data.toList v.data.toList = R at hm ⊢
      have HM := Lib.hid hm
      have HMC := Lib.hid hmc
      clear h1 h2 hm hmc
      go_enter Tryz.func62, Tryz.ntmps62
      go_wp2_with fail
      refine (path_calls ks A h4 p _ hEA hp).mono ?_
      rintro e w1 ⟨rfl, hb1⟩
      rw [H1.out, errV_zero]
      have hz1 := hzA.below hb1
      have c0 := hz1.c0
      have c1 := hz1.c1
      have hE1 := hEA.below hb1
      have hb01 := below_step hbA hb1
      go_wp2_with fail
      refine (verSplit_calls ks A v w1 hE1 hv).mono ?_
      rintro e w2 ⟨hb2, vv, rfl, a, n, cap, L, rfl, _, _, _, _⟩
      have hz2 := hz1.below hb2
      have hE2 := hE1.below hb2
      have hb02 := below_step hb01 hb2
      clear c0 c1
      have c0 := hz2.c0
      have c1 := hz2.c1
      rw [H2.out, errV_zero]
      have hbB := below_alloc w2 (.cells #[.int .i64 (verNum v.data.toList 0 : Nat), .int .i64 (verNum v.data.toList 1 : Nat), .int .i64 (verNum v.data.toList 2 : Nat), .slice a n cap] 154)
      have d0 := (hz2.below hbB).c0
      have d1 := (hz2.below hbB).c1
      have hE3 := hE2.below hbB
      have hb03 := below_step hb02 hbB
      have hz3 := box4_alloc w2 (.int .i64 (verNum v.data.toList 0 : Nat)) (.int .i64 (verNum v.data.toList 1 : Nat)) (.int .i64 (verNum v.data.toList 2 : Nat)) (.slice a n cap) 154
      go_wp2_with fail
      refine (modSplit_calls ks A h4 p _ hE3 hp).mono ?_
      rintro e w4 ⟨rfl, hb4⟩
      have z0 := (hz3.below hb4).c0
      have hb04 := below_step hb03 hb4
      have g4 := (hE3.below hb4).errs.var 4 h4
      simp only [errG] at g4
      clear c0 c1 d0 d1 hz3 hz2 hz1 hb1 hb2 hb01 hb02 hb03 hbB hE1 hE2 hE3 hb4
      generalize verNum v.data.toList 0 = mj at z0 HM HMC ⊢
      generalize (modSplit p.data.toList).2 = q at HM HMC ⊢
      rcases HMC.out with ⟨rfl, h⟩ | ⟨rfl, h⟩ | ⟨h, h'⟩ | ⟨h, rfl⟩
      · have HF : Hid (R = 4) := Lib.hid (by rw [HM.out, if_pos (.inl ⟨rfl, h⟩)])
        have hi : (1 : Int) < (mj : Int) := by omega
        have hi2 : decide ((1 : Int) < (mj : Int)) = true := decide_eq_true hi
        clear HM HMC h
        go_wp2_with fail
        go_ret
        rw [HF.out]
        exact ⟨rfl, hb04⟩
      · have HF : Hid (R = 0) := Lib.hid (by rw [HM.out, if_neg (by omega)])
        have hi : ¬ (1 : Int) < (mj : Int) := by omega
        clear HM HMC h
        go_wp2_with fail
        go_ret
        rw [HF.out]
        exact ⟨rfl, hb04⟩
      · have HF : Hid (R = 4) := Lib.hid (by rw [HM.out, if_pos (.inr ⟨h, h'⟩)])
        have hi : (0 : Int) < (q : Int) := by omega
        have hi0 : ((q : Int) == 0) = false := beq_eq_false_iff_ne.2 (by omega)
        have hi1 : ((mj : Int) == (q : Int)) = false := beq_eq_false_iff_ne.2 (by omega)
        clear HM HMC h h'
        go_wp2_with fail
        go_ret
        rw [HF.out]
        exact ⟨rfl, hb04⟩
      · have HF : Hid (R = 0) := Lib.hid (by rw [HM.out, if_neg (by omega)])
        have hi : (0 : Int) < (mj : Int) := by omega
        have hi0 : ((mj : Int) == 0) = false := beq_eq_false_iff_ne.2 (by omega)
        clear HM HMC h
        go_wp2_with fail
        go_ret
        rw [HF.out]
        exact ⟨rfl, hb04⟩
    · rw [modErr_ver h1 h2, errV_pos A h2]
      have H2 := Lib.hid h2
      clear h1 h2
      go_enter Tryz.func62, Tryz.ntmps62
      go_wp2_with fail
      refine (path_calls ks A h4 p _ hEA hp).mono ?_
      rintro e w1 ⟨rfl, hb1⟩
      rw [H1.out, errV_zero]
      have hz1 := hzA.below hb1
      have c0 := hz1.c0
      have c1 := hz1.c1
      have hE1 := hEA.below hb1
      have hb01 := below_step hbA hb1
      go_wp2_with fail
      refine (verSplit_calls ks A v w1 hE1 hv).mono ?_
      rintro e w2 ⟨hb2, vv, rfl, a, n, cap, L, rfl, _, _, _, _⟩
      have hb02 := below_step hb01 hb2
      rw [errV_pos A H2.out]
      go_wp2_with fail
      go_ret
      exact ⟨rfl, hb02.alloc hb02.size _⟩
  · rw [modErr_path h1, errV_pos A h1]
    have HP := Lib.hid h1
    clear h1
    go_enter Tryz.func62, Tryz.ntmps62
    go_wp2_with fail
    refine (path_calls ks A h4 p _ hEA hp).mono ?_
    rintro e w1 ⟨rfl, hb1⟩
    rw [errV_pos A HP.out]
    go_wp2_with fail
    go_ret
    exact ⟨rfl, below_step hbA hb1⟩
theorem modText_calls (ks : List Nat) (A : Nat → Addr) (h4 : 4 ∈ ks) (p v : ByteArray) (w : World) (hE : EnvP ks A w) (hp : p.size ≤ 1000000000) (hv : v.size ≤ 1000000000) :
    Calls Tryz.prog 43 #[.agg #[.string p, .string v]] w fun e w' => e = .returned (.string ⟨(modText p.data.toList v.data.toList).toArray⟩) ∧ Below w.heap.size w w' := by
  have hbA := below_alloc w (.cells #[.string p, .string v] 29)
  have hzA := box2_alloc w (.string p) (.string v) 29
  have hEA := hE.below hbA
  have hm : modText p.data.toList v.data.toList = if modErr p.data.toList v.data.toList = 0 then p.data.toList ++ [64] ++ v.data.toList else [] := rfl
  generalize modText p.data.toList v.data.toList = R at hm ⊢
  have HM := Lib.hid hm
  clear hm
  go_enter Tryz.func43, Tryz.ntmps43
  go_wp2_with fail
  refine (modCheck_calls ks A h4 p v _ hEA hp hv).mono ?_
  rintro e w1 ⟨rfl, hb1⟩
  have hz1 := hzA.below hb1
  have c0 := hz1.c0
  have c1 := hz1.c1
  have hb01 := below_step hbA hb1
  by_cases h : modErr p.data.toList v.data.toList = 0
  · have HF : Hid (R = p.data.toList ++ [64] ++ v.data.toList) := Lib.hid (by rw [HM.out, if_pos h])
    rw [h, errV_zero]
    go_wp2_with fail
    go_ret
    rw [HF.out]
    refine ⟨?_, hb01⟩
    have : p ++ ⟨#[64]⟩ ++ v = ⟨(p.data.toList ++ [64] ++ v.data.toList).toArray⟩ := by
      apply ByteArray.ext
      apply Array.ext'
      simp
    rw [← this]
    rfl
  · have HF : Hid (R = []) := Lib.hid (by rw [HM.out, if_neg h])
    rw [errV_pos A h]
    go_wp2_with fail
    go_ret
    rw [HF.out]
    exact ⟨rfl, hb01⟩
end Go.Proofs.Pw

namespace Go.Proofs.Pw
open Go.RowKit
open Go.Lib hiding intOf
theorem ahead_eq (p v q u : ByteArray) : modAhead (p.data.toList, v.data.toList) (q.data.toList, u.data.toList) = (Op.bytesLess p.toList q.toList || (p.toList == q.toList && verLess v.data.toList u.data.toList)) := by
  rw [toList_data, toList_data, bytesLess_iff]
  unfold modAhead
  congr 2
  rw [Bool.eq_iff_iff]
  simp
set_option maxHeartbeats 1000000 in
theorem modAhead_calls (ks : List Nat) (A : Nat → Addr) (p v q u : ByteArray) (w : World) (hE : EnvP ks A w) (hv : v.size ≤ 1000000000) (hu : u.size ≤ 1000000000) :
    Calls Tryz.prog 63 #[.agg #[.string p, .string v], .agg #[.string q, .string u]] w fun e w' => e = .returned (.bool (modAhead (p.data.toList, v.data.toList) (q.data.toList, u.data.toList))) ∧ Below w.heap.size w w' := by
  have hm := ahead_eq p v q u
  have hl := fun W hW => verLess_calls ks A v u W hW hv hu
  have hb1 := below_alloc w (.cells #[.string p, .string v] 29)
  have hB := below_step hb1 (below_alloc _ (.cells #[.string q, .string u] 29))
  replace hE := hE.below hB
  generalize modAhead (p.data.toList, v.data.toList) (q.data.toList, u.data.toList) = R at hm ⊢
  generalize verLess v.data.toList u.data.toList = X at hl hm
  replace hm := Lib.hid hm
  replace hl := Lib.hid hl
  clear hb1
  cases h1 : Op.bytesLess p.toList q.toList with
  | true =>
    have HF : Hid (R = true) := Lib.hid (by rw [hm.out, h1]; rfl)
    go_enter Tryz.func63, Tryz.ntmps63
    go_wp2_with fail
    go_ret
    rw [HF.out]
    exact ⟨rfl, hB⟩
  | false =>
    cases h2 : (p.toList == q.toList) with
    | true =>
      have HF : Hid (R = X) := Lib.hid (by rw [hm.out, h1, h2]; simp)
      have h3 : p.toList = q.toList := beq_iff_eq.1 h2
      have h4 : p = q := by rw [toList_data, toList_data] at h3; exact bytes_eq.1 h3
      subst h4
      clear h2 h3
      go_enter Tryz.func63, Tryz.ntmps63
      go_wp2_with fail
      refine (hl.out _ hE).mono ?_
      rintro e w1 ⟨rfl, hb⟩
      replace hB := below_step hB hb
      clear hb
      go_wp2_with fail
      go_ret
      rw [HF.out]
      exact ⟨rfl, hB⟩
    | false =>
      have HF : Hid (R = false) := Lib.hid (by rw [hm.out, h1, h2]; rfl)
      have h3 : p.toList ≠ q.toList := beq_eq_false_iff_ne.1 h2
      have h4 : p ≠ q := fun e => h3 (by rw [e])
      go_enter Tryz.func63, Tryz.ntmps63
      go_wp2_with fail
      go_ret
      rw [HF.out]
      exact ⟨rfl, hB⟩
end Go.Proofs.Pw

namespace Go.Proofs.Pw
open Go.RowKit
def patch (w : World) (d : Nat) (os : Array Obj) : World := { w with heap := w.heap ++ os, drawn := d }
structure PatchBy where
  d : Nat
  os : Array Obj
  deriving Inhabited
theorem below_patch (w : World) (d : Nat) (os : Array Obj) : Below w.heap.size w (patch w d os) :=
  ⟨rfl, rfl, rfl, by simp [patch], fun k hk => by simp [patch, Array.getElem?_append, hk]⟩
theorem patch_of_below {w w' : World} (h : Below w.heap.size w w') : ∃ p : PatchBy, w' = patch w p.d p.os := by
  refine ⟨⟨w'.drawn, w'.heap.extract w.heap.size w'.heap.size⟩, ?_⟩
  have hh : w'.heap = w.heap ++ w'.heap.extract w.heap.size w'.heap.size := by
    have hs := h.size
    apply Array.ext_getElem?
    intro i
    rw [Array.getElem?_append]
    split
    · rename_i hi; exact h.block i hi
    · rename_i hi
      rw [Array.getElem?_extract]
      split
      · congr 1; omega
      · rename_i hj
        rw [Array.getElem?_eq_none]
        omega
  obtain ⟨heap, tape, drawn, os, output⟩ := w'
  have h1 := h.os
  have h2 := h.tape
  have h3 := h.output
  simp only at h1 h2 h3 hh
  subst h1 h2 h3
  show World.mk heap _ _ _ _ = World.mk (w.heap ++ _) _ _ _ _
  congr 1
theorem cell_patch {w : World} {a : Addr} {v : Value} (h : w.cell? a = some v) (d : Nat) (os : Array Obj) : (patch w d os).cell? a = some v :=
  Below.cell_some (below_patch w d os) h
theorem Calls.patch_of {P : Program} {f : FuncId} {args : Array Value} {w : World} {d : Nat} {os : Array Obj} {v : Value}
    (h : Calls P f args (patch w d os) fun e w' => e = .returned v ∧ Below (patch w d os).heap.size (patch w d os) w') : Calls P f args (patch w d os) fun e w'' => e = .returned v ∧ ∃ p : PatchBy, w'' = patch w p.d p.os :=
  h.mono fun _ _ ⟨he, hb⟩ => ⟨he, patch_of_below (below_step (below_patch w d os) hb)⟩
theorem wp_region_quiet_patch {P : Program} {id : Nat} {Q : Exit → Act → World → Prop} {a : Act} {w : World} {l : List Oper} (hm : P.follows .mixedOrders = true) (hB : Region.lexB .any l.toArray = true)
    (h : wpQuiet P l.toArray (fun w' => ∃ p : PatchBy, w' = patch w p.d p.os) (fun a' => ∀ w', (∃ p : PatchBy, w' = patch w p.d p.os) → Q .normal a' w') l a) : (Code.region id l.toArray true).wp P Q a w :=
  wp_region_quiet (C := fun w' => ∃ p : PatchBy, w' = patch w p.d p.os) hm hB ⟨⟨w.drawn + 1, #[]⟩, by simp [patch]⟩ (by simpa using h)
end Go.Proofs.Pw

namespace Go.Proofs.Pw
open Go.RowKit
open Go.Lib hiding intOf
def FaultAt (A : Nat → Addr) (w : World) (v : Value) (r : Nat × Int) : Prop :=
  (r.1 = 0 ∧ r.2 = -1 ∧ v = .nilIface) ∨ (r.1 ≠ 0 ∧ r.2 = -1 ∧ v = errV A r.1) ∨
  (r.1 ≠ 0 ∧ ∃ b : Nat, v = .iface 106 (.pointer (some ⟨b, 0, none⟩)) ∧ w.cell? ⟨b, 0, none⟩ = some (.int .i64 r.2) ∧ w.cell? ⟨b, 1, none⟩ = some (errV A r.1))
theorem FaultAt.below {A : Nat → Addr} {w w' : World} {v : Value} {r : Nat × Int} (h : FaultAt A w v r) (hb : Below w.heap.size w w') : FaultAt A w' v r := by
  rcases h with h | h | ⟨h, b, h1, h2, h3⟩
  · exact .inl h
  · exact .inr (.inl h)
  · exact .inr (.inr ⟨h, b, h1, Below.cell_some hb h2, Below.cell_some hb h3⟩)
structure Box3 (w : World) (b : Nat) (v0 v1 v2 : Value) : Prop where
  c0 : w.cell? ⟨b, 0, none⟩ = some v0
  c1 : w.cell? ⟨b, 1, none⟩ = some v1
  c2 : w.cell? ⟨b, 2, none⟩ = some v2
theorem Box3.below {w w' : World} {b : Nat} {v0 v1 v2 : Value} (h : Box3 w b v0 v1 v2) (hb : Below w.heap.size w w') : Box3 w' b v0 v1 v2 :=
  ⟨Below.cell_some hb h.c0, Below.cell_some hb h.c1, Below.cell_some hb h.c2⟩
theorem wrap_nat (k : Nat) (h : k ≤ 1000000000) : IntKind.i64.wrap (k : Int) = (k : Int) := by
  simp [IntKind.wrap, IntKind.bits, IntKind.signed]; omega
theorem leq_eq (x y : ByteArray) : (Op.bytesLess x.toList y.toList || x.toList == y.toList) = decide (compareBytes x.data.toList y.data.toList ≤ 0) := by
  rw [toList_data, toList_data, bytesLess_iff]
  generalize x.data.toList = a
  generalize y.data.toList = b
  by_cases h : compareBytes a b < 0
  · rw [decide_eq_true h, decide_eq_true (by omega)]; rfl
  · rw [decide_eq_false h, Bool.false_or]
    by_cases e : a = b
    · subst e
      rw [compareBytes_ord.self]; simp
    · rw [beq_eq_false_iff_ne.2 e]
      have : compareBytes a b ≠ 0 := fun h0 => e (compareBytes_zero h0)
      rw [decide_eq_false (by omega)]
theorem bytes_pair {p v q u : ByteArray} : ((p.data.toList, v.data.toList) : Md) = (q.data.toList, u.data.toList) ↔ p = q ∧ v = u :=
  ⟨fun e => ⟨bytes_eq.1 (Prod.ext_iff.1 e).1, bytes_eq.1 (Prod.ext_iff.1 e).2⟩, fun e => by rw [e.1, e.2]⟩
end Go.Proofs.Pw

namespace Go.Proofs.Pw
open Go.RowKit
open Go.Lib hiding intOf
def Short (l : List Md) : Prop := l.length ≤ 1000000 ∧ ∀ m ∈ l, m.1.length ≤ 1000000 ∧ m.2.length ≤ 1000000
theorem short_F {n : Nat} {P V : Nat → ByteArray} (h : Short (mdF n P V)) : n ≤ 1000000 ∧ ∀ j, j < n → (P j).size ≤ 1000000 ∧ (V j).size ≤ 1000000 := by
  refine ⟨by have := h.1; rwa [mdF_length] at this, fun j hj => ?_⟩
  have := h.2 _ (List.mem_of_getElem? (mdF_get n P V j hj))
  rw [size_eq, size_eq]
  exact this
end Go.Proofs.Pw

namespace Go.Proofs.Pw
open Go.RowKit
open Go.Lib hiding intOf
def longMods (l : List Md) (most : Nat) : Bool := decide (most < l.length) || l.any fun m => decide (70 < m.1.length) || decide (60 < m.2.length)
def longI (l : List Md) (most : Nat) : Int := if longMods l most then 1 else 0
theorem longI_yes {l : List Md} {most : Nat} (h : longMods l most = true) : longI l most = 1 := by unfold longI; rw [h]; rfl
theorem longI_no {l : List Md} {most : Nat} (h : longMods l most = false) : longI l most = 0 := by unfold longI; rw [h]; rfl
set_option maxRecDepth 100000 in
theorem longMods_calls (v : Value) (l : List Md) (most : Nat) (w : World) (h : ModsAt w v l) :
    Calls Tryz.prog 11 #[v, .int .i64 (most : Nat)] w fun e w' => e = .returned (.int .i64 (longI l most)) ∧ w = w' := by
  obtain ⟨a, n, cap, P, V, rfl, rfl, hn, hcap, hc⟩ := h
  replace hc := Lib.hid hc
  by_cases hm : most < n
  · have hm' : (most : Int) < (n : Int) := by omega
    have HF : Hid (longI (mdF n P V) most = 1) := Lib.hid (longI_yes (by unfold longMods; rw [mdF_length, decide_eq_true hm]; rfl))
    clear hm
    go_enter Tryz.func11, Tryz.ntmps11
    go_wp2_with fail
    go_ret
    rw [HF.out]
    exact ⟨rfl, rfl⟩
  · have hm' : ¬ (most : Int) < (n : Int) := by omega
    have HL : Hid (longMods (mdF n P V) most = (mdF n P V).any fun m => decide (70 < m.1.length) || decide (60 < m.2.length)) := Lib.hid (by unfold longMods; rw [mdF_length, decide_eq_false hm, Bool.false_or])
    clear hm
    go_enter Tryz.func11, Tryz.ntmps11
    go_wp2_with fail
    go_loop [5] (fun i => ∃ k : Nat, k ≤ n ∧ i = .int .i64 k ∧ Hid (((mdF n P V).take k).any (fun m => decide (70 < m.1.length) || decide (60 < m.2.length)) = false)) (fun i => n - (intOf i).toNat)
    case atStart => exact ⟨0, Nat.zero_le _, rfl, Lib.hid rfl⟩
    case round =>
      obtain ⟨k, hk, rfl, HA⟩ := hrel
      by_cases hlt : k < n
      · obtain ⟨b, o, rfl, d1, d2⟩ := hc.out k hlt
        have HT := Lib.hid (mdF_take_succ n P V k hlt)
        have hbad : 70 < (P k).size ∨ 60 < (V k).size → longMods (mdF n P V) most = true := fun h => by
          rw [HL.out, List.any_eq_true]
          refine ⟨_, List.mem_of_getElem? (mdF_get n P V k hlt), ?_⟩
          rw [size_eq, size_eq] at h
          simpa using h
        replace hbad := Lib.hid hbad
        by_cases h1 : 70 < (P k).size
        · have h1' : (70 : Int) < ((P k).size : Int) := by omega
          go_wp2_with fail
          go_ret
          rw [longI_yes (hbad.out (.inl h1))]
          exact ⟨rfl, rfl⟩
        · have h1' : ¬ (70 : Int) < ((P k).size : Int) := by omega
          by_cases h2 : 60 < (V k).size
          · have h2' : (60 : Int) < ((V k).size : Int) := by omega
            go_wp2_with fail
            go_ret
            rw [longI_yes (hbad.out (.inr h2))]
            exact ⟨rfl, rfl⟩
          · have h2' : ¬ (60 : Int) < ((V k).size : Int) := by omega
            have HN : Hid (((mdF n P V).take (k + 1)).any (fun m => decide (70 < m.1.length) || decide (60 < m.2.length)) = false) := Lib.hid (by
              rw [HT.out, List.any_append, HA.out]
              rw [size_eq] at h1 h2
              simp only [List.any_cons, List.any_nil, Bool.or_false, Bool.false_or, Bool.or_eq_false_iff, decide_eq_false_iff_not]
              exact ⟨h1, h2⟩)
            go_wp2_with fail
            go_round
            case rel => exact ⟨k + 1, by omega, by go_num, HN⟩
            case measure => simp [intOf]; omega
      · obtain rfl : k = n := by omega
        have HF : Hid (longI (mdF k P V) most = 0) := Lib.hid (longI_no (by rw [HL.out, ← HA.out, mdF_take_all]))
        go_wp2_with fail
        go_ret
        rw [HF.out]
        exact ⟨rfl, rfl⟩
end Go.Proofs.Pw

namespace Go.Proofs.Pw
open Go.RowKit
open Go.Lib hiding intOf
def mdVs (l : List (ByteArray × ByteArray)) : List Value := l.flatMap fun m => [.string m.1, .string m.2]
def mdTs (l : List (ByteArray × ByteArray)) : List Md := l.map fun m => (m.1.data.toList, m.2.data.toList)
theorem mdVs_length (l) : (mdVs l).length = l.length * 2 := by
  induction l with
  | nil => rfl
  | cons a r ih =>
    show (([.string a.1, .string a.2] : List Value) ++ mdVs r).length = _
    rw [List.length_append, ih]; simp; omega
theorem mdTs_length (l) : (mdTs l).length = l.length := List.length_map ..
theorem mdVs_one {l} : ∀ u ∈ mdVs l, u.oneCell' = true := by
  intro u hu
  simp only [mdVs, List.mem_flatMap] at hu
  obtain ⟨m, _, hu⟩ := hu
  simp at hu
  rcases hu with rfl | rfl <;> rfl
theorem mdVs_get : ∀ {l : List (ByteArray × ByteArray)} {j : Nat} {m : ByteArray × ByteArray}, l[j]? = some m → (mdVs l)[j * 2]? = some (.string m.1) ∧ (mdVs l)[j * 2 + 1]? = some (.string m.2)
  | [], j, m, h => by simp at h
  | a :: r, 0, m, h => by
    simp at h; subst h
    exact ⟨rfl, rfl⟩
  | a :: r, j + 1, m, h => by
    have := mdVs_get (l := r) (j := j) (m := m) (by simpa using h)
    have e : mdVs (a :: r) = .string a.1 :: .string a.2 :: mdVs r := rfl
    rw [e, show (j + 1) * 2 = j * 2 + 1 + 1 by omega, List.getElem?_cons_succ, List.getElem?_cons_succ, List.getElem?_cons_succ, List.getElem?_cons_succ]
    exact this
theorem modsAt_own {w : World} {base e : Nat} {v : Value} {l : List (ByteArray × ByteArray)} (h : w.ownsRow base e 2 v l.length (mdVs l)) : ModsAt w v (mdTs l) := by
  rcases h.2 with ⟨rfl, h0⟩ | ⟨g, cap, cur, rfl, hb, hg, hn, hm, hs, ht⟩
  · have : l = [] := List.eq_nil_of_length_eq_zero h0
    subst this
    exact ModsAt.nil w
  · refine ⟨_, l.length, cap, fun j => (l.getD j (ByteArray.empty, ByteArray.empty)).1, fun j => (l.getD j (ByteArray.empty, ByteArray.empty)).2, rfl, ?_, hn, by unfold maxLen at hm; exact hm, fun j hj => ⟨g, 0, rfl, ?_⟩⟩
    · apply List.ext_getElem?
      intro i
      by_cases hi : i < l.length
      · rw [mdF_get _ _ _ i hi]
        simp [mdTs, List.getD_eq_getElem?_getD, List.getElem?_eq_getElem hi]
      · rw [List.getElem?_eq_none (by rw [mdTs_length]; omega), List.getElem?_eq_none (by rw [mdF_length]; omega)]
    · have hget := mdVs_get (l := l) (j := j) (m := l.getD j (ByteArray.empty, ByteArray.empty)) (by rw [List.getD_eq_getElem?_getD, List.getElem?_eq_getElem hj]; rfl)
      rw [← ht] at hget
      rw [List.getElem?_take, if_pos (by omega), List.getElem?_take, if_pos (by omega)] at hget
      rw [Nat.zero_add]
      exact ⟨by rw [cell_of_row w g _ cur e (0, 0) hg]; simpa using hget.1, by rw [cell_of_row w g _ cur e (0, 0) hg]; simpa using hget.2⟩
def mdL (n : Nat) (P V : Nat → ByteArray) : List (ByteArray × ByteArray) := (List.range n).map fun j => (P j, V j)
theorem mdL_length (n P V) : (mdL n P V).length = n := by simp [mdL]
theorem mdL_ts (n P V) : mdTs (mdL n P V) = mdF n P V := by simp [mdL, mdTs, mdF]
theorem Tryz.infoMod : (Tryz.prog.info? 29).map (fun i => (i.zero, i.size, i.bytes)) = some (some (.agg #[.string ⟨#[]⟩, .string ⟨#[]⟩]), 2, 32) := by kernel_rfl
theorem mods_cells {w : World} {b o n : Nat} {P V : Nat → ByteArray} (hc : ∀ j, j < n → w.cell? ⟨b, o + j * 2, none⟩ = some (.string (P j)) ∧ w.cell? ⟨b, o + j * 2 + 1, none⟩ = some (.string (V j))) :
    ∀ j u, (mdVs (mdL n P V))[j]? = some u → w.cell? ((⟨b, o, none⟩ : Addr).add j) = some u := by
  intro j u hu
  have hj : j < n * 2 := by
    have := (List.getElem?_eq_some_iff.1 hu).1
    rwa [mdVs_length, mdL_length] at this
  have hk : j / 2 < n := by omega
  have hg := mdVs_get (l := mdL n P V) (j := j / 2) (m := (P (j / 2), V (j / 2))) (by simp [mdL, hk])
  rw [show (⟨b, o, none⟩ : Addr).add j = ⟨b, o + j, none⟩ from by unfold Addr.add; split <;> simp_all]
  rcases Nat.mod_two_eq_zero_or_one j with h | h
  · rw [show j = j / 2 * 2 by omega] at hu ⊢
    rw [hg.1] at hu
    cases hu
    exact (hc _ hk).1
  · rw [show j = j / 2 * 2 + 1 by omega] at hu ⊢
    rw [hg.2] at hu
    cases hu
    rw [← Nat.add_assoc]
    exact (hc _ hk).2
set_option maxHeartbeats 1000000 in
theorem ownMods_calls (v : Value) (l : List Md) (w : World) (h : ModsAt w v l) (hl : l.length ≤ 1000000) :
    Calls Tryz.prog 16 #[v] w fun e w' => (∃ v', e = .returned v' ∧ ModsAt w' v' l ∧ ∃ L, l = mdTs L ∧ w'.ownsRow w.heap.size 29 2 v' L.length (mdVs L)) ∧ Below w.heap.size w w' := by
  obtain ⟨i0, hi, hz0, hz1, hz2⟩ := info_parts Tryz.infoMod
  obtain ⟨a, n, cap, P, V, rfl, rfl, hnc, hcap, hc⟩ := h
  rw [mdF_length] at hl
  cases a with
  | none =>
    have hn0 : n = 0 := by
      rcases Nat.eq_zero_or_pos n with h | h
      · exact h
      · obtain ⟨b, o, e, _⟩ := hc 0 h
        cases e
    subst hn0
    clear hc
    have happ := fun W ty => run_append_nothing (P := Tryz.prog) W 23 23 ty 29 i0 Tryz.underlying23 hi none 0 0 (Nat.le_refl _) (.slice none 0 cap) (Src.ofNil W Tryz.underlying23 cap)
    go_enter Tryz.func16, Tryz.ntmps16
    go_wp2_with fail
    go_ret
    exact ⟨⟨_, rfl, ModsAt.nil w, [], rfl, World.ownsRow_nil _ _ _ _⟩, Below.refl _ _⟩
  | some a =>
    have hc2 : ∃ news, news.length = n * 2 ∧ (∀ j u, news[j]? = some u → w.cell? (a.add j) = some u) ∧ news = mdVs (mdL n P V) := by
      refine ⟨_, by rw [mdVs_length, mdL_length], ?_, rfl⟩
      rcases Nat.eq_zero_or_pos n with h | h
      · subst h
        intro j u hu
        simp [mdL, mdVs] at hu
      · obtain ⟨b, o, e, _⟩ := hc 0 h
        injection e with e
        subst e
        exact mods_cells (fun j hj => by
          obtain ⟨b', o', e, h1, h2⟩ := hc j hj
          injection e with e
          injection e with e1 e2 _
          subst e1 e2
          exact ⟨h1, h2⟩)
    obtain ⟨news, hn1, hn2, hn3⟩ := hc2
    have HN := Lib.hid hn3
    clear hc hn3
    go_enter Tryz.func16, Tryz.ntmps16
    go_wp2_with (at_builtin; refine wpList_append_own _ rfl _ _ 23 rfl w.heap.size 29 i0 (.agg #[.string ⟨#[]⟩, .string ⟨#[]⟩]) 2 32 Tryz.underlying23 hi hz0 hz1 hz2 rfl (by decide) _ _ _ rfl (World.ownsRow_nil _ _ _ _) a n cap news rfl hn1 hn2 (by rw [HN.out]; exact mdVs_one) (by unfold maxLen; omega) (by omega) (Nat.le_refl _) ?_; intro v' w1 hown1 hgrow1 _)
    go_ret
    have ho : w1.ownsRow w.heap.size 29 2 v' (mdL n P V).length (mdVs (mdL n P V)) := by
      rw [mdL_length, ← HN.out]
      simpa using hown1
    refine ⟨⟨v', rfl, by rw [← mdL_ts]; exact modsAt_own ho, mdL n P V, (mdL_ts n P V).symm, ho⟩, (Below.refl _ _).grown hgrow1 (Nat.le_refl _) (fun k h => by cases h)⟩
structure Box3f (w : World) (b : Nat) (v0 v1 v2 : Value) : Prop where
  c0 : w.cell? ⟨b, 0, none⟩ = some v0
  c1 : w.cell? ⟨b, 1, none⟩ = some v1
  c2 : w.cell? ⟨b, 2, none⟩ = some v2
  fz : ∀ i, w.frozen? ⟨b, i, none⟩ = false
theorem Box3f.below {w w' : World} {b : Nat} {v0 v1 v2 : Value} (h : Box3f w b v0 v1 v2) (hb : Below w.heap.size w w') : Box3f w' b v0 v1 v2 :=
  ⟨Below.cell_some hb h.c0, Below.cell_some hb h.c1, Below.cell_some hb h.c2, fun i => (hb.frozen (p := ⟨b, i, none⟩) (show b < w.heap.size from lt_of_cell h.c0)).trans (h.fz i)⟩
theorem box3f_alloc (w : World) (v0 v1 v2 : Value) (t : TypeId) : Box3f (w.alloc (.cells #[v0, v1, v2] t)) w.heap.size v0 v1 v2 := ⟨by simp, by simp, by simp, fun i => by simp⟩
theorem set_same {w : World} {b k : Nat} {u : Value} (v : Value) (h : w.cell? ⟨b, k, none⟩ = some u) : (w.setCell ⟨b, k, none⟩ v).cell? ⟨b, k, none⟩ = some v := World.cell?_setCell_same _ _ _ h
theorem set_off {w : World} {b k j : Nat} (v : Value) (h : j ≠ k) : (w.setCell ⟨b, k, none⟩ v).cell? ⟨b, j, none⟩ = w.cell? ⟨b, j, none⟩ := World.cell?_setCell_other _ _ _ _ (by intro e; injection e with _ e _; exact h e.symm)
theorem set_blk {w : World} {b c k j : Nat} (v : Value) (h : c ≠ b) : (w.setCell ⟨b, k, none⟩ v).cell? ⟨c, j, none⟩ = w.cell? ⟨c, j, none⟩ := World.cell?_setCell_other _ _ _ _ (by intro e; injection e with e _ _; exact h e.symm)
theorem Box3f.other {w : World} {b c k : Nat} {v0 v1 v2 : Value} (h : Box3f w b v0 v1 v2) (hc : b ≠ c) (v : Value) : Box3f (w.setCell ⟨c, k, none⟩ v) b v0 v1 v2 :=
  ⟨by rw [set_blk v hc]; exact h.c0, by rw [set_blk v hc]; exact h.c1, by rw [set_blk v hc]; exact h.c2, fun i => by simp [h.fz i]⟩
theorem ModsAt.other {w : World} {v : Value} {l : List Md} {c k : Nat} (h : ModsAt w v l) (hc : ∀ q n m, v = .slice (some q) n m → q.block ≠ c) (u : Value) : ModsAt (w.setCell ⟨c, k, none⟩ u) v l := by
  obtain ⟨a, n, cap, P, V, rfl, h2, h3, h4, h5⟩ := h
  refine ⟨a, n, cap, P, V, rfl, h2, h3, h4, fun j hj => ?_⟩
  obtain ⟨b, o, rfl, e1, e2⟩ := h5 j hj
  have hb : b ≠ c := hc _ _ _ rfl
  exact ⟨b, o, rfl, by rw [set_blk u hb]; exact e1, by rw [set_blk u hb]; exact e2⟩
end Go.Proofs.Pw

namespace Go.Proofs.Pw
open Go.RowKit
open Go.Lib hiding intOf
structure EntC (w : World) (b o : Nat) (p v : ByteArray) (rv kv : Value) (bk : Bool) : Prop where
  c0 : w.cell? ⟨b, o, none⟩ = some (.string p)
  c1 : w.cell? ⟨b, o + 1, none⟩ = some (.string v)
  c2 : w.cell? ⟨b, o + 2, none⟩ = some rv
  c3 : w.cell? ⟨b, o + 3, none⟩ = some kv
  c4 : w.cell? ⟨b, o + 4, none⟩ = some (.bool bk)
theorem EntC.below {w w' : World} {b o : Nat} {p v : ByteArray} {rv kv : Value} {bk : Bool} (h : EntC w b o p v rv kv bk) (hb : Below w.heap.size w w') : EntC w' b o p v rv kv bk :=
  ⟨Below.cell_some hb h.c0, Below.cell_some hb h.c1, Below.cell_some hb h.c2, Below.cell_some hb h.c3, Below.cell_some hb h.c4⟩
structure EntsIn (w : World) (a : Option Addr) (n cap : Nat) (P V : Nat → ByteArray) (R : Nat → List Md) (K : Nat → List Str) (B : Nat → Bool) (Rv Kv : Nat → Value) : Prop where
  le : n ≤ cap
  cap : cap ≤ 9223372036854775807
  at_ : ∀ j, j < n → ∃ b o, a = some ⟨b, o, none⟩ ∧ EntC w b (o + j * 5) (P j) (V j) (Rv j) (Kv j) (B j)
  reqs : ∀ j, j < n → ModsAt w (Rv j) (R j)
  packs : ∀ j, j < n → StrsAt w (Kv j) (K j)
theorem EntsIn.below {w w' : World} {a n cap P V R K B Rv Kv} (h : EntsIn w a n cap P V R K B Rv Kv) (hb : Below w.heap.size w w') : EntsIn w' a n cap P V R K B Rv Kv :=
  ⟨h.le, h.cap, fun j hj => let ⟨b, o, e, c⟩ := h.at_ j hj; ⟨b, o, e, c.below hb⟩, fun j hj => (h.reqs j hj).below hb, fun j hj => (h.packs j hj).below hb⟩
def EntsAt (w : World) (v : Value) (l : List En) : Prop :=
  ∃ a n cap P V R K B Rv Kv, v = .slice a n cap ∧ l = enF n P V R K B ∧ EntsIn w a n cap P V R K B Rv Kv
theorem EntsAt.below {w w' : World} {v : Value} {l : List En} (h : EntsAt w v l) (hb : Below w.heap.size w w') : EntsAt w' v l := by
  obtain ⟨a, n, cap, P, V, R, K, B, Rv, Kv, h1, h2, h3⟩ := h
  exact ⟨a, n, cap, P, V, R, K, B, Rv, Kv, h1, h2, h3.below hb⟩
theorem EntsAt.nil (w : World) : EntsAt w (.slice none 0 0) [] :=
  ⟨none, 0, 0, fun _ => ByteArray.empty, fun _ => ByteArray.empty, fun _ => [], fun _ => [], fun _ => false, fun _ => .slice none 0 0, fun _ => .slice none 0 0, rfl, rfl, Nat.le_refl _, by decide, fun j hj => absurd hj (Nat.not_lt_zero _), fun j hj => absurd hj (Nat.not_lt_zero _), fun j hj => absurd hj (Nat.not_lt_zero _)⟩
structure ShortI (l : List En) : Prop where
  len : l.length ≤ 1000000
  mds : ∀ e ∈ l, e.md.1.length ≤ 1000000 ∧ e.md.2.length ≤ 1000000
  reqs : ∀ e ∈ l, Short e.reqs
  packs : ∀ e ∈ l, e.packs.length ≤ 1000000 ∧ ∀ s ∈ e.packs, s.length ≤ 1000000
theorem ShortI.at_ {n : Nat} {P V : Nat → ByteArray} {R : Nat → List Md} {K : Nat → List Str} {B : Nat → Bool} (h : ShortI (enF n P V R K B)) {j : Nat} (hj : j < n) :
    n ≤ 1000000 ∧ (P j).size ≤ 1000000 ∧ (V j).size ≤ 1000000 ∧ Short (R j) ∧ (K j).length ≤ 1000000 ∧ ∀ s ∈ K j, s.length ≤ 1000000 := by
  have hm := List.mem_of_getElem? (enF_get n P V R K B j hj)
  have h1 := h.len
  rw [enF_length] at h1
  refine ⟨h1, ?_, ?_, h.reqs _ hm, (h.packs _ hm).1, (h.packs _ hm).2⟩
  · rw [size_eq]; exact (h.mds _ hm).1
  · rw [size_eq]; exact (h.mds _ hm).2
end Go.Proofs.Pw
