/- Pf: walks and plain laws, joined: RefB RefC RefV. Conditions: at each theorem. -/
import Derived.Test.YtkfnhchlfojomaaGreatDoorPfd
import Derived.OwnWalk
import Derived.Laws.IdiomStrings
import Derived.Shelf.SlSortCmp.QuietGrown
import Derived.Lib.AppendIntMem

namespace Go.Proofs.Pw
open Go.RowKit
open Go.Lib hiding intOf
theorem Tryz.infoString : (Tryz.prog.info? 9).map (fun i => (i.zero, i.size, i.bytes)) = some (some (.string ⟨#[]⟩), 1, 16) := by kernel_rfl
def strVs (l : List ByteArray) : List Value := l.map Value.string
def strTs (l : List ByteArray) : List Str := l.map (·.data.toList)
theorem strTs_length (l) : (strTs l).length = l.length := List.length_map ..
theorem strVs_length (l) : (strVs l).length = l.length := List.length_map ..
theorem strVs_snoc (l : List ByteArray) (x : ByteArray) : strVs l ++ [.string x] = strVs (l ++ [x]) := by simp [strVs]
theorem strTs_snoc (l : List ByteArray) (x : ByteArray) : strTs (l ++ [x]) = strTs l ++ [x.data.toList] := by simp [strTs]
theorem lstF_list (l : List ByteArray) : lstF l.length (fun j => l.getD j ByteArray.empty) = strTs l := by
  apply List.ext_getElem
  · simp [lstF_length, strTs]
  · intro i h1 h2
    simp only [strTs, List.length_map] at h2
    simp [lstF, strTs, List.getD_eq_getElem?_getD, List.getElem?_eq_getElem h2]
theorem strsAt_own {w : World} {base e : Nat} {v : Value} {l : List ByteArray} (h : w.ownsRow base e 1 v l.length (strVs l)) : StrsAt w v (strTs l) := by
  rcases h.2 with ⟨rfl, h0⟩ | ⟨g, cap, cur, rfl, hb, hg, hn, hm, hs, ht⟩
  · have : l = [] := List.eq_nil_of_length_eq_zero h0
    subst this
    exact StrsAt.nil w
  · refine ⟨_, l.length, cap, fun j => l.getD j ByteArray.empty, rfl, (lstF_list l).symm, hn, by unfold maxLen at hm; exact hm, fun j hj => ⟨g, 0, rfl, ?_⟩⟩
    rw [Nat.zero_add, cell_of_row w g j cur e (0, 0) hg]
    have h1 : (strVs l)[j]? = some (.string (l.getD j ByteArray.empty)) := by
      simp [strVs, List.getD_eq_getElem?_getD, List.getElem?_eq_getElem hj]
    rw [← ht, List.getElem?_take, if_pos (by omega)] at h1
    simpa using h1
def NewRow (w : World) (v : Value) : Prop := ∀ q n c, v = .slice (some q) n c → w.heap.size ≤ q.block
theorem newRow_own {w w' : World} {e k n : Nat} {v : Value} {xs : List Value} (h : w'.ownsRow w.heap.size e k v n xs) : NewRow w v := by
  rintro q m c rfl
  exact (h.lt q.block rfl).1
theorem extract_take_drop (s : ByteArray) (g k : Nat) (_hk : k ≤ s.size) : (s.extract g k).data.toList = (s.data.toList.take k).drop g := by
  rw [extract_data, List.drop_take]
theorem cutAt_step (c : UInt8) (s : ByteArray) (k g : Nat) (hlt : k < s.size) (hg : g ≤ k) :
    cutAt c ((s.data.toList.take k).drop g) (s.data.toList.drop k) = if s[k] = c then (s.extract g k).data.toList :: cutAt c ((s.data.toList.take (k + 1)).drop (k + 1)) (s.data.toList.drop (k + 1)) else cutAt c ((s.data.toList.take (k + 1)).drop g) (s.data.toList.drop (k + 1)) := by
  have e1 : (s.data.toList.take (k + 1)).drop (k + 1) = [] := List.drop_eq_nil_of_le (by rw [List.length_take]; omega)
  have e2 : (s.data.toList.take (k + 1)).drop g = (s.data.toList.take k).drop g ++ [s[k]] := by
    rw [take_snoc s k hlt, List.drop_append_of_le_length (by rw [List.length_take, ← size_eq]; omega)]
  rw [drop_cons s k hlt, cutAt, extract_take_drop s g k (by omega), e1, e2]
set_option maxHeartbeats 400000 in
theorem refCut_calls (s : ByteArray) (c : UInt8) (w : World) (hs : s.size ≤ 1000000000) :
    Calls Tryz.prog 73 #[.string s, .int .u8 c.toNat] w fun e w' => (∃ v, e = .returned v ∧ StrsAt w' v (split s.data.toList [c]) ∧ NewRow w v) ∧ Below w.heap.size w w' := by
  obtain ⟨i0, hi, hz0, hz1, hz2⟩ := info_parts Tryz.infoString
  go_enter Tryz.func73, Tryz.ntmps73
  go_wp2_with fail
  go_loopw [5, 6, 7] (fun v f i wr => ∃ (k g : Nat) (P : List ByteArray), k ≤ s.size ∧ g ≤ k ∧ P.length ≤ k ∧ i = .int .i64 k ∧ f = .int .i64 g ∧ wr.ownsRow w.heap.size 9 1 v P.length (strVs P) ∧ Below w.heap.size w wr ∧ Hid (split s.data.toList [c] = strTs P ++ cutAt c ((s.data.toList.take k).drop g) (s.data.toList.drop k))) (fun _ _ i _ => s.size - (intOf i).toNat)
  case atStart => exact ⟨0, 0, [], Nat.zero_le _, Nat.le_refl _, Nat.le_refl _, rfl, rfl, World.ownsRow_nil _ _ _ _, Below.refl _ _, Lib.hid (split_eq c s.data.toList)⟩
  case round =>
    obtain ⟨k, g, P, hk, hg, hP, rfl, rfl, hown, hb, HC⟩ := hrel
    by_cases hlt : k < s.size
    · have hst := cutAt_step c s k g hlt hg
      by_cases hc : s[k] = c
      · rw [if_pos hc] at hst
        have hq : ((s[k].toNat : Int) == (c.toNat : Int)) = true := by rw [hc]; simp
        have HN : Hid (split s.data.toList [c] = strTs (P ++ [s.extract g k]) ++ cutAt c ((s.data.toList.take (k + 1)).drop (k + 1)) (s.data.toList.drop (k + 1))) := Lib.hid (by rw [HC.out, hst, strTs_snoc]; simp)
        have hc2 : (s[k].toNat : Int) = c.toNat := by rw [hc]
        clear hst hc
        go_wp2_with (at_builtin; refine wpList_append_own _ rfl _ _ 35 rfl w.heap.size 9 i0 (.string ⟨#[]⟩) 1 16 Tryz.underlying35 hi hz0 hz1 hz2 rfl (by decide) _ _ _ rfl (hown.alloc _) ⟨wr.heap.size, 0, none⟩ 1 1 [.string (s.extract g k)] rfl rfl (cell_one_new _ _ _) (fun x hx => by simp at hx; subst hx; rfl) (by unfold maxLen; omega) (by omega) (by have := hb.size; simp; omega) ?_; intro v' w1 hown1 hgrow1 _)
        go_roundw
        case rel =>
          refine ⟨k + 1, k + 1, P ++ [s.extract g k], by omega, Nat.le_refl _, by simp; omega, by go_num, by go_num, ?_, ?_, HN⟩
          · rw [← strVs_snoc, List.length_append]; exact hown1
          · exact (hb.alloc hb.size _).grown hgrow1 (by have := hb.size; simp; omega) (fun q hq => (hown.lt q hq).1)
        case measure => simp [intOf]; omega
      · rw [if_neg hc] at hst
        have hq : ((s[k].toNat : Int) == (c.toNat : Int)) = false := beq_eq_false_iff_ne.2 (fun e => hc (UInt8.toNat_inj.1 (by exact_mod_cast e)))
        have HN := Lib.hid (HC.out.trans (congrArg (strTs P ++ ·) hst))
        clear hst hc
        go_wp2_with fail
        go_roundw
        case rel => exact ⟨k + 1, g, P, by omega, by omega, by omega, by go_num, rfl, hown, hb, HN⟩
        case measure => simp [intOf]; omega
    · obtain rfl : k = s.size := by omega
      have HN : Hid (split s.data.toList [c] = strTs (P ++ [s.extract g s.size])) := Lib.hid (by
        rw [HC.out, drop_size, cutAt, strTs_snoc, take_size, extract_to_end])
      go_wp2_with (at_builtin; refine wpList_append_own _ rfl _ _ 35 rfl w.heap.size 9 i0 (.string ⟨#[]⟩) 1 16 Tryz.underlying35 hi hz0 hz1 hz2 rfl (by decide) _ _ _ rfl (hown.alloc _) ⟨wr.heap.size, 0, none⟩ 1 1 [.string (s.extract g s.size)] rfl rfl (cell_one_new _ _ _) (fun x hx => by simp at hx; subst hx; rfl) (by unfold maxLen; omega) (by omega) (by have := hb.size; simp; omega) ?_; intro v' w1 hown1 hgrow1 _)
      go_ret
      rw [HN.out]
      refine ⟨⟨v', rfl, strsAt_own (base := w.heap.size) (e := 9) ?_, newRow_own hown1⟩, (hb.alloc hb.size _).grown hgrow1 (by have := hb.size; simp; omega) (fun q hq => (hown.lt q hq).1)⟩
      rw [← strVs_snoc, List.length_append]; exact hown1
theorem bytes_ext {a b : ByteArray} : a.data.toList = b.data.toList ↔ a = b := ⟨fun h => by
  apply ByteArray.ext; apply Array.ext'; exact h, fun h => by rw [h]⟩
end Go.Proofs.Pw

namespace Go.Proofs.Pw
open Go.RowKit
open Go.Lib hiding intOf
open Go.Sort (grow grow_grow grow_empty)
def GrownW (w w' : World) : Prop := ∃ q os, w' = grow (w.drewN q) os
theorem GrownW.below {w w' : World} (h : GrownW w w') : Below w.heap.size w w' := by
  obtain ⟨q, os, rfl⟩ := h
  exact below_grow _ _ (Nat.le_refl _) _ _
theorem GrownW.trans {a b c : World} (h : GrownW a b) (k : GrownW b c) : GrownW a c := by
  obtain ⟨q, os, rfl⟩ := h
  obtain ⟨q', os', rfl⟩ := k
  refine ⟨q + q', os ++ os', ?_⟩
  show grow (grow ((a.drewN q).drewN q') os) os' = _
  rw [grow_grow, World.drewN_drewN]
theorem GrownW.refl (w : World) : GrownW w w := ⟨0, #[], (grow_empty _).symm⟩
end Go.Proofs.Pw

namespace Go.Proofs.Pw
open Go.RowKit
open Go.Lib hiding intOf
theorem worseN_one_left (b : Nat) : worseN 1 b = 1 := by unfold worseN; rw [if_pos (.inl rfl)]
theorem worseN_one_right (a : Nat) : worseN a 1 = 1 := by unfold worseN; split <;> omega
theorem numErrs_one : ∀ (l : List Str) (b : Nat), (b = 1 ∨ ∃ w ∈ l, (numberOf w).2 = 1) → numErrs l b = 1
  | [], b, h => by
    rcases h with h | ⟨w, hw, _⟩
    · exact h
    · cases hw
  | w :: r, b, h => by
    show numErrs r (worseN b (numberOf w).2) = 1
    apply numErrs_one r
    rcases h with rfl | ⟨x, hx, h1⟩
    · exact .inl (worseN_one_left _)
    · rcases List.mem_cons.1 hx with rfl | hx
      · rw [h1]; exact .inl (worseN_one_right _)
      · exact .inr ⟨x, hx, h1⟩
theorem partErrs_one : ∀ (l : List Str) (b : Nat), (b = 1 ∨ ∃ w ∈ l, partErr w = 1) → partErrs l b = 1
  | [], b, h => by
    rcases h with h | ⟨w, hw, _⟩
    · exact h
    · cases hw
  | w :: r, b, h => by
    show partErrs r (worseN b (partErr w)) = 1
    apply partErrs_one r
    rcases h with rfl | ⟨x, hx, h1⟩
    · exact .inl (worseN_one_left _)
    · rcases List.mem_cons.1 hx with rfl | hx
      · rw [h1]; exact .inl (worseN_one_right _)
      · exact .inr ⟨x, hx, h1⟩
theorem verErr_is {s : Str} (h1 : hasPrefix s [118] = true) (h2 : (verWords s).length = 3) : verErr s = verErrs s := by
  unfold verErr; rw [if_neg]; rw [h1, h2]; simp
theorem verErrs_one {s : Str} (h : partErrs (verPres s) (numErrs (verWords s) 0) = 1) : verErrs s = 1 := by
  unfold verErrs
  simp only
  rw [h]
  split
  · exact worseN_one_left _
  · rfl
theorem verErrs_num {s w : Str} (h : w ∈ verWords s) (h1 : (numberOf w).2 = 1) : verErrs s = 1 :=
  verErrs_one (partErrs_one _ _ (.inl (numErrs_one _ _ (.inr ⟨w, h, h1⟩))))
theorem verErrs_part {s w : Str} (h : w ∈ verPres s) (h1 : partErr w = 1) : verErrs s = 1 :=
  verErrs_one (partErrs_one _ _ (.inr ⟨w, h, h1⟩))
def bndN (b : Bool) : Nat := if b then 2 else 0
theorem bndN_step (b : Bool) {e : Nat} (h1 : e ≠ 1) (h2 : e ≤ 2) : worseN (bndN b) e = bndN (b || decide (0 < e)) := by
  obtain rfl | rfl : e = 0 ∨ e = 2 := by omega
  all_goals cases b <;> rfl
theorem verErrs_bnd {s : Str} {b : Bool} (h : partErrs (verPres s) (numErrs (verWords s) 0) = bndN b) : verErrs s = if b = true ∨ 5 < (verPres s).length then 2 else 0 := by
  unfold verErrs
  simp only
  rw [h]
  by_cases h5 : 5 < (verPres s).length
  · rw [if_pos h5, if_pos (.inr h5)]
    cases b <;> rfl
  · rw [if_neg h5]
    cases b
    · rw [if_neg (by simp [h5])]; rfl
    · rw [if_pos (.inl rfl)]; rfl
structure NBox (w : World) (b : Nat) (L : Nat → ByteArray) (k : Nat) (v3 : Value) : Prop where
  c : ∀ j, j < 3 → w.cell? ⟨b, j, none⟩ = some (.int .i64 (numAt L k j))
  c3 : w.cell? ⟨b, 3, none⟩ = some v3
  fr : ∀ j, w.frozen? ⟨b, j, none⟩ = false
theorem NBox.below {w w' : World} {b : Nat} {L : Nat → ByteArray} {k : Nat} {v3 : Value} (h : NBox w b L k v3) (hb : Below w.heap.size w w') : NBox w' b L k v3 :=
  ⟨fun j hj => Below.cell_some hb (h.c j hj), Below.cell_some hb h.c3, fun j => (hb.frozen (p := ⟨b, j, none⟩) (show b < w.heap.size from lt_of_cell h.c3)).trans (h.fr j)⟩
theorem nbox_alloc (w : World) (t : TypeId) (L : Nat → ByteArray) : NBox (w.alloc (.cells #[.int .i64 0, .int .i64 0, .int .i64 0, .slice none 0 0] t)) w.heap.size L 0 (.slice none 0 0) :=
  ⟨fun j hj => by rw [numAt_zero]; obtain rfl | rfl | rfl : j = 0 ∨ j = 1 ∨ j = 2 := by omega
                  all_goals simp, by simp, fun j => by simp⟩
theorem NBox.step {w : World} {b : Nat} {L : Nat → ByteArray} {k : Nat} {v3 : Value} (h : NBox w b L k v3) (hk : k < 3) : NBox (w.setCell ⟨b, k, none⟩ (.int .i64 ((numberOf (L k).data.toList).1 : Nat))) b L (k + 1) v3 := by
  refine ⟨fun j hj => ?_, ?_, fun j => by simp [h.fr]⟩
  · by_cases e : j = k
    · subst e
      rw [numAt_new]
      exact World.cell?_setCell_same _ _ _ (h.c j hj)
    · rw [numAt_old _ _ _ e, World.cell?_setCell_other _ _ _ _ (fun h2 => e (by injection h2 with _ h3 _; exact h3.symm))]
      exact h.c j hj
  · rw [World.cell?_setCell_other _ _ _ _ (fun h2 => by injection h2 with _ h3 _; omega)]
    exact h.c3
theorem NBox.set3 {w : World} {b : Nat} {L : Nat → ByteArray} {k : Nat} {v3 : Value} (h : NBox w b L k v3) (v : Value) : NBox (w.setCell ⟨b, 3, none⟩ v) b L k v := by
  refine ⟨fun j hj => ?_, World.cell?_setCell_same _ _ _ h.c3, fun j => by simp [h.fr]⟩
  rw [World.cell?_setCell_other _ _ _ _ (by intro e; injection e with _ e2 _; omega)]
  exact h.c j hj
theorem hasPrefix_byte (s : ByteArray) (h : 0 < s.size) : hasPrefix s.data.toList [118] = decide (s[0] = 118) := by
  have e : s.data.toList = s[0] :: s.data.toList.drop 1 := by
    have := drop_cons s 0 h
    simpa using this
  rw [e]
  unfold hasPrefix
  rw [Bool.eq_iff_iff]
  simp only [List.isPrefixOf, Bool.and_true, decide_eq_true_eq, beq_iff_eq]
  exact eq_comm
theorem trimPrefix_byte (s : ByteArray) (h : hasPrefix s.data.toList [118] = true) : trimPrefix s.data.toList [118] = s.data.toList.drop 1 := by
  unfold trimPrefix; rw [if_pos h]; rfl
set_option maxRecDepth 100000 in
set_option maxHeartbeats 400000 in
theorem refVerOf_none (s : ByteArray) (w : World) (hs : s.size ≤ 1000000000) (hp : hasPrefix s.data.toList [118] = false) :
    Calls Tryz.prog 98 #[.string s] w fun e w' => e = .returned (.tuple #[.agg #[.int .i64 0, .int .i64 0, .int .i64 0, .slice none 0 0], .int .i64 1]) ∧ Below w.heap.size w w' := by
  have hbA := below_alloc w (.cells #[.int .i64 0, .int .i64 0, .int .i64 0, .slice none 0 0] 149)
  obtain ⟨z0, z1, z2, z3, zf⟩ := box4_alloc w (.int .i64 0) (.int .i64 0) (.int .i64 0) (.slice none 0 0) 149
  have zf0 := zf 0
  have zf1 := zf 1
  have zf2 := zf 2
  have zf3 := zf 3
  clear zf
  by_cases h0 : s.size = 0
  · have h0' : ((s.size : Nat) : Int) = 0 := by omega
    clear hp
    go_enter Tryz.func98, Tryz.ntmps98
    go_wp2_with fail
    refine bodyPost_ret (v := .tuple #[.agg #[.int .i64 0, .int .i64 0, .int .i64 0, .slice none 0 0], .int .i64 1]) (by simp [results, Tryz.results98, go_sem, *]) rfl ⟨rfl, ?_⟩
    exact below_alloc _ _
  · have hlt : 0 < s.size := by omega
    rw [hasPrefix_byte s hlt] at hp
    have hp1 : ((s[0].toNat : Int) == 118) = false := beq_eq_false_iff_ne.2 (fun e => by
      have : s[0] = 118 := UInt8.toNat_inj.1 (by have : s[0].toNat = 118 := by exact_mod_cast e
                                                 rw [this]; rfl)
      simp [this] at hp)
    have h00 : ((s.size : Int) == 0) = false := beq_eq_false_iff_ne.2 (by omega)
    clear hp h0
    go_enter Tryz.func98, Tryz.ntmps98
    go_wp2_with fail
    refine bodyPost_ret (v := .tuple #[.agg #[.int .i64 0, .int .i64 0, .int .i64 0, .slice none 0 0], .int .i64 1]) (by simp [results, Tryz.results98, go_sem, *]) rfl ⟨rfl, ?_⟩
    exact below_alloc _ _
end Go.Proofs.Pw
