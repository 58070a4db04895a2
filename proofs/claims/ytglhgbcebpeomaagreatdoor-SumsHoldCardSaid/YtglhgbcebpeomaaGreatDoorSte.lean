/- St: walks and plain laws, joined: RefC RefV. Conditions: at each theorem. -/
import Derived.Test.YtglhgbcebpeomaaGreatDoorStd
import Derived.Laws.IdiomStrings
import Derived.Shelf.SlSortCmp.QuietGrown
import Derived.Lib.AppendIntMem

namespace Go.Proofs.Pw
open Go.RowKit
open Go.Lib hiding intOf
open Go.Sort (grow grow_grow grow_empty)
def GrownW (w w' : World) : Prop := ∃ q os, w' = grow (w.drewN q) os
theorem GrownW.below {w w' : World} (h : GrownW w w') : Below w.heap.size w w' := by
  obtain ⟨q, os, rfl⟩ := h
  exact below_grow _ _ (Nat.le_refl _) _ _
theorem GrownW.trans {a b c : World} (h : GrownW a b) (k : GrownW b c) : GrownW a c := by
  obtain ⟨q, os, rfl⟩ := h
  obtain ⟨q', os', rfl⟩ := k
  refine ⟨q + q', os ++ os', ?_⟩
  show grow (grow ((a.drewN q).drewN q') os) os' = _
  rw [grow_grow, World.drewN_drewN]
theorem grownW_alloc (w : World) (o : Obj) : GrownW w (w.alloc o) := ⟨0, #[o], Go.Sort.alloc_eq_grow w o⟩
theorem GrownW.refl (w : World) : GrownW w w := ⟨0, #[], (grow_empty _).symm⟩
theorem refByte_calls (x : Int) (c : UInt8) (w : World) (h1 : 48 ≤ x) (h2 : x ≤ 57) (hc : Hid ((c.toNat : Int) = x)) :
    Calls Tryz.prog 206 #[.int .i64 x] w fun e w' => e = .returned (.string ⟨#[c]⟩) ∧ GrownW w w' := by
  have kc := run_convert_bytes_back (P := Tryz.prog) (w.alloc (.cells #[.int .u8 x] 5)) 98 9 5 ⟨w.heap.size, 0, none⟩ 1 [c] Tryz.underlying98 Tryz.underlying5 Tryz.underlying9 (fun j hj => by
    simp at hj; subst hj
    rw [show (⟨w.heap.size, 0, none⟩ : Addr).add 0 = ⟨w.heap.size, 0, none⟩ from rfl]
    simp [hc.out])
  rw [show [c].length = 1 from rfl] at kc
  have hx : x.toNat ≤ 255 := by omega
  go_enter Tryz.func206, Tryz.ntmps206
  go_wp2_with fail
  go_ret
  exact ⟨rfl, grownW_alloc _ _⟩
theorem decDigits_small {m : Nat} (h : m < 10) : decDigits m = [UInt8.ofNat (48 + m)] := by rw [decDigits, dif_pos h]
theorem decDigits_large {m : Nat} (h : ¬ m < 10) : decDigits m = decDigits (m / 10) ++ [UInt8.ofNat (48 + m % 10)] := by rw [decDigits, dif_neg h]
theorem byte_of_digit {d : Nat} (h : d < 10) {x : Int} (hx : x = 48 + d) : ((UInt8.ofNat (48 + d)).toNat : Int) = x := by
  rw [(isDig_ofNat h).2, hx]; omega
theorem decDigits_len_le (u : Nat) : (decDigits u).length ≤ u + 1 := by
  induction u using Nat.strongRecOn with
  | _ u ih =>
    rw [decDigits]
    split
    · simp
    · rename_i h
      have := ih (u / 10) (by omega)
      simp only [List.length_append, List.length_singleton]
      omega
set_option maxHeartbeats 400000 in
theorem refBelow_calls (m : Nat) : ∀ (x : Int) (w : World), Hid (x = -(m : Int)) → m ≤ 1000000000000000 →
    Calls Tryz.prog 133 #[.int .i64 x] w fun e w' => e = .returned (.string ⟨(decDigits m).toArray⟩) ∧ GrownW w w' := by
  induction m using Nat.strongRecOn with
  | _ m ih =>
  intro x w HX hm
  have hx1 : x ≤ 0 := by rw [HX.out]; omega
  have hx2 : -1000000000000000 ≤ x := by rw [HX.out]; omega
  by_cases h : m < 10
  · have hx3 : -10 < x := by rw [HX.out]; omega
    have hB := byte_of_digit h (x := 48 - x) (by rw [HX.out]; omega)
    have hD := decDigits_small h
    generalize UInt8.ofNat (48 + m) = c at hB hD
    have HB := Lib.hid hB
    have HD := Lib.hid hD
    clear ih hm hB hD
    go_enter Tryz.func133, Tryz.ntmps133
    go_wp2_with fail
    refine (refByte_calls (48 - x) c w (by omega) (by omega) HB).mono ?_
    rintro e w1 ⟨rfl, hb1⟩
    go_wp2_with fail
    go_ret
    rw [HD.out]
    exact ⟨rfl, hb1⟩
  · have hx3 : ¬ -10 < x := by rw [HX.out]; omega
    have hq : x.tdiv 10 = -((m / 10 : Nat) : Int) := by
      rw [HX.out, Int.neg_tdiv, Int.tdiv_eq_ediv_of_nonneg (by omega)]; omega
    have hr : x.tmod 10 = -((m % 10 : Nat) : Int) := by
      rw [HX.out, Int.neg_tmod, Int.tmod_eq_emod_of_nonneg (by omega)]; omega
    have hi := ih (m / 10) (by omega) (x.tdiv 10) w (Lib.hid hq) (by omega)
    have hr1 : -10 < x.tmod 10 := by rw [hr]; omega
    have hr2 : x.tmod 10 ≤ 0 := by rw [hr]; omega
    have hB := byte_of_digit (d := m % 10) (by omega) (x := 48 - x.tmod 10) (by rw [hr]; omega)
    have hD := decDigits_large h
    generalize UInt8.ofNat (48 + m % 10) = c at hB hD
    have hlen := Nat.le_trans (decDigits_len_le (m / 10)) (show m / 10 + 1 ≤ 1000000000000001 by omega)
    generalize decDigits (m / 10) = D at hi hD hlen
    have HB := Lib.hid hB
    have HD := Lib.hid hD
    have HI := Lib.hid hi
    clear hi hq hr ih hm hB hD
    go_enter Tryz.func133, Tryz.ntmps133
    go_wp2_with fail
    refine HI.out.mono ?_
    rintro e w1 ⟨rfl, hb1⟩
    go_wp2_with fail
    refine (refByte_calls (48 - x.tmod 10) c w1 (by omega) (by omega) HB).mono ?_
    rintro e w2 ⟨rfl, hb2⟩
    go_wp2_with fail
    go_ret
    rw [HD.out]
    refine ⟨?_, hb1.trans hb2⟩
    congr 2
theorem refDecimal_calls (m : Nat) (w : World) (hm : m ≤ 1000000000000000) :
    Calls Tryz.prog 67 #[.int .i64 m] w fun e w' => e = .returned (.string ⟨(itoa m).toArray⟩) ∧ GrownW w w' := by
  have HI := Lib.hid (itoa_ofNat m)
  have HB := Lib.hid (refBelow_calls m (-(m : Int)) w (Lib.hid rfl) hm)
  go_enter Tryz.func67, Tryz.ntmps67
  go_wp2_with fail
  refine HB.out.mono ?_
  rintro e w1 ⟨rfl, hb1⟩
  go_wp2_with fail
  go_ret
  rw [HI.out]
  exact ⟨rfl, hb1⟩
end Go.Proofs.Pw

namespace Go.Proofs.Pw
open Go.RowKit
open Go.Lib hiding intOf
theorem worseN_one_left (b : Nat) : worseN 1 b = 1 := by unfold worseN; rw [if_pos (.inl rfl)]
theorem worseN_one_right (a : Nat) : worseN a 1 = 1 := by unfold worseN; split <;> omega
theorem numErrs_one : ∀ (l : List Str) (b : Nat), (b = 1 ∨ ∃ w ∈ l, (numberOf w).2 = 1) → numErrs l b = 1
  | [], b, h => by
    rcases h with h | ⟨w, hw, _⟩
    · exact h
    · cases hw
  | w :: r, b, h => by
    show numErrs r (worseN b (numberOf w).2) = 1
    apply numErrs_one r
    rcases h with rfl | ⟨x, hx, h1⟩
    · exact .inl (worseN_one_left _)
    · rcases List.mem_cons.1 hx with rfl | hx
      · rw [h1]; exact .inl (worseN_one_right _)
      · exact .inr ⟨x, hx, h1⟩
theorem partErrs_one : ∀ (l : List Str) (b : Nat), (b = 1 ∨ ∃ w ∈ l, partErr w = 1) → partErrs l b = 1
  | [], b, h => by
    rcases h with h | ⟨w, hw, _⟩
    · exact h
    · cases hw
  | w :: r, b, h => by
    show partErrs r (worseN b (partErr w)) = 1
    apply partErrs_one r
    rcases h with rfl | ⟨x, hx, h1⟩
    · exact .inl (worseN_one_left _)
    · rcases List.mem_cons.1 hx with rfl | hx
      · rw [h1]; exact .inl (worseN_one_right _)
      · exact .inr ⟨x, hx, h1⟩
theorem verErr_is {s : Str} (h1 : hasPrefix s [118] = true) (h2 : (verWords s).length = 3) : verErr s = verErrs s := by
  unfold verErr; rw [if_neg]; rw [h1, h2]; simp
theorem verErrs_one {s : Str} (h : partErrs (verPres s) (numErrs (verWords s) 0) = 1) : verErrs s = 1 := by
  unfold verErrs
  simp only
  rw [h]
  split
  · exact worseN_one_left _
  · rfl
theorem verErrs_num {s w : Str} (h : w ∈ verWords s) (h1 : (numberOf w).2 = 1) : verErrs s = 1 :=
  verErrs_one (partErrs_one _ _ (.inl (numErrs_one _ _ (.inr ⟨w, h, h1⟩))))
theorem verErrs_part {s w : Str} (h : w ∈ verPres s) (h1 : partErr w = 1) : verErrs s = 1 :=
  verErrs_one (partErrs_one _ _ (.inr ⟨w, h, h1⟩))
def bndN (b : Bool) : Nat := if b then 2 else 0
theorem bndN_step (b : Bool) {e : Nat} (h1 : e ≠ 1) (h2 : e ≤ 2) : worseN (bndN b) e = bndN (b || decide (0 < e)) := by
  obtain rfl | rfl : e = 0 ∨ e = 2 := by omega
  all_goals cases b <;> rfl
theorem verErrs_bnd {s : Str} {b : Bool} (h : partErrs (verPres s) (numErrs (verWords s) 0) = bndN b) : verErrs s = if b = true ∨ 5 < (verPres s).length then 2 else 0 := by
  unfold verErrs
  simp only
  rw [h]
  by_cases h5 : 5 < (verPres s).length
  · rw [if_pos h5, if_pos (.inr h5)]
    cases b <;> rfl
  · rw [if_neg h5]
    cases b
    · rw [if_neg (by simp [h5])]; rfl
    · rw [if_pos (.inl rfl)]; rfl
structure NBox (w : World) (b : Nat) (L : Nat → ByteArray) (k : Nat) (v3 : Value) : Prop where
  c : ∀ j, j < 3 → w.cell? ⟨b, j, none⟩ = some (.int .i64 (numAt L k j))
  c3 : w.cell? ⟨b, 3, none⟩ = some v3
  fr : ∀ j, w.frozen? ⟨b, j, none⟩ = false
theorem NBox.below {w w' : World} {b : Nat} {L : Nat → ByteArray} {k : Nat} {v3 : Value} (h : NBox w b L k v3) (hb : Below w.heap.size w w') : NBox w' b L k v3 :=
  ⟨fun j hj => Below.cell_some hb (h.c j hj), Below.cell_some hb h.c3, fun j => (hb.frozen (p := ⟨b, j, none⟩) (show b < w.heap.size from lt_of_cell h.c3)).trans (h.fr j)⟩
theorem nbox_alloc (w : World) (t : TypeId) (L : Nat → ByteArray) : NBox (w.alloc (.cells #[.int .i64 0, .int .i64 0, .int .i64 0, .slice none 0 0] t)) w.heap.size L 0 (.slice none 0 0) :=
  ⟨fun j hj => by rw [numAt_zero]; obtain rfl | rfl | rfl : j = 0 ∨ j = 1 ∨ j = 2 := by omega
                  all_goals simp, by simp, fun j => by simp⟩
theorem NBox.step {w : World} {b : Nat} {L : Nat → ByteArray} {k : Nat} {v3 : Value} (h : NBox w b L k v3) (hk : k < 3) : NBox (w.setCell ⟨b, k, none⟩ (.int .i64 ((numberOf (L k).data.toList).1 : Nat))) b L (k + 1) v3 := by
  refine ⟨fun j hj => ?_, ?_, fun j => by simp [h.fr]⟩
  · by_cases e : j = k
    · subst e
      rw [numAt_new]
      exact World.cell?_setCell_same _ _ _ (h.c j hj)
    · rw [numAt_old _ _ _ e, World.cell?_setCell_other _ _ _ _ (fun h2 => e (by injection h2 with _ h3 _; exact h3.symm))]
      exact h.c j hj
  · rw [World.cell?_setCell_other _ _ _ _ (fun h2 => by injection h2 with _ h3 _; omega)]
    exact h.c3
theorem NBox.set3 {w : World} {b : Nat} {L : Nat → ByteArray} {k : Nat} {v3 : Value} (h : NBox w b L k v3) (v : Value) : NBox (w.setCell ⟨b, 3, none⟩ v) b L k v := by
  refine ⟨fun j hj => ?_, World.cell?_setCell_same _ _ _ h.c3, fun j => by simp [h.fr]⟩
  rw [World.cell?_setCell_other _ _ _ _ (by intro e; injection e with _ e2 _; omega)]
  exact h.c j hj
theorem hasPrefix_byte (s : ByteArray) (h : 0 < s.size) : hasPrefix s.data.toList [118] = decide (s[0] = 118) := by
  have e : s.data.toList = s[0] :: s.data.toList.drop 1 := by
    have := drop_cons s 0 h
    simpa using this
  rw [e]
  unfold hasPrefix
  rw [Bool.eq_iff_iff]
  simp only [List.isPrefixOf, Bool.and_true, decide_eq_true_eq, beq_iff_eq]
  exact eq_comm
theorem trimPrefix_byte (s : ByteArray) (h : hasPrefix s.data.toList [118] = true) : trimPrefix s.data.toList [118] = s.data.toList.drop 1 := by
  unfold trimPrefix; rw [if_pos h]; rfl
set_option maxRecDepth 100000 in
set_option maxHeartbeats 400000 in
theorem refVerOf_none (s : ByteArray) (w : World) (hs : s.size ≤ 1000000000) (hp : hasPrefix s.data.toList [118] = false) :
    Calls Tryz.prog 130 #[.string s] w fun e w' => e = .returned (.tuple #[.agg #[.int .i64 0, .int .i64 0, .int .i64 0, .slice none 0 0], .int .i64 1]) ∧ Below w.heap.size w w' := by
  have hbA := below_alloc w (.cells #[.int .i64 0, .int .i64 0, .int .i64 0, .slice none 0 0] 186)
  obtain ⟨z0, z1, z2, z3, zf⟩ := box4_alloc w (.int .i64 0) (.int .i64 0) (.int .i64 0) (.slice none 0 0) 186
  have zf0 := zf 0
  have zf1 := zf 1
  have zf2 := zf 2
  have zf3 := zf 3
  clear zf
  by_cases h0 : s.size = 0
  · have h0' : ((s.size : Nat) : Int) = 0 := by omega
    clear hp
    go_enter Tryz.func130, Tryz.ntmps130
    go_wp2_with fail
    refine bodyPost_ret (v := .tuple #[.agg #[.int .i64 0, .int .i64 0, .int .i64 0, .slice none 0 0], .int .i64 1]) (by simp [results, Tryz.results130, go_sem, *]) rfl ⟨rfl, ?_⟩
    exact below_alloc _ _
  · have hlt : 0 < s.size := by omega
    rw [hasPrefix_byte s hlt] at hp
    have hp1 : ((s[0].toNat : Int) == 118) = false := beq_eq_false_iff_ne.2 (fun e => by
      have : s[0] = 118 := UInt8.toNat_inj.1 (by have : s[0].toNat = 118 := by exact_mod_cast e
                                                 rw [this]; rfl)
      simp [this] at hp)
    have h00 : ((s.size : Int) == 0) = false := beq_eq_false_iff_ne.2 (by omega)
    clear hp h0
    go_enter Tryz.func130, Tryz.ntmps130
    go_wp2_with fail
    refine bodyPost_ret (v := .tuple #[.agg #[.int .i64 0, .int .i64 0, .int .i64 0, .slice none 0 0], .int .i64 1]) (by simp [results, Tryz.results130, go_sem, *]) rfl ⟨rfl, ?_⟩
    exact below_alloc _ _
end Go.Proofs.Pw
