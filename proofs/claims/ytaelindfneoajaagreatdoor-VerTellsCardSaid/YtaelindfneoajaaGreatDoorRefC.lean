/- The references' small functions: Byte, below, Decimal. -/
import Derived.Test.YtaelindfneoajaaGreatDoorRefB
import Derived.Laws.IdiomStrings
import Derived.Shelf.SlSortCmp.QuietGrown
import Derived.Lib.AppendIntMem
namespace Go.Proofs.Pw
open Go.RowKit
open Go.Lib hiding intOf
open Go.Sort (grow grow_grow grow_empty)

/-- some draws on, some blocks laid -/
def GrownW (w w' : World) : Prop := ∃ q os, w' = grow (w.drewN q) os
theorem GrownW.below {w w' : World} (h : GrownW w w') : Below w.heap.size w w' := by
  obtain ⟨q, os, rfl⟩ := h
  exact below_grow _ _ (Nat.le_refl _) _ _
theorem GrownW.trans {a b c : World} (h : GrownW a b) (k : GrownW b c) : GrownW a c := by
  obtain ⟨q, os, rfl⟩ := h
  obtain ⟨q', os', rfl⟩ := k
  refine ⟨q + q', os ++ os', ?_⟩
  show grow (grow ((a.drewN q).drewN q') os) os' = _
  rw [grow_grow, World.drewN_drewN]
theorem grownW_alloc (w : World) (o : Obj) : GrownW w (w.alloc o) := ⟨0, #[o], Go.Sort.alloc_eq_grow w o⟩
theorem GrownW.refl (w : World) : GrownW w w := ⟨0, #[], (grow_empty _).symm⟩

/-- R.Byte -/
theorem refByte_calls (x : Int) (c : UInt8) (w : World) (h1 : 48 ≤ x) (h2 : x ≤ 57) (hc : Hid ((c.toNat : Int) = x)) :
    Calls Tryz.prog 201 #[.int .i64 x] w fun e w' => e = .returned (.string ⟨#[c]⟩) ∧ GrownW w w' := by
  have kc := run_convert_bytes_back (P := Tryz.prog) (w.alloc (.cells #[.int .u8 x] 5)) 141 9 5 ⟨w.heap.size, 0, none⟩ 1 [c] Tryz.underlying141 Tryz.underlying5 Tryz.underlying9 (fun j hj => by
    simp at hj; subst hj
    rw [show (⟨w.heap.size, 0, none⟩ : Addr).add 0 = ⟨w.heap.size, 0, none⟩ from rfl]
    simp [hc.out])
  rw [show [c].length = 1 from rfl] at kc
  have hx : x.toNat ≤ 255 := by omega
  go_enter Tryz.func201, Tryz.ntmps201
  go_wp2_with fail
  go_ret
  exact ⟨rfl, grownW_alloc _ _⟩

theorem decDigits_small {m : Nat} (h : m < 10) : decDigits m = [UInt8.ofNat (48 + m)] := by rw [decDigits, dif_pos h]
theorem decDigits_large {m : Nat} (h : ¬ m < 10) : decDigits m = decDigits (m / 10) ++ [UInt8.ofNat (48 + m % 10)] := by rw [decDigits, dif_neg h]
theorem byte_of_digit {d : Nat} (h : d < 10) {x : Int} (hx : x = 48 + d) : ((UInt8.ofNat (48 + d)).toNat : Int) = x := by
  rw [(isDig_ofNat h).2, hx]; omega

theorem decDigits_len_le (u : Nat) : (decDigits u).length ≤ u + 1 := by
  induction u using Nat.strongRecOn with
  | _ u ih =>
    rw [decDigits]
    split
    · simp
    · rename_i h
      have := ih (u / 10) (by omega)
      simp only [List.length_append, List.length_singleton]
      omega

set_option maxHeartbeats 400000 in
/-- R.below -/
theorem refBelow_calls (m : Nat) : ∀ (x : Int) (w : World), Hid (x = -(m : Int)) → m ≤ 1000000000000000 →
    Calls Tryz.prog 153 #[.int .i64 x] w fun e w' => e = .returned (.string ⟨(decDigits m).toArray⟩) ∧ GrownW w w' := by
  induction m using Nat.strongRecOn with
  | _ m ih =>
  intro x w HX hm
  have hx1 : x ≤ 0 := by rw [HX.out]; omega
  have hx2 : -1000000000000000 ≤ x := by rw [HX.out]; omega
  by_cases h : m < 10
  · have hx3 : -10 < x := by rw [HX.out]; omega
    have hB := byte_of_digit h (x := 48 - x) (by rw [HX.out]; omega)
    have hD := decDigits_small h
    generalize UInt8.ofNat (48 + m) = c at hB hD
    have HB := Lib.hid hB
    have HD := Lib.hid hD
    clear ih hm hB hD
    go_enter Tryz.func153, Tryz.ntmps153
    go_wp2_with fail
    refine (refByte_calls (48 - x) c w (by omega) (by omega) HB).mono ?_
    rintro e w1 ⟨rfl, hb1⟩
    go_wp2_with fail
    go_ret
    rw [HD.out]
    exact ⟨rfl, hb1⟩
  · have hx3 : ¬ -10 < x := by rw [HX.out]; omega
    have hq : x.tdiv 10 = -((m / 10 : Nat) : Int) := by
      rw [HX.out, Int.neg_tdiv, Int.tdiv_eq_ediv_of_nonneg (by omega)]; omega
    have hr : x.tmod 10 = -((m % 10 : Nat) : Int) := by
      rw [HX.out, Int.neg_tmod, Int.tmod_eq_emod_of_nonneg (by omega)]; omega
    have hi := ih (m / 10) (by omega) (x.tdiv 10) w (Lib.hid hq) (by omega)
    have hr1 : -10 < x.tmod 10 := by rw [hr]; omega
    have hr2 : x.tmod 10 ≤ 0 := by rw [hr]; omega
    have hB := byte_of_digit (d := m % 10) (by omega) (x := 48 - x.tmod 10) (by rw [hr]; omega)
    have hD := decDigits_large h
    generalize UInt8.ofNat (48 + m % 10) = c at hB hD
    have hlen := Nat.le_trans (decDigits_len_le (m / 10)) (show m / 10 + 1 ≤ 1000000000000001 by omega)
    generalize decDigits (m / 10) = D at hi hD hlen
    have HB := Lib.hid hB
    have HD := Lib.hid hD
    have HI := Lib.hid hi
    clear hi hq hr ih hm hB hD
    go_enter Tryz.func153, Tryz.ntmps153
    go_wp2_with fail
    refine HI.out.mono ?_
    rintro e w1 ⟨rfl, hb1⟩
    go_wp2_with fail
    refine (refByte_calls (48 - x.tmod 10) c w1 (by omega) (by omega) HB).mono ?_
    rintro e w2 ⟨rfl, hb2⟩
    go_wp2_with fail
    go_ret
    rw [HD.out]
    refine ⟨?_, hb1.trans hb2⟩
    congr 2

/-- R.Decimal of a number from 0 on -/
theorem refDecimal_calls (m : Nat) (w : World) (hm : m ≤ 1000000000000000) :
    Calls Tryz.prog 79 #[.int .i64 m] w fun e w' => e = .returned (.string ⟨(itoa m).toArray⟩) ∧ GrownW w w' := by
  have HI := Lib.hid (itoa_ofNat m)
  have HB := Lib.hid (refBelow_calls m (-(m : Int)) w (Lib.hid rfl) hm)
  go_enter Tryz.func79, Tryz.ntmps79
  go_wp2_with fail
  refine HB.out.mono ?_
  rintro e w1 ⟨rfl, hb1⟩
  go_wp2_with fail
  go_ret
  rw [HI.out]
  exact ⟨rfl, hb1⟩
end Go.Proofs.Pw
