/- coded of the statements' first package: an error's number. -/
import Derived.Test.YtaelindfneoajaaGreatDoorCode
namespace Go.Proofs.Pw
open Go.RowKit

theorem code_calls (i : Nat) (A : Nat → Addr) (w : World) (hE : EnvC A w) (hi : i ≤ 10) :
    Calls Tryz.prog 84 #[errV A i] w fun e w' => e = .returned (.tuple #[.int .i64 (i : Nat), .int .i64 (-1)]) ∧ Below w.heap.size w w' := by
  rcases Nat.eq_zero_or_pos i with rfl | h1
  · refine (code_nil w).mono ?_
    rintro e w' ⟨rfl, rfl⟩
    exact ⟨rfl, Below.refl _ _⟩
  · rw [errV_pos A (by omega)]
    obtain ⟨c, tc, hc⟩ := hE.errs.row i (mem_allErrs h1 hi)
    refine (code_any _ _ _ _ _ hE hc).mono ?_
    rintro e w1 ⟨⟨m, rfl, hm⟩, hb1⟩
    obtain rfl : m = i := by
      rcases hm with ⟨j, hj1, hj2, ha, rfl⟩ | ⟨h, _⟩
      · have := hE.errs.inj _ (mem_allErrs h1 hi) _ (mem_allErrs hj1 hj2) ha
        rw [this]
      · exact absurd rfl (h i h1 hi)
    exact ⟨rfl, hb1⟩

theorem coded_calls (i j : Nat) (A : Nat → Addr) (w : World) (hE : EnvC A w) (hi : i ≤ 10) :
    Calls Tryz.prog 27 #[errV A i, .int .i64 (j : Nat)] w fun e w' => e = .returned (.bool (decide (i = j))) ∧ Below w.heap.size w w' := by
  have hc := code_calls i A w hE hi
  generalize errV A i = v at hc ⊢
  by_cases hij : i = j
  · subst hij
    go_enter Tryz.func27, Tryz.ntmps27
    go_wp2_with fail
    refine hc.mono ?_
    rintro e w1 ⟨rfl, hb1⟩
    go_wp2_with fail
    go_ret
    exact ⟨by simp, hb1⟩
  · have hq : ((i : Int) == (j : Int)) = false := beq_eq_false_iff_ne.2 (by omega)
    have HD := Lib.hid (decide_eq_false hij)
    clear hij
    go_enter Tryz.func27, Tryz.ntmps27
    go_wp2_with fail
    refine hc.mono ?_
    rintro e w1 ⟨rfl, hb1⟩
    go_wp2_with fail
    go_ret
    rw [HD.out]
    exact ⟨rfl, hb1⟩
end Go.Proofs.Pw
