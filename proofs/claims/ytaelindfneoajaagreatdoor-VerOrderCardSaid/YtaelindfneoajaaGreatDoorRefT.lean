/- R.VerText; versed. -/
import Derived.Test.YtaelindfneoajaaGreatDoorVerText
import Derived.Test.YtaelindfneoajaaGreatDoorRefV2
namespace Go.Proofs.Pw
open Go.RowKit
open Go.Lib hiding intOf
open Go.Sort (grow)

def vtxt : ByteArray := ⟨#[118, 49, 46, 50, 48, 46, 51, 45, 114, 99, 46, 49]⟩
theorem vtxt_split (ks : List Nat) (A : Nat → Addr) (w : World) (hE : EnvP ks A w) :
    Calls Tryz.prog 26 #[.string ⟨#[118, 49, 46, 50, 48, 46, 51, 45, 114, 99, 46, 49]⟩] w fun e w' => Below w.heap.size w w' ∧ ∃ v, e = .returned (.tuple #[.agg #[.int .i64 1, .int .i64 20, .int .i64 3, v], .nilIface]) ∧ StrsAt w' v [[114, 99], [49]] := by
  have h := verSplit_calls ks A vtxt w hE (by decide)
  rw [show verNum vtxt.data.toList 0 = 1 from by decide +kernel, show verNum vtxt.data.toList 1 = 20 from by decide +kernel, show verNum vtxt.data.toList 2 = 3 from by decide +kernel, show verErr vtxt.data.toList = 0 from by decide +kernel, show verPre vtxt.data.toList = [[114, 99], [49]] from by decide +kernel, errV_zero] at h
  exact h
theorem vtxt_text (ks : List Nat) (A : Nat → Addr) (v : Value) (w : World) (hE : EnvP ks A w) (hS : StrsAt w v [[114, 99], [49]]) :
    Calls Tryz.prog 13 #[.agg #[.int .i64 1, .int .i64 20, .int .i64 3, v]] w fun e w' => e = .returned (.string ⟨#[118, 49, 46, 50, 48, 46, 51, 45, 114, 99, 46, 49]⟩) ∧ Below w.heap.size w w' := by
  have h := verText_calls ks A 1 20 3 v [[114, 99], [49]] w hE (by decide) (by decide) (by decide) hS (by decide) (by intro x hx; simp at hx; rcases hx with rfl | rfl <;> decide)
  rw [show verText 1 20 3 [[114, 99], [49]] = [118, 49, 46, 50, 48, 46, 51, 45, 114, 99, 46, 49] from by decide +kernel] at h
  exact h
theorem vtxt_less (ks : List Nat) (A : Nat → Addr) (w : World) (hE : EnvP ks A w) :
    Calls Tryz.prog 31 #[.string ⟨#[118, 49, 46, 50, 48, 46, 51, 45, 114, 99, 46, 49]⟩, .string ⟨#[118, 49, 46, 50, 48, 46, 51]⟩] w fun e w' => e = .returned (.bool true) ∧ Below w.heap.size w w' := by
  have h := verLess_calls ks A vtxt ⟨#[118, 49, 46, 50, 48, 46, 51]⟩ w hE (by decide) (by decide)
  rw [show verLess vtxt.data.toList (⟨#[118, 49, 46, 50, 48, 46, 51]⟩ : ByteArray).data.toList = true from by decide +kernel] at h
  exact h

set_option maxHeartbeats 400000 in
/-- versed: true -/
theorem versed_calls (ks : List Nat) (A : Nat → Addr) (w : World) (hE : EnvP ks A w) :
    Calls Tryz.prog 12 #[] w fun e w' => e = .returned (.bool true) ∧ Below w.heap.size w w' := by
  go_enter Tryz.func12, Tryz.ntmps12
  go_wp2_with fail
  refine (vtxt_split ks A w hE).mono ?_
  rintro e w1 ⟨hb1, v, rfl, hS⟩
  have hlen : (2 : Nat) = 2 := rfl
  obtain ⟨a, n, cap, L, rfl, hL, hn, hcap, hc⟩ := id hS
  obtain rfl : n = 2 := by have := congrArg List.length hL; rw [lstF_length] at this; exact this.symm
  have hbA := below_alloc w1 (.cells #[.int .i64 1, .int .i64 20, .int .i64 3, .slice a 2 cap] 26)
  have hE1 := (hE.below hb1).below hbA
  have hS1 := hS.below hbA
  have hb1A := below_step hb1 hbA
  clear hL hc hlen hS
  go_wp2_with fail
  refine (vtxt_text ks A _ _ hE1 hS1).mono ?_
  rintro e w2 ⟨rfl, hb2⟩
  have hE2 := hE1.below hb2
  go_wp2_with fail
  refine (vtxt_less ks A w2 hE2).mono ?_
  rintro e w3 ⟨rfl, hb3⟩
  have hb := below_step (below_step hb1A hb2) hb3
  go_wp2_with fail
  go_ret
  exact ⟨rfl, hb⟩
end Go.Proofs.Pw
