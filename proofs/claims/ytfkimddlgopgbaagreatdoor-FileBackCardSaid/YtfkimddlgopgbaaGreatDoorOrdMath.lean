/- The model's order of strings is that of their bytes. -/
import Derived.Test.YtfkimddlgopgbaaGreatDoorVerOrd
import Derived.WalkKit
namespace Go.Proofs.Pw
open Go.RowKit
open Go.Lib

theorem bytesLess_iff : ∀ a b : Str, Op.bytesLess a b = decide (compareBytes a b < 0)
  | [], [] => by simp [Op.bytesLess, compareBytes]
  | [], _ :: _ => by simp [Op.bytesLess, compareBytes]
  | _ :: _, [] => by simp [Op.bytesLess, compareBytes]
  | a :: r, b :: t => by
    rw [Op.bytesLess, compareBytes, bytesLess_iff r t]
    by_cases h : a < b
    · simp [h]
    · by_cases h2 : b < a
      · have : ¬ a = b := fun e => by subst e; exact h h2
        simp [h, h2, this]
      · have : a = b := by
          rw [UInt8.lt_iff_toNat_lt] at h h2
          exact UInt8.toNat_inj.1 (by omega)
        subst this
        simp
end Go.Proofs.Pw
