/- strings.ReplaceAll of any text by 'x'. -/
import Derived.Test.YtaelindfneoajaaGreatDoorShelf
import Derived.Test.YtaelindfneoajaaGreatDoorPat
import Derived.Test.YtaelindfneoajaaGreatDoorKleene
namespace Go.Proofs.Pw
open Go.RowKit
open Go.Lib

/-- strings.ReplaceAll(p, "...", "x") -/
theorem replAll_calls (p : ByteArray) (w : World) (hE : EnvM w) (hp : p.size ≤ 1000000) :
    Calls Tryz.prog 86 #[.string p, .string ⟨#[46, 46, 46]⟩, .string ⟨#[120]⟩] w fun e w' => e = .returned (.string ⟨(xs (toks p.data.toList)).toArray⟩) ∧ Below w.heap.size w w' := by
  obtain ⟨m, hm⟩ := hE.maxLen
  have hmul := countB_mul_le (⟨#[46, 46, 46]⟩ : ByteArray) (by decide) p.size p (Nat.le_refl _)
  have h := Tryz.strings_ReplaceAll p ⟨#[46, 46, 46]⟩ ⟨#[120]⟩ m w (by omega) hm (by decide) (by
    have : (⟨#[46, 46, 46]⟩ : ByteArray).size = 3 := rfl
    rw [this] at hmul
    show p.size + countB p ⟨#[46, 46, 46]⟩ * 1 ≤ _
    omega)
  rw [show (⟨#[46, 46, 46]⟩ : ByteArray).data.toList = dots from rfl, show (⟨#[120]⟩ : ByteArray).data.toList = [120] from rfl, repl_all] at h
  exact h
end Go.Proofs.Pw
