/- FileBack: its walk, joined. -/
import Derived.Test.YtfkimddlgopgbaaGreatDoorFileBack2
namespace Go.Proofs.Pw
open Go.RowKit
open Go.Lib hiding intOf

theorem fileBack_calls (ks : List Nat) (A : Nat → Addr) (hks : FileKs ks) (p mp mv : ByteArray) (rv xv : Value) (R X : List Md) (w : World) (hE : EnvP ks A w) (hr : ModsAt w rv R) (hx : ModsAt w xv X) :
    Calls Tryz.prog 3 #[.agg #[.string p, rv, xv], .agg #[.string mp, .string mv]] w fun e w' => e = .returned (.bool true) ∧ Below w.heap.size w w' := by
  by_cases h1 : p.size ≤ 90
  · by_cases h45 : mp.size ≤ 90 ∧ mv.size ≤ 60
    · cases h2 : longMods R 25 <;> cases h3 : longMods X 25
      · exact fileBack_main ks A hks p mp mv rv xv R X w hE hr hx h1 h2 h3 h45.1 h45.2
      · exact fileBack_long ks A hks p mp mv rv xv R X w hE hr hx (.inr ⟨h1, by rw [h2, h3]; simp⟩)
      · exact fileBack_long ks A hks p mp mv rv xv R X w hE hr hx (.inr ⟨h1, by rw [h2, h3]; simp⟩)
      · exact fileBack_long ks A hks p mp mv rv xv R X w hE hr hx (.inr ⟨h1, by rw [h2, h3]; simp⟩)
    · cases h2 : longMods R 25 <;> cases h3 : longMods X 25
      · refine fileBack_long ks A hks p mp mv rv xv R X w hE hr hx (.inr ⟨h1, .inr (.inr (.inr ⟨h2, h3, ?_⟩))⟩)
        omega
      · exact fileBack_long ks A hks p mp mv rv xv R X w hE hr hx (.inr ⟨h1, by rw [h2, h3]; simp⟩)
      · exact fileBack_long ks A hks p mp mv rv xv R X w hE hr hx (.inr ⟨h1, by rw [h2, h3]; simp⟩)
      · exact fileBack_long ks A hks p mp mv rv xv R X w hE hr hx (.inr ⟨h1, by rw [h2, h3]; simp⟩)
  · exact fileBack_long ks A hks p mp mv rv xv R X w hE hr hx (.inl (by omega))
end Go.Proofs.Pw
