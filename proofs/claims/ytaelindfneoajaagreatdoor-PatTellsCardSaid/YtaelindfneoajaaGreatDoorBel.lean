/- 'Below' with the tape's place told: what was drawn stays drawn. So the world behind is some draws on, with some blocks laid. -/
import Derived.Test.YtaelindfneoajaaGreatDoorWorld
import Derived.Test.YtaelindfneoajaaGreatDoorPatch
namespace Go.Proofs.Pw
open Go.RowKit
open Go.Sort (grow)

def Bel (B : Nat) (w w' : World) : Prop := Below B w w' ∧ w.drawn ≤ w'.drawn
theorem Bel.b {B : Nat} {w w' : World} (h : Bel B w w') : Below B w w' := h.1
theorem Bel.size {B : Nat} {w w' : World} (h : Bel B w w') : w.heap.size ≤ w'.heap.size := h.1.size
theorem Bel.refl (B : Nat) (w : World) : Bel B w w := ⟨Below.refl _ _, Nat.le_refl _⟩
theorem Bel.trans {B : Nat} {a b c : World} (h : Bel B a b) (k : Bel B b c) : Bel B a c := ⟨h.1.trans k.1, Nat.le_trans h.2 k.2⟩
theorem Bel.mono {B B' : Nat} {w w' : World} (h : Bel B w w') (hB : B' ≤ B) : Bel B' w w' := ⟨h.1.mono hB, h.2⟩
theorem Bel.alloc {B : Nat} {a w : World} (h : Bel B a w) (hB : B ≤ w.heap.size) (o : Obj) : Bel B a (w.alloc o) := ⟨h.1.alloc hB o, h.2⟩
theorem Bel.drewN {B : Nat} {a w : World} (h : Bel B a w) (n : Nat) : Bel B a (w.drewN n) := ⟨below_drewN h.1 n, Nat.le_trans h.2 (by show w.drawn ≤ w.drawn + n; omega)⟩
theorem Bel.drew {B : Nat} {a w : World} (h : Bel B a w) : Bel B a w.drew := ⟨h.1.drew, Nat.le_trans h.2 (by show w.drawn ≤ w.drawn + 1; omega)⟩
theorem drawn_setCell (w : World) (p : Addr) (u : Value) : (w.setCell p u).drawn = w.drawn := by
  unfold World.setCell
  first | rfl | (split <;> rfl) | (simp only []; split <;> rfl)
theorem Bel.setCell {B : Nat} {a w : World} (h : Bel B a w) {p : Addr} (hp : B ≤ p.block) (u : Value) : Bel B a (w.setCell p u) := ⟨h.1.setCell hp u, by rw [drawn_setCell]; exact h.2⟩
theorem bel_step {w w1 w2 : World} (h : Bel w.heap.size w w1) (h2 : Bel w1.heap.size w1 w2) : Bel w.heap.size w w2 := h.trans (h2.mono h.size)
theorem bel_alloc (w : World) (o : Obj) : Bel w.heap.size w (w.alloc o) := (Bel.refl _ _).alloc (Nat.le_refl _) _
theorem Bel.grown {w w' : World} (h : Bel w.heap.size w w') : ∃ q os, w' = grow (w.drewN q) os := by
  obtain ⟨⟨d, os⟩, rfl⟩ := patch_of_below h.1
  have h2 : w.drawn ≤ d := h.2
  refine ⟨d - w.drawn, os, ?_⟩
  show ({ w with heap := w.heap ++ os, drawn := d } : World) = { w with heap := w.heap ++ os, drawn := w.drawn + (d - w.drawn) }
  rw [Nat.add_sub_cancel' h2]
theorem bel_patch (w : World) (d : Nat) (os : Array Obj) (h : w.drawn ≤ d) : Bel w.heap.size w (patch w d os) := ⟨below_patch w d os, h⟩
end Go.Proofs.Pw
