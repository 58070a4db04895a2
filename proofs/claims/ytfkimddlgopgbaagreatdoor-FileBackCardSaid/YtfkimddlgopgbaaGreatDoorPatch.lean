/- A region that draws its order, whose operations only read and whose callees may lay blocks of their own: walked once, in the order of the text, over the class 'Below'. -/
import Derived.Test.YtfkimddlgopgbaaGreatDoorWorld
import Derived.WalkKit
import Derived.Deep.QuietTactic
import Derived.BigQuiet
import Derived.Shelf.SlSortCmp.QuietGrown
namespace Go.Proofs.Pw
open Go.RowKit

/-- w with blocks behind it, at another place of its tape -/
def patch (w : World) (d : Nat) (os : Array Obj) : World := { w with heap := w.heap ++ os, drawn := d }
structure PatchBy where
  d : Nat
  os : Array Obj
  deriving Inhabited

theorem below_patch (w : World) (d : Nat) (os : Array Obj) : Below w.heap.size w (patch w d os) :=
  ⟨rfl, rfl, rfl, by simp [patch], fun k hk => by simp [patch, Array.getElem?_append, hk]⟩
theorem patch_of_below {w w' : World} (h : Below w.heap.size w w') : ∃ p : PatchBy, w' = patch w p.d p.os := by
  refine ⟨⟨w'.drawn, w'.heap.extract w.heap.size w'.heap.size⟩, ?_⟩
  have hh : w'.heap = w.heap ++ w'.heap.extract w.heap.size w'.heap.size := by
    have hs := h.size
    apply Array.ext_getElem?
    intro i
    rw [Array.getElem?_append]
    split
    · rename_i hi; exact h.block i hi
    · rename_i hi
      rw [Array.getElem?_extract]
      split
      · congr 1; omega
      · rename_i hj
        rw [Array.getElem?_eq_none]
        omega
  obtain ⟨heap, tape, drawn, os, output⟩ := w'
  have h1 := h.os
  have h2 := h.tape
  have h3 := h.output
  simp only at h1 h2 h3 hh
  subst h1 h2 h3
  show World.mk heap _ _ _ _ = World.mk (w.heap ++ _) _ _ _ _
  congr 1
theorem cell_patch {w : World} {a : Addr} {v : Value} (h : w.cell? a = some v) (d : Nat) (os : Array Obj) : (patch w d os).cell? a = some v :=
  Below.cell_some (below_patch w d os) h
theorem Calls.patch_of {P : Program} {f : FuncId} {args : Array Value} {w : World} {d : Nat} {os : Array Obj} {v : Value}
    (h : Calls P f args (patch w d os) fun e w' => e = .returned v ∧ Below (patch w d os).heap.size (patch w d os) w') : Calls P f args (patch w d os) fun e w'' => e = .returned v ∧ ∃ p : PatchBy, w'' = patch w p.d p.os :=
  h.mono fun _ _ ⟨he, hb⟩ => ⟨he, patch_of_below (below_step (below_patch w d os) hb)⟩
theorem wp_region_quiet_patch {P : Program} {id : Nat} {Q : Exit → Act → World → Prop} {a : Act} {w : World} {l : List Oper} (hm : P.follows .mixedOrders = true) (hB : Region.lexB .any l.toArray = true)
    (h : wpQuiet P l.toArray (fun w' => ∃ p : PatchBy, w' = patch w p.d p.os) (fun a' => ∀ w', (∃ p : PatchBy, w' = patch w p.d p.os) → Q .normal a' w') l a) : (Code.region id l.toArray true).wp P Q a w :=
  wp_region_quiet (C := fun w' => ∃ p : PatchBy, w' = patch w p.d p.os) hm hB ⟨⟨w.drawn + 1, #[]⟩, by simp [patch]⟩ (by simpa using h)
end Go.Proofs.Pw
