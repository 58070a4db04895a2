/- moduled: true. -/
import Derived.Test.YtknaelbmcgiidaaDoorMod2
namespace Go.Proofs.Pw
open Go.RowKit
open Go.Lib hiding intOf

def mtxt : ByteArray := ⟨#[97, 47, 98, 47, 118, 50, 64, 118, 50, 46, 48, 46, 49]⟩
def mpath : ByteArray := ⟨#[97, 47, 98, 47, 118, 50]⟩
def mver : ByteArray := ⟨#[118, 50, 46, 48, 46, 49]⟩
theorem mtxt_read (ks : List Nat) (A : Nat → Addr) (h4 : 4 ∈ ks) (w : World) (hE : EnvP ks A w) :
    Calls Tryd.prog 5 #[.string ⟨#[97, 47, 98, 47, 118, 50, 64, 118, 50, 46, 48, 46, 49]⟩] w fun e w' => e = .returned (.tuple #[.agg #[.string ⟨#[97, 47, 98, 47, 118, 50]⟩, .string ⟨#[118, 50, 46, 48, 46, 49]⟩], .nilIface]) ∧ Below w.heap.size w w' := by
  have h := modRead_calls ks A h4 mtxt w hE (by decide)
  rw [show modRead mtxt.data.toList = ([97, 47, 98, 47, 118, 50], [118, 50, 46, 48, 46, 49], 0) from by decide +kernel, errV_zero] at h
  exact h
theorem mtxt_split (ks : List Nat) (A : Nat → Addr) (h4 : 4 ∈ ks) (w : World) (hE : EnvP ks A w) :
    Calls Tryd.prog 9 #[.string ⟨#[97, 47, 98, 47, 118, 50]⟩] w fun e w' => e = .returned (.tuple #[.string ⟨#[97, 47, 98]⟩, .int .i64 2]) ∧ Below w.heap.size w w' := by
  have h := modSplit_calls ks A h4 mpath w hE (by decide)
  rw [show modSplit mpath.data.toList = ([97, 47, 98], 2) from by decide +kernel] at h
  exact h
theorem mtxt_text (ks : List Nat) (A : Nat → Addr) (h4 : 4 ∈ ks) (w : World) (hE : EnvP ks A w) :
    Calls Tryd.prog 6 #[.agg #[.string ⟨#[97, 47, 98, 47, 118, 50]⟩, .string ⟨#[118, 50, 46, 48, 46, 49]⟩]] w fun e w' => e = .returned (.string ⟨#[97, 47, 98, 47, 118, 50, 64, 118, 50, 46, 48, 46, 49]⟩) ∧ Below w.heap.size w w' := by
  have h := modText_calls ks A h4 mpath mver w hE (by decide) (by decide)
  rw [show modText mpath.data.toList mver.data.toList = [97, 47, 98, 47, 118, 50, 64, 118, 50, 46, 48, 46, 49] from by decide +kernel] at h
  exact h

set_option maxHeartbeats 400000 in
/-- moduled: true -/
theorem moduled_calls (ks : List Nat) (A : Nat → Addr) (h4 : 4 ∈ ks) (w : World) (hE : EnvP ks A w) :
    Calls Tryd.prog 4 #[] w fun e w' => e = .returned (.bool true) ∧ Below w.heap.size w w' := by
  have hB := Below.refl w.heap.size w
  go_enter Tryd.func4, Tryd.ntmps4
  go_wp2_with fail
  refine (mtxt_read ks A h4 w hE).mono ?_
  rintro e w1 ⟨rfl, hb⟩
  replace hB := below_step hB hb
  replace hE := hE.below hb
  clear hb
  have hb := below_alloc w1 (.cells #[.string ⟨#[97, 47, 98, 47, 118, 50]⟩, .string ⟨#[118, 50, 46, 48, 46, 49]⟩] 23)
  have hz := box2_alloc w1 (.string ⟨#[97, 47, 98, 47, 118, 50]⟩) (.string ⟨#[118, 50, 46, 48, 46, 49]⟩) 23
  replace hB := below_step hB hb
  replace hE := hE.below hb
  clear hb
  go_wp2_with fail
  refine (mtxt_split ks A h4 _ hE).mono ?_
  rintro e w2 ⟨rfl, hb⟩
  replace hB := below_step hB hb
  replace hE := hE.below hb
  replace hz := hz.below hb
  clear hb
  have c0 := hz.c0
  have c1 := hz.c1
  clear hz
  go_wp2_with fail
  refine (mtxt_text ks A h4 _ hE).mono ?_
  rintro e w3 ⟨rfl, hb⟩
  replace hB := below_step hB hb
  clear hb
  go_wp2_with fail
  go_ret
  exact ⟨rfl, hB⟩

end Go.Proofs.Pw
