/- PatAny, its walk. -/
import Derived.Test.YtaelindfneoajaaGreatDoorPat
namespace Go.Proofs.Pw
open Go.RowKit
open Go.Lib hiding intOf

def hasDot (l : Str) (k : Nat) : Bool := (l.take k).any (· == 46)
theorem hasDot_true {l : Str} {k : Nat} (h : hasDot l k = true) : hasDot l (k + 1) = true := by
  unfold hasDot at *
  rw [List.any_eq_true] at *
  obtain ⟨x, hx, h2⟩ := h
  exact ⟨x, (List.take_prefix_take_left (Nat.le_succ k)).subset hx, h2⟩
theorem hasDot_false {l : Str} {k : Nat} (hk : k < l.length) (h : hasDot l k = false) : hasDot l (k + 1) = (l[k] == 46) := by
  unfold hasDot at *
  rw [List.take_succ_eq_append_getElem hk, List.any_append, h]
  simp
theorem hasDot_mem {l : Str} (h : hasDot l l.length = false) : (46 : UInt8) ∉ l := by
  unfold hasDot at h
  rw [List.take_length, List.any_eq_false] at h
  intro hm
  exact h _ hm rfl

theorem byte_eq (c d : UInt8) (n : Int) (h : n = d.toNat) : ((c.toNat : Int) == n) = (c == d) := by
  subst h
  rw [Bool.eq_iff_iff, beq_iff_eq, beq_iff_eq]
  constructor
  · intro h; exact UInt8.toNat_inj.1 (by exact_mod_cast h)
  · rintro rfl; rfl

theorem app_data (a b : ByteArray) : (a ++ b).data.toList = a.data.toList ++ b.data.toList := by
  rw [ByteArray.data_append, Array.toList_append]

theorem patterned_calls (w : World) (hE : EnvM w) :
    Calls Tryz.prog 17 #[] w fun e w' => e = .returned (.bool true) ∧ Below w.heap.size w w' := by
  have e1 : pMatch [97, 47, 46, 46, 46] [97] = true := by decide +kernel
  have e2 : pMatch [97, 47, 46, 46, 46, 99] [97, 47, 98, 47, 99] = true := by decide +kernel
  have e3 : pMatch [97, 46, 46, 46] [98] = false := by decide +kernel
  have e4 : contains [97, 46, 46, 46] dots = true := by decide +kernel
  have H1 := Lib.hid e1
  have H2 := Lib.hid e2
  have H3 := Lib.hid e3
  have H4 := Lib.hid e4
  clear e1 e2 e3 e4
  go_enter Tryz.func17, Tryz.ntmps17
  go_wp2_with fail
  refine (match_calls _ _ _ hE (by decide) (by decide)).mono ?_
  rintro e w1 ⟨rfl, hb1⟩
  have hE1 := hE.below hb1
  rw [H1.out]
  go_wp2_with fail
  refine (match_calls _ _ _ hE1 (by decide) (by decide)).mono ?_
  rintro e w2 ⟨rfl, hb2⟩
  have hE2 := hE1.below hb2
  rw [H2.out]
  go_wp2_with fail
  refine (match_calls _ _ _ hE2 (by decide) (by decide)).mono ?_
  rintro e w3 ⟨rfl, hb3⟩
  have hE3 := hE2.below hb3
  rw [H3.out]
  go_wp2_with fail
  refine (wild_calls _ _ hE3 (by decide)).mono ?_
  rintro e w4 ⟨rfl, rfl⟩
  rw [H4.out]
  go_wp2_with fail
  go_ret
  exact ⟨rfl, below_step (below_step hb1 hb2) hb3⟩

end Go.Proofs.Pw
