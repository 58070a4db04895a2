/- mod.Ahead. Conditions: texts of at most 1000000000 bytes. -/
import Derived.Test.YtfkimddlgopgbaaGreatDoorMod2
import Derived.Test.YtfkimddlgopgbaaGreatDoorVerCmp
import Derived.Test.YtfkimddlgopgbaaGreatDoorModLaw
import Derived.Test.YtfkimddlgopgbaaGreatDoorOrdMath
import Derived.Test.YtfkimddlgopgbaaGreatDoorMem
namespace Go.Proofs.Pw
open Go.RowKit
open Go.Lib hiding intOf

theorem ahead_eq (p v q u : ByteArray) : modAhead (p.data.toList, v.data.toList) (q.data.toList, u.data.toList) = (Op.bytesLess p.toList q.toList || (p.toList == q.toList && verLess v.data.toList u.data.toList)) := by
  rw [toList_data, toList_data, bytesLess_iff]
  unfold modAhead
  congr 2
  rw [Bool.eq_iff_iff]
  simp

set_option maxHeartbeats 1000000 in
theorem modAhead_calls (ks : List Nat) (A : Nat → Addr) (p v q u : ByteArray) (w : World) (hE : EnvP ks A w) (hv : v.size ≤ 1000000000) (hu : u.size ≤ 1000000000) :
    Calls Tryz.prog 43 #[.agg #[.string p, .string v], .agg #[.string q, .string u]] w fun e w' => e = .returned (.bool (modAhead (p.data.toList, v.data.toList) (q.data.toList, u.data.toList))) ∧ Below w.heap.size w w' := by
  have hm := ahead_eq p v q u
  have hl := fun W hW => verLess_calls ks A v u W hW hv hu
  have hb1 := below_alloc w (.cells #[.string p, .string v] 26)
  have hB := below_step hb1 (below_alloc _ (.cells #[.string q, .string u] 26))
  replace hE := hE.below hB
  generalize modAhead (p.data.toList, v.data.toList) (q.data.toList, u.data.toList) = R at hm ⊢
  generalize verLess v.data.toList u.data.toList = X at hl hm
  replace hm := Lib.hid hm
  replace hl := Lib.hid hl
  clear hb1
  cases h1 : Op.bytesLess p.toList q.toList with
  | true =>
    have HF : Hid (R = true) := Lib.hid (by rw [hm.out, h1]; rfl)
    go_enter Tryz.func43, Tryz.ntmps43
    go_wp2_with fail
    go_ret
    rw [HF.out]
    exact ⟨rfl, hB⟩
  | false =>
    cases h2 : (p.toList == q.toList) with
    | true =>
      have HF : Hid (R = X) := Lib.hid (by rw [hm.out, h1, h2]; simp)
      have h3 : p.toList = q.toList := beq_iff_eq.1 h2
      have h4 : p = q := by rw [toList_data, toList_data] at h3; exact bytes_eq.1 h3
      subst h4
      clear h2 h3
      go_enter Tryz.func43, Tryz.ntmps43
      go_wp2_with fail
      refine (hl.out _ hE).mono ?_
      rintro e w1 ⟨rfl, hb⟩
      replace hB := below_step hB hb
      clear hb
      go_wp2_with fail
      go_ret
      rw [HF.out]
      exact ⟨rfl, hB⟩
    | false =>
      have HF : Hid (R = false) := Lib.hid (by rw [hm.out, h1, h2]; rfl)
      have h3 : p.toList ≠ q.toList := beq_eq_false_iff_ne.1 h2
      have h4 : p ≠ q := fun e => h3 (by rw [e])
      go_enter Tryz.func43, Tryz.ntmps43
      go_wp2_with fail
      go_ret
      rw [HF.out]
      exact ⟨rfl, hB⟩

end Go.Proofs.Pw
