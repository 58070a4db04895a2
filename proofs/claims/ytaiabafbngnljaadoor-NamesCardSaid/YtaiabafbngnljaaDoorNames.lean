/- Names, its walk: the numbers of package api and of its errors. -/
import Derived.Test.YtaiabafbngnljaaDoorCode
import Derived.Deep.QuietTactic
import Derived.BigQuiet
namespace Go.Proofs.Pw
open Go.RowKit

set_option maxHeartbeats 1000000 in
theorem sameInts_yes (pa pb n ca cb : Nat) (f : Nat → Int) (w : World) (hn : n ≤ 1000000)
    (ha : ∀ j, j < n → w.cell? ⟨pa, j, none⟩ = some (.int .i64 (f j))) (hb : ∀ j, j < n → w.cell? ⟨pb, j, none⟩ = some (.int .i64 (f j))) :
    Calls Tryd.prog 6 #[.slice (some ⟨pa, 0, none⟩) n ca, .slice (some ⟨pb, 0, none⟩) n cb] w fun e w' => e = .returned (.bool true) ∧ Below w.heap.size w w' := by
  go_enter Tryd.func6, Tryd.ntmps6
  go_wp2_with fail
  go_loopw [5] (fun i wr => ∃ k : Nat, k ≤ n ∧ i = .int .i64 k ∧ Below w.heap.size w wr) (fun i _ => n - (intOf i).toNat)
  case atStart => exact ⟨0, by omega, rfl, Below.refl _ _⟩
  case round =>
    obtain ⟨k, hk, rfl, hbl⟩ := hrel
    by_cases hlt : k < n
    · have h1 := Below.cell_same hbl (ha k hlt)
      have h2 := Below.cell_same hbl (hb k hlt)
      go_wp2_with fail
      go_quiet (fail)
      go_wp2_with fail
      go_roundw
      case rel => exact ⟨k + 1, by omega, by go_num, by have := hbl; exact ⟨this.os, this.tape, this.output, this.size, this.block⟩⟩
      case measure => simp [intOf]; omega
    · obtain rfl : k = n := by omega
      go_wp2_with fail
      go_ret
      exact ⟨rfl, hbl⟩

theorem coded_sent (k : Nat) (n : Int) (A : Nat → Addr) (w : World) (hE : EnvC A w) (h1 : 1 ≤ k) (h2 : k ≤ 10) :
    Calls Tryd.prog 8 #[.iface 49 (.pointer (some (A k))), .int .i64 n] w fun e w' => e = .returned (.bool (decide ((k : Int) = n))) ∧ Below w.heap.size w w' := by
  obtain ⟨c, tc, hc⟩ := hE.errs.row k (mem_allErrs h1 h2)
  go_enter Tryd.func8, Tryd.ntmps8
  go_wp2_with fail
  refine (code_any _ _ _ _ _ hE hc).mono ?_
  rintro e w1 ⟨⟨m, rfl, hm⟩, hb1⟩
  obtain rfl : m = k := by
    rcases hm with ⟨j, hj1, hj2, ha, rfl⟩ | ⟨h, _⟩
    · have := hE.errs.inj _ (mem_allErrs h1 h2) _ (mem_allErrs hj1 hj2) ha
      rw [this]
    · exact absurd rfl (h k h1 h2)
  by_cases hkn : (k : Int) = n
  · subst hkn
    go_wp2_with fail
    go_ret
    exact ⟨by simp, hb1⟩
  · have hq : ((k : Int) == n) = false := by simpa using hkn
    go_wp2_with fail
    go_ret
    exact ⟨by simp [hkn], hb1⟩

theorem coded_nil (n : Int) (w : World) :
    Calls Tryd.prog 8 #[.nilIface, .int .i64 n] w fun e w' => e = .returned (.bool (decide (0 = n))) ∧ w = w' := by
  go_enter Tryd.func8, Tryd.ntmps8
  go_wp2_with fail
  refine (code_nil _).mono ?_
  rintro e w1 ⟨rfl, rfl⟩
  by_cases hkn : 0 = n
  · subst hkn
    go_wp2_with fail
    go_ret
    exact ⟨by simp, rfl⟩
  · have hq : ((0 : Int) == n) = false := by simpa using hkn
    go_wp2_with fail
    go_ret
    exact ⟨by simp [hkn], rfl⟩

def numsA : Array Value := #[.int .i64 999999, .int .i64 5, .int .i64 8, .int .i64 10, .int .i64 5, .int .i64 20, .int .i64 100, .int .i64 10, .int .i64 8000, .int .i64 10, .int .i64 80, .int .i64 16]
def numsF (j : Nat) : Int := [999999, 5, 8, 10, 5, 20, 100, 10, 8000, 10, 80, 16].getD j 0
theorem nums_get : ∀ j, j < 12 → numsA[j]? = some (.int .i64 (numsF j))
  | 0, _ | 1, _ | 2, _ | 3, _ | 4, _ | 5, _ | 6, _ | 7, _ | 8, _ | 9, _ | 10, _ | 11, _ => rfl
  | _ + 12, h => absurd h (by omega)

theorem errorsNew_calls (s : ByteArray) (w : World) :
    Calls Tryd.prog 9 #[.string s] w fun e w' => e = .returned (.iface 49 (.pointer (some ⟨w.heap.size, 0, none⟩))) ∧ w' = w.alloc (.cells #[.string s] 51) := by
  go_enter Tryd.func9, Tryd.ntmps9
  go_wp2_with fail
  go_ret
  exact ⟨rfl, rfl⟩

set_option maxRecDepth 100000 in
set_option maxHeartbeats 2000000 in
theorem names_calls (A : Nat → Addr) (w : World) (hE : EnvC A w) :
    Calls Tryd.prog 3 #[] w fun e w' => e = .returned (.bool true) ∧ Below w.heap.size w w' := by
  go_enter Tryd.func3, Tryd.ntmps3
  go_wp2_with fail
  have hb0 : Below w.heap.size w ((w.alloc (.cells numsA 3)).alloc (.cells numsA 3)) := ((Below.refl _ _).alloc (Nat.le_refl _) _).alloc (by simp) _
  have hca : ∀ j, j < 12 → ((w.alloc (.cells numsA 3)).alloc (.cells numsA 3)).cell? ⟨w.heap.size, j, none⟩ = some (.int .i64 (numsF j)) := fun j hj => by
    rw [World.cell?_alloc_lt _ _ ⟨w.heap.size, j, none⟩ (by simp), World.cell?_alloc_at _ _ _ _ rfl]; exact nums_get j hj
  have hcb : ∀ j, j < 12 → ((w.alloc (.cells numsA 3)).alloc (.cells numsA 3)).cell? ⟨w.heap.size + 1, j, none⟩ = some (.int .i64 (numsF j)) := fun j hj => by
    rw [World.cell?_alloc_at _ _ _ _ (by simp)]; exact nums_get j hj
  refine (sameInts_yes _ _ 12 _ _ numsF _ (by decide) hca hcb).mono ?_
  rintro e w1 ⟨rfl, hb1⟩
  have hb01 : Below w.heap.size w w1 := hb0.trans (hb1.mono hb0.size)
  clear hb0 hca hcb hb1
  have hE1 := hE.below hb01
  have g1 := hE1.errs.var 1 (mem_allErrs (by decide) (by decide))
  have g2 := hE1.errs.var 2 (mem_allErrs (by decide) (by decide))
  have g3 := hE1.errs.var 3 (mem_allErrs (by decide) (by decide))
  have g4 := hE1.errs.var 4 (mem_allErrs (by decide) (by decide))
  have g5 := hE1.errs.var 5 (mem_allErrs (by decide) (by decide))
  have g6 := hE1.errs.var 6 (mem_allErrs (by decide) (by decide))
  have g7 := hE1.errs.var 7 (mem_allErrs (by decide) (by decide))
  have g8 := hE1.errs.var 8 (mem_allErrs (by decide) (by decide))
  have g9 := hE1.errs.var 9 (mem_allErrs (by decide) (by decide))
  have g10 := hE1.errs.var 10 (mem_allErrs (by decide) (by decide))
  simp only [errG] at g1 g2 g3 g4 g5 g6 g7 g8 g9 g10
  go_wp2_with fail
  clear g1 g2 g3 g4 g5 g6 g7 g8 g9 g10
  have hbt : Below w.heap.size w (w1.alloc (.cells (ten A) 25)) := hb01.alloc hb01.size _
  have hbu : Below w1.heap.size w1 (w1.alloc (.cells (ten A) 25)) := (Below.refl _ _).alloc (Nat.le_refl _) _
  have hcells : ∀ i, i < 10 → (w1.alloc (.cells (ten A) 25)).cell? ⟨w1.heap.size, i, none⟩ = some (.iface 49 (.pointer (some (A (i + 1))))) := fun i hi => by
    rw [World.cell?_alloc_at _ _ _ _ rfl]; exact ten_get A i hi
  go_loopw [4] (fun i wr => ∃ k : Nat, k ≤ 10 ∧ i = .int .i64 k ∧ Below w.heap.size w wr ∧ Hid (∀ i, i < 10 → wr.cell? ⟨w1.heap.size, i, none⟩ = some (.iface 49 (.pointer (some (A (i + 1))))))) (fun i _ => 10 - (intOf i).toNat)
  case atStart => exact ⟨0, by omega, rfl, hbt, hcells⟩
  case round =>
    clear hbt hbu hcells hE1 hb01
    obtain ⟨k, hk, rfl, hbr, HC⟩ := hrel
    have hEr := hE.below hbr
    by_cases hlt : k < 10
    · have hck := HC.out k hlt
      go_wp2_with fail
      have hbn : Below wr.heap.size wr (wr.alloc (.cells #[.int .i64 7, .iface 49 (.pointer (some (A (k + 1))))] 31)) := (Below.refl _ _).alloc (Nat.le_refl _) _
      refine (code_fault wr.heap.size 7 (k + 1) A _ (hEr.below hbn) (by omega) (by omega) (by simp) (by rw [errV_pos A (by omega)]; simp)).mono ?_
      rintro e w2 ⟨rfl, hb2⟩
      have hbr2 := hbr.trans ((hbn.trans (hb2.mono hbn.size)).mono hbr.size)
      have hB := (hbn.trans (hb2.mono hbn.size))
      have HC2 := Lib.hid (fun i (hi : i < 10) => Below.cell_same hB (HC.out i hi))
      have hck2 := HC2.out k hlt
      have hE2 := hE.below hbr2
      clear hb2 hbn hck HC hEr hB
      go_wp2_with fail
      refine (coded_sent (k + 1) _ A _ hE2 (by omega) (by omega)).mono ?_
      rintro e w3 ⟨rfl, hb3⟩
      have hdk : (decide (((k + 1 : Nat) : Int) = (k : Int) + 1)) = true := by simp
      rw [hdk]
      clear hdk
      have hk1 : ((((k + 1 : Nat) : Int) != (k : Int) + 1)) = false := by simp
      go_wp2_with fail
      go_roundw
      case rel => exact ⟨k + 1, by omega, by go_num, hbr2.trans (hb3.mono hbr2.size), fun i hi => Below.cell_same hb3 (HC2.out i hi)⟩
      case measure => simp [intOf]; omega
    · obtain rfl : k = 10 := by omega
      go_wp2_with fail
      refine (errorsNew_calls _ _).mono ?_
      rintro e w2 ⟨rfl, hw2⟩
      have hbn : Below wr.heap.size wr w2 := by rw [hw2]; exact (Below.refl _ _).alloc (Nat.le_refl _) _
      have hrow : w2.heap[wr.heap.size]? = some (.cells #[.string ⟨#[97, 110, 111, 116, 104, 101, 114, 32, 111, 110, 101]⟩] 51 (0, 0)) := by rw [hw2]; exact heap_alloc_new _ _
      clear hw2
      have hE2 := hEr.below hbn
      go_wp2_with fail
      refine (code_any ⟨wr.heap.size, 0, none⟩ _ _ _ _ hE2 hrow).mono ?_
      rintro e w3 ⟨⟨m, rfl, hm⟩, hb3⟩
      obtain rfl : m = -1 := by
        rcases hm with ⟨j, hj1, hj2, ha, _⟩ | ⟨_, h⟩
        · exfalso
          obtain ⟨c, tc, hc⟩ := hEr.errs.row j (mem_allErrs hj1 hj2)
          have := (Array.getElem?_eq_some_iff.1 hc).1
          rw [← ha] at this
          exact absurd this (Nat.lt_irrefl _)
        · exact h
      go_wp2_with fail
      refine (coded_nil 0 _).mono ?_
      rintro e w4 ⟨rfl, rfl⟩
      go_wp2_with fail
      go_ret
      exact ⟨rfl, (hbr.trans (hbn.mono hbr.size)).trans (hb3.mono (Nat.le_trans hbr.size hbn.size))⟩
end Go.Proofs.Pw
