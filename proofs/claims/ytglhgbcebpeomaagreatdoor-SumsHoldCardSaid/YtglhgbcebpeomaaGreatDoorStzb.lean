/- St: walks and plain laws, joined: Code Coded Faulted FileTellsMath ErrLe LongIdx LongMath. Conditions: at each theorem. -/
import Derived.Test.YtglhgbcebpeomaaGreatDoorStza
import Derived.Test.YtglhgbcebpeomaaGreatDoorStb
import Derived.WalkLawsBesides
import Derived.WalkSpells
import Derived.Stop.IfaceNil
import Derived.Test.YtglhgbcebpeomaaGreatDoorStj
import Derived.Test.YtglhgbcebpeomaaGreatDoorStl

namespace Go.Proofs.Pw
open Go.RowKit
structure EnvC (A : Nat → Addr) (w : World) : Prop where
  errs : EnvE allErrs A w
  handle : w.cell? ⟨10, 0, none⟩ = some (.iface 301 (.agg #[.pointer (some ⟨19, 41, none⟩)]))
theorem EnvC.below {A : Nat → Addr} {w w' : World} (h : EnvC A w) (hb : Below w.heap.size w w') : EnvC A w' := ⟨h.errs.below hb, Below.cell_same hb h.handle⟩
theorem Tryz.isIface_error : Tryz.prog.isIface 41 = true := by kernel_rfl
theorem code_nil (w : World) : Calls Tryz.prog 61 #[.nilIface] w fun e w' => e = .returned (.tuple #[.int .i64 0, .int .i64 (-1)]) ∧ w = w' := by
  go_enter Tryz.func61, Tryz.ntmps61
  go_wp2_with fail
  go_ret2
  exact ⟨rfl, rfl⟩
def ten (A : Nat → Addr) : Array Value := #[errP (A 1), errP (A 2), errP (A 3), errP (A 4), errP (A 5), errP (A 6), errP (A 7), errP (A 8), errP (A 9), errP (A 10)]
where errP (a : Addr) : Value := .iface 371 (.pointer (some a))
theorem ten_get (A : Nat → Addr) : ∀ i, i < 10 → (ten A)[i]? = some (.iface 371 (.pointer (some (A (i + 1)))))
  | 0, _ | 1, _ | 2, _ | 3, _ | 4, _ | 5, _ | 6, _ | 7, _ | 8, _ | 9, _ => rfl
  | _ + 10, h => absurd h (by omega)
def CodeIs (A : Nat → Addr) (a : Addr) (n : Int) : Prop := (∃ k : Nat, 1 ≤ k ∧ k ≤ 10 ∧ a = A k ∧ n = k) ∨ ((∀ k : Nat, 1 ≤ k → k ≤ 10 → a ≠ A k) ∧ n = -1)
set_option maxHeartbeats 1000000 in
set_option maxRecDepth 100000 in
theorem code_any (a : Addr) (c : Array Value) (ta : TypeId) (A : Nat → Addr) (w : World) (hE : EnvC A w) (ha : w.heap[a.block]? = some (.cells c ta (0, 0))) :
    Calls Tryz.prog 61 #[.iface 371 (.pointer (some a))] w fun e w' =>
      (∃ n : Int, e = .returned (.tuple #[.int .i64 n, .int .i64 (-1)]) ∧ CodeIs A a n) ∧ Below w.heap.size w w' := by
  have hT := Tryz.isIface_error
  have hb0 : Below w.heap.size w (w.alloc (.cells #[.pointer none] 106)) := (Below.refl _ _).alloc (Nat.le_refl _) _
  have hE0 := hE.below hb0
  have ha0 := Below.row_same hb0 ha
  have ht0 : (w.alloc (.cells #[.pointer none] 106)).cell? ⟨w.heap.size, 0, none⟩ = some (.pointer none) := by simp
  have hf0 : (w.alloc (.cells #[.pointer none] 106)).frozen? ⟨w.heap.size, 0, none⟩ = false := by simp
  have hz0 : w.heap.size ≤ (w.alloc (.cells #[.pointer none] 106)).heap.size := hb0.size
  go_enter Tryz.func61, Tryz.ntmps61
  go_wp2_with fail
  refine (as_miss a ⟨w.heap.size, 0, none⟩ (.pointer none) _ hE0.handle ht0 hf0).mono ?_
  rintro e w1 ⟨rfl, hb1⟩
  have hb01 := hb0.trans (hb1.mono hz0)
  have hE1 := hE0.below hb1
  have ha1 := Below.row_same hb1 ha0
  have g1 := hE1.errs.var 1 (mem_allErrs (by decide) (by decide))
  have g2 := hE1.errs.var 2 (mem_allErrs (by decide) (by decide))
  have g3 := hE1.errs.var 3 (mem_allErrs (by decide) (by decide))
  have g4 := hE1.errs.var 4 (mem_allErrs (by decide) (by decide))
  have g5 := hE1.errs.var 5 (mem_allErrs (by decide) (by decide))
  have g6 := hE1.errs.var 6 (mem_allErrs (by decide) (by decide))
  have g7 := hE1.errs.var 7 (mem_allErrs (by decide) (by decide))
  have g8 := hE1.errs.var 8 (mem_allErrs (by decide) (by decide))
  have g9 := hE1.errs.var 9 (mem_allErrs (by decide) (by decide))
  have g10 := hE1.errs.var 10 (mem_allErrs (by decide) (by decide))
  simp only [errG] at g1 g2 g3 g4 g5 g6 g7 g8 g9 g10
  clear ht0 hf0 hE0 hb0 ha0 hb1
  go_wp2_with fail
  have hbt : Below w.heap.size w (w1.alloc (.cells (ten A) 41)) := hb01.alloc hb01.size _
  have hbu : Below w1.heap.size w1 (w1.alloc (.cells (ten A) 41)) := (Below.refl _ _).alloc (Nat.le_refl _) _
  have hE2 := hE1.below hbu
  have ha2 := Below.row_same hbu ha1
  have hcells : ∀ i, i < 10 → (w1.alloc (.cells (ten A) 41)).cell? ⟨w1.heap.size, i, none⟩ = some (.iface 371 (.pointer (some (A (i + 1))))) := fun i hi => by
    rw [World.cell?_alloc_at _ _ _ _ rfl]; exact ten_get A i hi
  obtain ⟨W, hW⟩ : ∃ W, W = w1.alloc (.cells (ten A) 41) := ⟨_, rfl⟩
  have hgoal : w1.alloc (.cells #[.iface 371 (.pointer (some (A 1))), .iface 371 (.pointer (some (A 2))), .iface 371 (.pointer (some (A 3))), .iface 371 (.pointer (some (A 4))), .iface 371 (.pointer (some (A 5))), .iface 371 (.pointer (some (A 6))), .iface 371 (.pointer (some (A 7))), .iface 371 (.pointer (some (A 8))), .iface 371 (.pointer (some (A 9))), .iface 371 (.pointer (some (A 10)))] 41) = W := by rw [hW]; rfl
  rw [hgoal]
  rw [← hW] at hbt hE2 ha2 hcells
  clear hgoal hW hbu hE1 ha1 g1 g2 g3 g4 g5 g6 g7 g8 g9 g10 hE ha
  go_loop [3, 28] (fun t i => ∃ k : Nat, k ≤ 10 ∧ t = .int .i64 (-1) ∧ i = .int .i64 k ∧ Hid (∀ j, j < k → a ≠ A (j + 1))) (fun _ i => 10 - (intOf i).toNat)
  case atStart => exact ⟨0, by omega, rfl, rfl, fun _ h => absurd h (Nat.not_lt_zero _)⟩
  case round =>
    obtain ⟨k, hk, rfl, rfl, HA⟩ := hrel
    by_cases hlt : k < 10
    · have hck := hcells k hlt
      obtain ⟨cb, tb, hcb⟩ := hE2.errs.row (k + 1) (mem_allErrs (by omega) (by omega))
      by_cases hsame : a = A (k + 1)
      · subst hsame
        go_wp2_with (go_at_call 125; refine (is_same _ _).mono ?_; rintro e w2 ⟨rfl, rfl⟩)
        go_ret2
        exact ⟨⟨(k : Int) + 1, rfl, .inl ⟨k + 1, by omega, by omega, rfl, by omega⟩⟩, hbt⟩
      · go_wp2_with (go_at_call 125; refine (is_other _ _ _ _ _ _ _ hsame ha2 hcb).mono ?_; rintro e w2 ⟨rfl, rfl⟩)
        go_round
        case rel =>
          refine ⟨k + 1, by omega, rfl, by go_num, ?_⟩
          intro j hj
          rcases Nat.lt_or_ge j k with h | h
          · exact HA.out j h
          · obtain rfl : j = k := by omega
            exact hsame
        case measure => simp [intOf]; omega
    · obtain rfl : k = 10 := by omega
      go_wp2_with fail
      go_ret2
      refine ⟨⟨-1, rfl, .inr ⟨fun k h1 h2 => ?_, rfl⟩⟩, hbt⟩
      have := HA.out (k - 1) (by omega)
      rwa [Nat.sub_add_cancel h1] at this
theorem as_hit2 (e t : Addr) (old : Value) (w : World) (hg : w.cell? ⟨10, 0, none⟩ = some (.iface 301 (.agg #[.pointer (some ⟨19, 41, none⟩)]))) (ht0 : w.cell? t = some old) (hf0 : w.frozen? t = false) :
    Calls Tryz.prog 124 #[.iface 106 (.pointer (some e)), .iface 179 (.pointer (some t))] w fun ev w' => ev = .returned (.bool true) ∧ w'.cell? t = some (.pointer (some e)) ∧ Below t.block w w' := by
  have hlt : t.block < w.heap.size := World.block_lt_of_cell? w _ ht0
  refine (as_hit e t old w hg ht0 hf0).mono fun ev w' ⟨h1, h2⟩ => ⟨h1, ?_, ?_⟩
  · rw [h2]
    exact World.cell?_setCell_same _ _ _ (u := old) (by rw [World.cell?_alloc_lt _ _ t (by simp; omega), World.cell?_alloc_lt _ _ t (by simp; omega), World.cell?_alloc_lt _ _ t (by simp; omega), World.cell?_alloc_lt _ _ t hlt]; exact ht0)
  · rw [h2]
    exact ((((((Below.refl _ _).alloc (by omega) _).alloc (by simp; omega) _).alloc (by simp; omega) _).alloc (by simp; omega) _)).setCell (Nat.le_refl _) _
set_option maxHeartbeats 1000000 in
set_option maxRecDepth 100000 in
theorem code_fault (pb : Nat) (at_ : Int) (n : Nat) (A : Nat → Addr) (w : World) (hE : EnvC A w) (h1 : 1 ≤ n) (h2 : n ≤ 10) (hp0 : w.cell? ⟨pb, 0, none⟩ = some (.int .i64 at_)) (hp1 : w.cell? ⟨pb, 1, none⟩ = some (errV A n)) :
    Calls Tryz.prog 61 #[.iface 106 (.pointer (some ⟨pb, 0, none⟩))] w fun e w' => e = .returned (.tuple #[.int .i64 n, .int .i64 at_]) ∧ Below w.heap.size w w' := by
  have hT := Tryz.isIface_error
  have hb0 : Below w.heap.size w (w.alloc (.cells #[.pointer none] 106)) := (Below.refl _ _).alloc (Nat.le_refl _) _
  have hE0 := hE.below hb0
  rw [errV_pos A (by omega)] at hp1
  have hq0 := Below.cell_same hb0 hp0
  have hq1 := Below.cell_same hb0 hp1
  have hpl : pb < w.heap.size := World.block_lt_of_cell? w _ hp0
  have ht0 : (w.alloc (.cells #[.pointer none] 106)).cell? ⟨w.heap.size, 0, none⟩ = some (.pointer none) := by simp
  have hf0 : (w.alloc (.cells #[.pointer none] 106)).frozen? ⟨w.heap.size, 0, none⟩ = false := by simp
  have hz0 : w.heap.size ≤ (w.alloc (.cells #[.pointer none] 106)).heap.size := hb0.size
  go_enter Tryz.func61, Tryz.ntmps61
  go_wp2_with fail
  refine (as_hit2 ⟨pb, 0, none⟩ ⟨w.heap.size, 0, none⟩ (.pointer none) _ hE0.handle ht0 hf0).mono ?_
  rintro e w1 ⟨rfl, hc1, hb1⟩
  have hb01 : Below w.heap.size w w1 := hb0.trans hb1
  have hE1 := hE.below hb01
  have hr0 := Below.cell_same hb01 hp0
  have hr1 := Below.cell_same hb01 hp1
  have g1 := hE1.errs.var 1 (mem_allErrs (by decide) (by decide))
  have g2 := hE1.errs.var 2 (mem_allErrs (by decide) (by decide))
  have g3 := hE1.errs.var 3 (mem_allErrs (by decide) (by decide))
  have g4 := hE1.errs.var 4 (mem_allErrs (by decide) (by decide))
  have g5 := hE1.errs.var 5 (mem_allErrs (by decide) (by decide))
  have g6 := hE1.errs.var 6 (mem_allErrs (by decide) (by decide))
  have g7 := hE1.errs.var 7 (mem_allErrs (by decide) (by decide))
  have g8 := hE1.errs.var 8 (mem_allErrs (by decide) (by decide))
  have g9 := hE1.errs.var 9 (mem_allErrs (by decide) (by decide))
  have g10 := hE1.errs.var 10 (mem_allErrs (by decide) (by decide))
  simp only [errG] at g1 g2 g3 g4 g5 g6 g7 g8 g9 g10
  clear ht0 hf0 hE0 hb0 hq0 hq1 hb1 hp0 hp1
  go_wp2_with fail
  have hbt : Below w.heap.size w (w1.alloc (.cells (ten A) 41)) := hb01.alloc hb01.size _
  have hbu : Below w1.heap.size w1 (w1.alloc (.cells (ten A) 41)) := (Below.refl _ _).alloc (Nat.le_refl _) _
  have hE2 := hE1.below hbu
  have hs1 := Below.cell_same hbu hr1
  have hcells : ∀ i, i < 10 → (w1.alloc (.cells (ten A) 41)).cell? ⟨w1.heap.size, i, none⟩ = some (.iface 371 (.pointer (some (A (i + 1))))) := fun i hi => by
    rw [World.cell?_alloc_at _ _ _ _ rfl]; exact ten_get A i hi
  obtain ⟨W, hW⟩ : ∃ W, W = w1.alloc (.cells (ten A) 41) := ⟨_, rfl⟩
  have hgoal : w1.alloc (.cells #[.iface 371 (.pointer (some (A 1))), .iface 371 (.pointer (some (A 2))), .iface 371 (.pointer (some (A 3))), .iface 371 (.pointer (some (A 4))), .iface 371 (.pointer (some (A 5))), .iface 371 (.pointer (some (A 6))), .iface 371 (.pointer (some (A 7))), .iface 371 (.pointer (some (A 8))), .iface 371 (.pointer (some (A 9))), .iface 371 (.pointer (some (A 10)))] 41) = W := by rw [hW]; rfl
  rw [hgoal]
  rw [← hW] at hbt hE2 hs1 hcells
  clear hgoal hW hbu hE1 g1 g2 g3 g4 g5 g6 g7 g8 g9 g10 hE hr0 hr1 hc1
  go_loop [3, 28] (fun t i => ∃ k : Nat, t = .int .i64 at_ ∧ i = .int .i64 k ∧ k < n) (fun _ i => 10 - (intOf i).toNat)
  case atStart => exact ⟨0, rfl, rfl, by omega⟩
  case round =>
    obtain ⟨k, rfl, rfl, hk⟩ := hrel
    have hlt : k < 10 := by omega
    have hck := hcells k hlt
    obtain ⟨cb, tb, hcb⟩ := hE2.errs.row (k + 1) (mem_allErrs (by omega) (by omega))
    obtain ⟨ca, ta, hca⟩ := hE2.errs.row n (mem_allErrs (by omega) (by omega))
    by_cases hsame : n = k + 1
    · subst hsame
      go_wp2_with (go_at_call 125; refine (is_fault_same _ _ _ hs1).mono ?_; rintro e w2 ⟨rfl, rfl⟩)
      go_ret2
      exact ⟨rfl, hbt⟩
    · have hne : A n ≠ A (k + 1) := fun e => hsame (hE2.errs.inj _ (mem_allErrs (by omega) (by omega)) _ (mem_allErrs (by omega) (by omega)) e)
      go_wp2_with (go_at_call 125; refine (is_fault_other _ _ _ _ _ _ _ _ hs1 hne hca hcb).mono ?_; rintro e w2 ⟨rfl, rfl⟩)
      go_round
      case rel => exact ⟨k + 1, rfl, by go_num, by omega⟩
      case measure => simp [intOf]; omega
end Go.Proofs.Pw

namespace Go.Proofs.Pw
open Go.RowKit
theorem code_calls (i : Nat) (A : Nat → Addr) (w : World) (hE : EnvC A w) (hi : i ≤ 10) :
    Calls Tryz.prog 61 #[errV A i] w fun e w' => e = .returned (.tuple #[.int .i64 (i : Nat), .int .i64 (-1)]) ∧ Below w.heap.size w w' := by
  rcases Nat.eq_zero_or_pos i with rfl | h1
  · refine (code_nil w).mono ?_
    rintro e w' ⟨rfl, rfl⟩
    exact ⟨rfl, Below.refl _ _⟩
  · rw [errV_pos A (by omega)]
    obtain ⟨c, tc, hc⟩ := hE.errs.row i (mem_allErrs h1 hi)
    refine (code_any _ _ _ _ _ hE hc).mono ?_
    rintro e w1 ⟨⟨m, rfl, hm⟩, hb1⟩
    obtain rfl : m = i := by
      rcases hm with ⟨j, hj1, hj2, ha, rfl⟩ | ⟨h, _⟩
      · have := hE.errs.inj _ (mem_allErrs h1 hi) _ (mem_allErrs hj1 hj2) ha
        rw [this]
      · exact absurd rfl (h i h1 hi)
    exact ⟨rfl, hb1⟩
end Go.Proofs.Pw

namespace Go.Proofs.Pw
open Go.RowKit
open Go.Lib hiding intOf
theorem codeF_calls (A : Nat → Addr) (v : Value) (r : Nat × Int) (w : World) (hE : EnvC A w) (h : FaultAt A w v r) (hr : r.1 ≤ 10) :
    Calls Tryz.prog 61 #[v] w fun e w' => e = .returned (.tuple #[.int .i64 (r.1 : Nat), .int .i64 r.2]) ∧ Below w.heap.size w w' := by
  rcases h with ⟨h1, h2, rfl⟩ | ⟨h1, h2, rfl⟩ | ⟨h1, b, rfl, c3, c4⟩
  · rw [h1, h2]
    refine (code_nil w).mono ?_
    rintro e w' ⟨rfl, rfl⟩
    exact ⟨rfl, Below.refl _ _⟩
  · rw [h2]
    exact code_calls r.1 A w hE hr
  · exact code_fault b r.2 r.1 A w hE (by omega) hr c3 c4
theorem faulted3_calls (A : Nat → Addr) (v : Value) (r : Nat × Int) (w : World) (hE : EnvC A w) (h : FaultAt A w v r) (hr : r.1 ≤ 10) :
    Calls Tryz.prog 18 #[v, .agg #[.int .i64 (r.1 : Nat), .int .i64 r.2]] w fun e w' => e = .returned (.bool true) ∧ Below w.heap.size w w' := by
  have hB7 := below_alloc w (.cells #[.int .i64 (r.1 : Nat), .int .i64 r.2] 46)
  have hz := box2_alloc w (.int .i64 (r.1 : Nat)) (.int .i64 r.2) 46
  have hc := codeF_calls A v r _ (hE.below hB7) (h.below hB7) hr
  by_cases h0 : r.1 = 0
  · have h2 : r.2 = -1 := by
      rcases h with h | h | h
      · exact h.2.1
      · exact absurd h0 h.1
      · exact absurd h0 h.1
    rw [h0, h2] at hc hB7 hz ⊢
    clear h0 h2 h
    replace hc := Lib.hid hc
    go_enter Tryz.func18, Tryz.ntmps18
    obtain ⟨z0, z1, z2⟩ := id hz
    go_wp2_with fail
    refine (hc.out).mono ?_
    rintro e w1 ⟨rfl, hb⟩
    replace hB7 := below_step hB7 hb
    replace hz := hz.below hb
    clear hb
    obtain ⟨z0, z1, z2⟩ := id hz
    go_wp2_with fail
    go_ret
    exact ⟨rfl, hB7⟩
  · have hq : ((r.1 : Int) == 0) = false := beq_eq_false_iff_ne.2 (by omega)
    generalize r.2 = x at hc hz hB7 ⊢
    generalize r.1 = n at *
    clear h0 h
    replace hc := Lib.hid hc
    go_enter Tryz.func18, Tryz.ntmps18
    obtain ⟨z0, z1, z2⟩ := id hz
    go_wp2_with fail
    refine (hc.out).mono ?_
    rintro e w1 ⟨rfl, hb⟩
    replace hB7 := below_step hB7 hb
    replace hz := hz.below hb
    clear hb
    obtain ⟨z0, z1, z2⟩ := id hz
    go_wp2_with fail
    go_ret
    exact ⟨rfl, hB7⟩
end Go.Proofs.Pw

namespace Go.Proofs.Pw
open Go.RowKit
open Go.Lib hiding intOf
theorem firstE_le {g : Nat → Nat} (h : ∀ j, g j ≤ 10) : ∀ n, (firstE g n).1 ≤ 10
  | 0 => Nat.zero_le _
  | n + 1 => by
    rw [firstE]
    split
    · exact firstE_le h n
    · split
      · exact h n
      · exact Nat.zero_le _
theorem orE_le {a b : Nat × Int} (ha : a.1 ≤ 10) (hb : b.1 ≤ 10) : (orE a b).1 ≤ 10 := by
  unfold orE
  split
  · exact ha
  · exact hb
theorem mdErr_le (m : Md) : mdErr m ≤ 4 := modErr_le _ _
end Go.Proofs.Pw

namespace Go.Proofs.Pw
open Go.Lib hiding intOf
theorem reqE_le (p : Str) (l : List Md) (j : Nat) : reqE p l j ≤ 10 := by
  unfold reqE
  split
  · exact Nat.le_trans (mdErr_le _) (by decide)
  · split
    · decide
    · split <;> decide
theorem entErr_le (l : List En) (i : Nat) : entErr l i ≤ 10 := by
  unfold entErr
  split
  · exact Nat.le_trans (mdErr_le _) (by decide)
  · split
    · decide
    · split
      · unfold reqsErr
        split
        · decide
        · exact firstE_le (fun j => reqE_le _ _ j) _
      · unfold packsErr
        split
        · decide
        · split
          · refine firstE_le (fun j => ?_) _
            unfold packE
            split <;> decide
          · decide
theorem idxErr_le (l : List En) : (idxErr l).1 ≤ 10 := by
  unfold idxErr
  split
  · exact (by decide : 7 ≤ 10)
  · refine orE_le (firstE_le (fun j => entErr_le l j) _) (firstE_le (fun j => ?_) _)
    unfold lostE
    split <;> decide
theorem rootsErr_le (l : List En) (roots : List Md) : (rootsErr l roots).1 ≤ 10 := by
  unfold rootsErr
  refine firstE_le (fun j => ?_) _
  unfold rootE
  split <;> decide
theorem startErr_le (l : List En) (roots : List Md) : (startErr l roots).1 ≤ 10 := orE_le (idxErr_le l) (rootsErr_le l roots)
end Go.Proofs.Pw

namespace Go.Proofs.Pw
open Go.RowKit
open Go.Lib hiding intOf
def longEn (e : En) : Bool := decide (70 < e.md.1.length) || (decide (60 < e.md.2.length) || (longMods e.reqs 25 || (decide (15 < e.packs.length) || e.packs.any fun s => decide (70 < s.length))))
def longIdx (l : List En) : Bool := decide (30 < l.length ∧ l.length ≠ 101) || l.any longEn
def longII (l : List En) : Int := if longIdx l = true then 1 else 0
theorem longIdx_hit {l : List En} {k : Nat} (hk : k < l.length) (h : longEn (enAt l k) = true) : longII l = 1 := by
  unfold longII longIdx
  rw [if_pos]
  rw [Bool.or_eq_true]
  exact .inr (List.any_eq_true.2 ⟨_, enAt_mem hk, h⟩)
theorem longIdx_none {l : List En} (h0 : ¬ (30 < l.length ∧ l.length ≠ 101)) (h : ∀ j, j < l.length → longEn (enAt l j) = false) : longII l = 0 := by
  unfold longII longIdx
  rw [if_neg]
  rw [Bool.or_eq_true]
  rintro (h1 | h1)
  · exact h0 (of_decide_eq_true h1)
  · obtain ⟨e, he, h2⟩ := List.any_eq_true.1 h1
    obtain ⟨i, hi⟩ := List.getElem?_of_mem he
    have hl := (List.getElem?_eq_some_iff.1 hi).1
    rw [enAt_get hl] at hi
    rw [← Option.some.inj hi, h i hl] at h2
    cases h2
set_option maxHeartbeats 4000000 in
set_option maxRecDepth 100000 in
theorem longIndex_in (a : Option Addr) (n cap : Nat) (P V : Nat → ByteArray) (R : Nat → List Md) (K : Nat → List Str) (Bk : Nat → Bool) (Rv Kv : Nat → Value) (w : World) (h : EntsIn w a n cap P V R K Bk Rv Kv) :
    Calls Tryz.prog 10 #[.slice a n cap] w fun e w' => e = .returned (.int .i64 (longII (enF n P V R K Bk))) ∧ w = w' := by
  have hcap := h.cap
  have hle := h.le
  have H := Lib.hid h
  clear h
  by_cases h30 : 30 < n ∧ n ≠ 101
  · have HF : Hid (longII (enF n P V R K Bk) = 1) := Lib.hid (by
      unfold longII longIdx
      rw [if_pos]
      rw [Bool.or_eq_true, enF_length]
      exact .inl (decide_eq_true h30))
    have h1 : (30 : Int) < (n : Int) := by omega
    have h2 : ((n : Int) != 101) = true := bne_iff_ne.2 (by omega)
    have h3 : ((n : Int) == 101) = false := beq_eq_false_iff_ne.2 (by omega)
    clear h30
    go_enter Tryz.func10, Tryz.ntmps10
    go_wp2_with fail
    go_ret
    rw [HF.out]
    exact ⟨rfl, rfl⟩
  · have hn101 : n ≤ 101 := by omega
    by_cases h31 : n = 101
    · have h1 : (30 : Int) < (n : Int) := by omega
      have h2 : ((n : Int) != 101) = false := by subst h31; rfl
      have h3 : ((n : Int) == 101) = true := by subst h31; rfl
      clear h31
      go_enter Tryz.func10, Tryz.ntmps10
      go_wp2_with fail
      go_loop [3] (fun i => ∃ k : Nat, k ≤ n ∧ i = .int .i64 k ∧ Hid (∀ j, j < k → longEn (enAt (enF n P V R K Bk) j) = false)) (fun i => n - (intOf i).toNat)
      case atStart => exact ⟨0, Nat.zero_le _, rfl, Lib.hid (fun j hj => absurd hj (Nat.not_lt_zero _))⟩
      case round =>
        obtain ⟨k, hk, rfl, HA⟩ := hrel
        by_cases hlt : k < n
        · have hkn : (k : Int) < (n : Int) := by omega
          obtain ⟨b1, o1, ea, hcell⟩ := H.out.at_ k hlt
          have hM := H.out.reqs k hlt
          obtain ⟨aK, nK, cK, LK, eK, eKl, _, _, hKc⟩ := H.out.packs k hlt
          obtain ⟨aM, nM, cM, _, _, eM, _⟩ := id hM
          rw [eM, eK] at hcell
          rw [eM] at hM
          have hlm := longMods_calls (.slice aM nM cM) (R k) 25 w hM
          have hEn : longEn (enAt (enF n P V R K Bk) k) = (decide (70 < (P k).size) || (decide (60 < (V k).size) || (longMods (R k) 25 || (decide (15 < nK) || (lstF nK LK).any fun s => decide (70 < s.length))))) := by
            rw [enAt_enF hlt]
            unfold longEn
            simp only [← size_eq, eKl, lstF_length]
          have hhit : longEn (enAt (enF n P V R K Bk) k) = true → longII (enF n P V R K Bk) = 1 := longIdx_hit (by rw [enF_length]; exact hlt)
          subst ea
          obtain ⟨d0, d1, d2, d3, d4⟩ := hcell
          replace hhit := Lib.hid hhit
          replace hEn := Lib.hid hEn
          replace hlm := Lib.hid hlm
          replace hKc := Lib.hid hKc
          clear hM eM eK eKl
          by_cases c1 : 70 < (P k).size
          · have HF : Hid (longII (enF n P V R K Bk) = 1) := Lib.hid (hhit.out (by rw [hEn.out, decide_eq_true c1]; rfl))
            have c1' : (70 : Int) < ((P k).size : Int) := by omega
            go_wp2_with fail
            go_ret
            rw [HF.out]
            exact ⟨rfl, rfl⟩
          · have c1' : ¬ (70 : Int) < ((P k).size : Int) := by omega
            by_cases c2 : 60 < (V k).size
            · have HF : Hid (longII (enF n P V R K Bk) = 1) := Lib.hid (hhit.out (by rw [hEn.out, decide_eq_false c1, decide_eq_true c2]; rfl))
              have c2' : (60 : Int) < ((V k).size : Int) := by omega
              go_wp2_with fail
              go_ret
              rw [HF.out]
              exact ⟨rfl, rfl⟩
            · have c2' : ¬ (60 : Int) < ((V k).size : Int) := by omega
              cases c3 : longMods (R k) 25 with
              | true =>
                have HF : Hid (longII (enF n P V R K Bk) = 1) := Lib.hid (hhit.out (by rw [hEn.out, decide_eq_false c1, decide_eq_false c2, c3]; rfl))
                rw [longI_yes c3] at hlm
                clear c3
                go_wp2_with fail
                refine hlm.out.mono ?_
                rintro e w' ⟨rfl, rfl⟩
                go_wp2_with fail
                go_ret
                rw [HF.out]
                exact ⟨rfl, rfl⟩
              | false =>
                rw [longI_no c3] at hlm
                by_cases c4 : 15 < nK
                · have HF : Hid (longII (enF n P V R K Bk) = 1) := Lib.hid (hhit.out (by rw [hEn.out, decide_eq_false c1, decide_eq_false c2, c3, decide_eq_true c4]; rfl))
                  have c4' : (15 : Int) < (nK : Int) := by omega
                  clear c3
                  go_wp2_with fail
                  refine hlm.out.mono ?_
                  rintro e w' ⟨rfl, rfl⟩
                  go_wp2_with fail
                  go_ret
                  rw [HF.out]
                  exact ⟨rfl, rfl⟩
                · have c4' : ¬ (15 : Int) < (nK : Int) := by omega
                  have HE2 : Hid (longEn (enAt (enF n P V R K Bk) k) = (lstF nK LK).any fun s => decide (70 < s.length)) := Lib.hid (by rw [hEn.out, decide_eq_false c1, decide_eq_false c2, c3, decide_eq_false c4]; rfl)
                  clear c3
                  go_wp2_with fail
                  refine hlm.out.mono ?_
                  rintro e w' ⟨rfl, rfl⟩
                  go_wp2_with fail
                  go_loop [4] (fun i => ∃ q : Nat, q ≤ nK ∧ i = .int .i64 q ∧ Hid (∀ j, j < q → ¬ 70 < (LK j).size)) (fun i => nK - (intOf i).toNat)
                  case atStart => exact ⟨0, Nat.zero_le _, rfl, Lib.hid (fun j hj => absurd hj (Nat.not_lt_zero _))⟩
                  case round =>
                    obtain ⟨q, hq, rfl, HA2⟩ := hrel
                    by_cases hq2 : q < nK
                    · have hqn : (q : Int) < (nK : Int) := by omega
                      obtain ⟨b2, o2, ek, r0⟩ := hKc.out q hq2
                      subst ek
                      by_cases c5 : 70 < (LK q).size
                      · have HF : Hid (longII (enF n P V R K Bk) = 1) := Lib.hid (hhit.out (by
                          rw [HE2.out, List.any_eq_true]
                          refine ⟨_, List.mem_of_getElem? (show (lstF nK LK)[q]? = some (LK q).data.toList by simp [lstF, hq2]), ?_⟩
                          rw [← size_eq]; exact decide_eq_true c5))
                        have c5' : (70 : Int) < ((LK q).size : Int) := by omega
                        go_wp2_with fail
                        go_ret
                        rw [HF.out]
                        exact ⟨rfl, rfl⟩
                      · have c5' : ¬ (70 : Int) < ((LK q).size : Int) := by omega
                        have HN : Hid (∀ j, j < q + 1 → ¬ 70 < (LK j).size) := Lib.hid (fun j hj => by
                          by_cases e : j = q
                          · subst e; exact c5
                          · exact HA2.out j (by omega))
                        go_wp2_with fail
                        go_round
                        case rel => exact ⟨q + 1, by omega, by go_num, HN⟩
                        case measure => simp [intOf]; omega
                    · obtain rfl : nK = q := by omega
                      have HN : Hid (∀ j, j < k + 1 → longEn (enAt (enF n P V R K Bk) j) = false) := Lib.hid (fun j hj => by
                        by_cases e : j = k
                        · subst e
                          rw [HE2.out, List.any_eq_false]
                          intro s hs
                          obtain ⟨i, hi⟩ := List.getElem?_of_mem hs
                          have hil : i < nK := by have := (List.getElem?_eq_some_iff.1 hi).1; simpa [lstF] using this
                          have : (lstF nK LK)[i]? = some (LK i).data.toList := by simp [lstF, hil]
                          rw [this] at hi
                          rw [← Option.some.inj hi, ← size_eq]
                          have := HA2.out i hil
                          simpa using this
                        · exact HA.out j (by omega))
                      go_wp2_with fail
                      go_round
                      case rel => exact ⟨k + 1, by omega, by go_num, HN⟩
                      case measure => simp [intOf]; omega
        · obtain rfl : n = k := by omega
          have HF : Hid (longII (enF n P V R K Bk) = 0) := Lib.hid (longIdx_none (by rw [enF_length]; exact h30) (by rw [enF_length]; exact HA.out))
          go_wp2_with fail
          go_ret
          rw [HF.out]
          exact ⟨rfl, rfl⟩
    · have h1 : ¬ (30 : Int) < (n : Int) := by omega
      clear h31
      go_enter Tryz.func10, Tryz.ntmps10
      go_wp2_with fail
      go_loop [3] (fun i => ∃ k : Nat, k ≤ n ∧ i = .int .i64 k ∧ Hid (∀ j, j < k → longEn (enAt (enF n P V R K Bk) j) = false)) (fun i => n - (intOf i).toNat)
      case atStart => exact ⟨0, Nat.zero_le _, rfl, Lib.hid (fun j hj => absurd hj (Nat.not_lt_zero _))⟩
      case round =>
        obtain ⟨k, hk, rfl, HA⟩ := hrel
        by_cases hlt : k < n
        · have hkn : (k : Int) < (n : Int) := by omega
          obtain ⟨b1, o1, ea, hcell⟩ := H.out.at_ k hlt
          have hM := H.out.reqs k hlt
          obtain ⟨aK, nK, cK, LK, eK, eKl, _, _, hKc⟩ := H.out.packs k hlt
          obtain ⟨aM, nM, cM, _, _, eM, _⟩ := id hM
          rw [eM, eK] at hcell
          rw [eM] at hM
          have hlm := longMods_calls (.slice aM nM cM) (R k) 25 w hM
          have hEn : longEn (enAt (enF n P V R K Bk) k) = (decide (70 < (P k).size) || (decide (60 < (V k).size) || (longMods (R k) 25 || (decide (15 < nK) || (lstF nK LK).any fun s => decide (70 < s.length))))) := by
            rw [enAt_enF hlt]
            unfold longEn
            simp only [← size_eq, eKl, lstF_length]
          have hhit : longEn (enAt (enF n P V R K Bk) k) = true → longII (enF n P V R K Bk) = 1 := longIdx_hit (by rw [enF_length]; exact hlt)
          subst ea
          obtain ⟨d0, d1, d2, d3, d4⟩ := hcell
          replace hhit := Lib.hid hhit
          replace hEn := Lib.hid hEn
          replace hlm := Lib.hid hlm
          replace hKc := Lib.hid hKc
          clear hM eM eK eKl
          by_cases c1 : 70 < (P k).size
          · have HF : Hid (longII (enF n P V R K Bk) = 1) := Lib.hid (hhit.out (by rw [hEn.out, decide_eq_true c1]; rfl))
            have c1' : (70 : Int) < ((P k).size : Int) := by omega
            go_wp2_with fail
            go_ret
            rw [HF.out]
            exact ⟨rfl, rfl⟩
          · have c1' : ¬ (70 : Int) < ((P k).size : Int) := by omega
            by_cases c2 : 60 < (V k).size
            · have HF : Hid (longII (enF n P V R K Bk) = 1) := Lib.hid (hhit.out (by rw [hEn.out, decide_eq_false c1, decide_eq_true c2]; rfl))
              have c2' : (60 : Int) < ((V k).size : Int) := by omega
              go_wp2_with fail
              go_ret
              rw [HF.out]
              exact ⟨rfl, rfl⟩
            · have c2' : ¬ (60 : Int) < ((V k).size : Int) := by omega
              cases c3 : longMods (R k) 25 with
              | true =>
                have HF : Hid (longII (enF n P V R K Bk) = 1) := Lib.hid (hhit.out (by rw [hEn.out, decide_eq_false c1, decide_eq_false c2, c3]; rfl))
                rw [longI_yes c3] at hlm
                clear c3
                go_wp2_with fail
                refine hlm.out.mono ?_
                rintro e w' ⟨rfl, rfl⟩
                go_wp2_with fail
                go_ret
                rw [HF.out]
                exact ⟨rfl, rfl⟩
              | false =>
                rw [longI_no c3] at hlm
                by_cases c4 : 15 < nK
                · have HF : Hid (longII (enF n P V R K Bk) = 1) := Lib.hid (hhit.out (by rw [hEn.out, decide_eq_false c1, decide_eq_false c2, c3, decide_eq_true c4]; rfl))
                  have c4' : (15 : Int) < (nK : Int) := by omega
                  clear c3
                  go_wp2_with fail
                  refine hlm.out.mono ?_
                  rintro e w' ⟨rfl, rfl⟩
                  go_wp2_with fail
                  go_ret
                  rw [HF.out]
                  exact ⟨rfl, rfl⟩
                · have c4' : ¬ (15 : Int) < (nK : Int) := by omega
                  have HE2 : Hid (longEn (enAt (enF n P V R K Bk) k) = (lstF nK LK).any fun s => decide (70 < s.length)) := Lib.hid (by rw [hEn.out, decide_eq_false c1, decide_eq_false c2, c3, decide_eq_false c4]; rfl)
                  clear c3
                  go_wp2_with fail
                  refine hlm.out.mono ?_
                  rintro e w' ⟨rfl, rfl⟩
                  go_wp2_with fail
                  go_loop [4] (fun i => ∃ q : Nat, q ≤ nK ∧ i = .int .i64 q ∧ Hid (∀ j, j < q → ¬ 70 < (LK j).size)) (fun i => nK - (intOf i).toNat)
                  case atStart => exact ⟨0, Nat.zero_le _, rfl, Lib.hid (fun j hj => absurd hj (Nat.not_lt_zero _))⟩
                  case round =>
                    obtain ⟨q, hq, rfl, HA2⟩ := hrel
                    by_cases hq2 : q < nK
                    · have hqn : (q : Int) < (nK : Int) := by omega
                      obtain ⟨b2, o2, ek, r0⟩ := hKc.out q hq2
                      subst ek
                      by_cases c5 : 70 < (LK q).size
                      · have HF : Hid (longII (enF n P V R K Bk) = 1) := Lib.hid (hhit.out (by
                          rw [HE2.out, List.any_eq_true]
                          refine ⟨_, List.mem_of_getElem? (show (lstF nK LK)[q]? = some (LK q).data.toList by simp [lstF, hq2]), ?_⟩
                          rw [← size_eq]; exact decide_eq_true c5))
                        have c5' : (70 : Int) < ((LK q).size : Int) := by omega
                        go_wp2_with fail
                        go_ret
                        rw [HF.out]
                        exact ⟨rfl, rfl⟩
                      · have c5' : ¬ (70 : Int) < ((LK q).size : Int) := by omega
                        have HN : Hid (∀ j, j < q + 1 → ¬ 70 < (LK j).size) := Lib.hid (fun j hj => by
                          by_cases e : j = q
                          · subst e; exact c5
                          · exact HA2.out j (by omega))
                        go_wp2_with fail
                        go_round
                        case rel => exact ⟨q + 1, by omega, by go_num, HN⟩
                        case measure => simp [intOf]; omega
                    · obtain rfl : nK = q := by omega
                      have HN : Hid (∀ j, j < k + 1 → longEn (enAt (enF n P V R K Bk) j) = false) := Lib.hid (fun j hj => by
                        by_cases e : j = k
                        · subst e
                          rw [HE2.out, List.any_eq_false]
                          intro s hs
                          obtain ⟨i, hi⟩ := List.getElem?_of_mem hs
                          have hil : i < nK := by have := (List.getElem?_eq_some_iff.1 hi).1; simpa [lstF] using this
                          have : (lstF nK LK)[i]? = some (LK i).data.toList := by simp [lstF, hil]
                          rw [this] at hi
                          rw [← Option.some.inj hi, ← size_eq]
                          have := HA2.out i hil
                          simpa using this
                        · exact HA.out j (by omega))
                      go_wp2_with fail
                      go_round
                      case rel => exact ⟨k + 1, by omega, by go_num, HN⟩
                      case measure => simp [intOf]; omega
        · obtain rfl : n = k := by omega
          have HF : Hid (longII (enF n P V R K Bk) = 0) := Lib.hid (longIdx_none (by rw [enF_length]; exact h30) (by rw [enF_length]; exact HA.out))
          go_wp2_with fail
          go_ret
          rw [HF.out]
          exact ⟨rfl, rfl⟩
end Go.Proofs.Pw

namespace Go.Proofs.Pw
open Go.Lib hiding intOf
theorem longMods_small {l : List Md} {k : Nat} (h : longMods l k = false) : l.length ≤ k ∧ ∀ m ∈ l, m.1.length ≤ 70 ∧ m.2.length ≤ 60 := by
  unfold longMods at h
  rw [Bool.or_eq_false_iff] at h
  refine ⟨by have := of_decide_eq_false h.1; omega, fun m hm => ?_⟩
  have h2 := List.any_eq_false.1 h.2 m hm
  simp only [Bool.or_eq_true, decide_eq_true_eq] at h2
  omega
theorem longEn_small {e : En} (h : longEn e = false) : e.md.1.length ≤ 70 ∧ e.md.2.length ≤ 60 ∧ longMods e.reqs 25 = false ∧ e.packs.length ≤ 15 ∧ ∀ s ∈ e.packs, s.length ≤ 70 := by
  unfold longEn at h
  rw [Bool.or_eq_false_iff, Bool.or_eq_false_iff, Bool.or_eq_false_iff, Bool.or_eq_false_iff] at h
  obtain ⟨h1, h2, h3, h4, h5⟩ := h
  refine ⟨by have := of_decide_eq_false h1; omega, by have := of_decide_eq_false h2; omega, h3, by have := of_decide_eq_false h4; omega, fun s hs => ?_⟩
  have := List.any_eq_false.1 h5 s hs
  simp only [decide_eq_true_eq] at this
  omega
theorem longIdx_small {l : List En} (h : longIdx l = false) : l.length ≤ 101 ∧ ∀ e ∈ l, longEn e = false := by
  unfold longIdx at h
  rw [Bool.or_eq_false_iff] at h
  refine ⟨by have := of_decide_eq_false h.1; omega, fun e he => ?_⟩
  have := List.any_eq_false.1 h.2 e he
  simpa using this
theorem longIdx_short {l : List En} (h : longIdx l = false) : ShortI l := by
  obtain ⟨h1, h2⟩ := longIdx_small h
  refine ⟨by omega, fun e he => ?_, fun e he => ?_, fun e he => ?_⟩
  · have := longEn_small (h2 e he); omega
  · have h3 := longMods_small (longEn_small (h2 e he)).2.2.1
    exact ⟨by omega, fun m hm => by have := h3.2 m hm; omega⟩
  · have h3 := longEn_small (h2 e he)
    exact ⟨by omega, fun s hs => by have := h3.2.2.2.2 s hs; omega⟩
theorem longII_no {l : List En} (h : longIdx l = false) : longII l = 0 := by unfold longII; rw [h]; rfl
theorem longII_yes {l : List En} (h : longIdx l = true) : longII l = 1 := by unfold longII; rw [h]; rfl
end Go.Proofs.Pw
