/- Ia: walks and plain laws, joined: Code Coded Indexed. Conditions: at each theorem. -/
import Derived.Test.YtnanklfbmmionaaGreatDoorIas
import Derived.Test.YtnanklfbmmionaaGreatDoorIab
import Derived.WalkLawsBesides
import Derived.WalkSpells
import Derived.Stop.IfaceNil
import Derived.Test.YtnanklfbmmionaaGreatDoorIal
import Derived.Test.YtnanklfbmmionaaGreatDoorIai
import Derived.Test.YtnanklfbmmionaaGreatDoorIar
import Derived.Test.YtnanklfbmmionaaGreatDoorIag

namespace Go.Proofs.Pw
open Go.RowKit
structure EnvC (A : Nat → Addr) (w : World) : Prop where
  errs : EnvE allErrs A w
  handle : w.cell? ⟨10, 0, none⟩ = some (.iface 257 (.agg #[.pointer (some ⟨19, 41, none⟩)]))
theorem EnvC.below {A : Nat → Addr} {w w' : World} (h : EnvC A w) (hb : Below w.heap.size w w') : EnvC A w' := ⟨h.errs.below hb, Below.cell_same hb h.handle⟩
theorem Tryz.isIface_error : Tryz.prog.isIface 41 = true := by kernel_rfl
theorem code_nil (w : World) : Calls Tryz.prog 78 #[.nilIface] w fun e w' => e = .returned (.tuple #[.int .i64 0, .int .i64 (-1)]) ∧ w = w' := by
  go_enter Tryz.func78, Tryz.ntmps78
  go_wp2_with fail
  go_ret2
  exact ⟨rfl, rfl⟩
def ten (A : Nat → Addr) : Array Value := #[errP (A 1), errP (A 2), errP (A 3), errP (A 4), errP (A 5), errP (A 6), errP (A 7), errP (A 8), errP (A 9), errP (A 10)]
where errP (a : Addr) : Value := .iface 317 (.pointer (some a))
theorem ten_get (A : Nat → Addr) : ∀ i, i < 10 → (ten A)[i]? = some (.iface 317 (.pointer (some (A (i + 1)))))
  | 0, _ | 1, _ | 2, _ | 3, _ | 4, _ | 5, _ | 6, _ | 7, _ | 8, _ | 9, _ => rfl
  | _ + 10, h => absurd h (by omega)
def CodeIs (A : Nat → Addr) (a : Addr) (n : Int) : Prop := (∃ k : Nat, 1 ≤ k ∧ k ≤ 10 ∧ a = A k ∧ n = k) ∨ ((∀ k : Nat, 1 ≤ k → k ≤ 10 → a ≠ A k) ∧ n = -1)
set_option maxHeartbeats 1000000 in
set_option maxRecDepth 100000 in
theorem code_any (a : Addr) (c : Array Value) (ta : TypeId) (A : Nat → Addr) (w : World) (hE : EnvC A w) (ha : w.heap[a.block]? = some (.cells c ta (0, 0))) :
    Calls Tryz.prog 78 #[.iface 317 (.pointer (some a))] w fun e w' =>
      (∃ n : Int, e = .returned (.tuple #[.int .i64 n, .int .i64 (-1)]) ∧ CodeIs A a n) ∧ Below w.heap.size w w' := by
  have hT := Tryz.isIface_error
  have hb0 : Below w.heap.size w (w.alloc (.cells #[.pointer none] 118)) := (Below.refl _ _).alloc (Nat.le_refl _) _
  have hE0 := hE.below hb0
  have ha0 := Below.row_same hb0 ha
  have ht0 : (w.alloc (.cells #[.pointer none] 118)).cell? ⟨w.heap.size, 0, none⟩ = some (.pointer none) := by simp
  have hf0 : (w.alloc (.cells #[.pointer none] 118)).frozen? ⟨w.heap.size, 0, none⟩ = false := by simp
  have hz0 : w.heap.size ≤ (w.alloc (.cells #[.pointer none] 118)).heap.size := hb0.size
  go_enter Tryz.func78, Tryz.ntmps78
  go_wp2_with fail
  refine (as_miss a ⟨w.heap.size, 0, none⟩ (.pointer none) _ hE0.handle ht0 hf0).mono ?_
  rintro e w1 ⟨rfl, hb1⟩
  have hb01 := hb0.trans (hb1.mono hz0)
  have hE1 := hE0.below hb1
  have ha1 := Below.row_same hb1 ha0
  have g1 := hE1.errs.var 1 (mem_allErrs (by decide) (by decide))
  have g2 := hE1.errs.var 2 (mem_allErrs (by decide) (by decide))
  have g3 := hE1.errs.var 3 (mem_allErrs (by decide) (by decide))
  have g4 := hE1.errs.var 4 (mem_allErrs (by decide) (by decide))
  have g5 := hE1.errs.var 5 (mem_allErrs (by decide) (by decide))
  have g6 := hE1.errs.var 6 (mem_allErrs (by decide) (by decide))
  have g7 := hE1.errs.var 7 (mem_allErrs (by decide) (by decide))
  have g8 := hE1.errs.var 8 (mem_allErrs (by decide) (by decide))
  have g9 := hE1.errs.var 9 (mem_allErrs (by decide) (by decide))
  have g10 := hE1.errs.var 10 (mem_allErrs (by decide) (by decide))
  simp only [errG] at g1 g2 g3 g4 g5 g6 g7 g8 g9 g10
  clear ht0 hf0 hE0 hb0 ha0 hb1
  go_wp2_with fail
  have hbt : Below w.heap.size w (w1.alloc (.cells (ten A) 41)) := hb01.alloc hb01.size _
  have hbu : Below w1.heap.size w1 (w1.alloc (.cells (ten A) 41)) := (Below.refl _ _).alloc (Nat.le_refl _) _
  have hE2 := hE1.below hbu
  have ha2 := Below.row_same hbu ha1
  have hcells : ∀ i, i < 10 → (w1.alloc (.cells (ten A) 41)).cell? ⟨w1.heap.size, i, none⟩ = some (.iface 317 (.pointer (some (A (i + 1))))) := fun i hi => by
    rw [World.cell?_alloc_at _ _ _ _ rfl]; exact ten_get A i hi
  obtain ⟨W, hW⟩ : ∃ W, W = w1.alloc (.cells (ten A) 41) := ⟨_, rfl⟩
  have hgoal : w1.alloc (.cells #[.iface 317 (.pointer (some (A 1))), .iface 317 (.pointer (some (A 2))), .iface 317 (.pointer (some (A 3))), .iface 317 (.pointer (some (A 4))), .iface 317 (.pointer (some (A 5))), .iface 317 (.pointer (some (A 6))), .iface 317 (.pointer (some (A 7))), .iface 317 (.pointer (some (A 8))), .iface 317 (.pointer (some (A 9))), .iface 317 (.pointer (some (A 10)))] 41) = W := by rw [hW]; rfl
  rw [hgoal]
  rw [← hW] at hbt hE2 ha2 hcells
  clear hgoal hW hbu hE1 ha1 g1 g2 g3 g4 g5 g6 g7 g8 g9 g10 hE ha
  go_loop [3, 28] (fun t i => ∃ k : Nat, k ≤ 10 ∧ t = .int .i64 (-1) ∧ i = .int .i64 k ∧ Hid (∀ j, j < k → a ≠ A (j + 1))) (fun _ i => 10 - (intOf i).toNat)
  case atStart => exact ⟨0, by omega, rfl, rfl, fun _ h => absurd h (Nat.not_lt_zero _)⟩
  case round =>
    obtain ⟨k, hk, rfl, rfl, HA⟩ := hrel
    by_cases hlt : k < 10
    · have hck := hcells k hlt
      obtain ⟨cb, tb, hcb⟩ := hE2.errs.row (k + 1) (mem_allErrs (by omega) (by omega))
      by_cases hsame : a = A (k + 1)
      · subst hsame
        go_wp2_with (go_at_call 148; refine (is_same _ _).mono ?_; rintro e w2 ⟨rfl, rfl⟩)
        go_ret2
        exact ⟨⟨(k : Int) + 1, rfl, .inl ⟨k + 1, by omega, by omega, rfl, by omega⟩⟩, hbt⟩
      · go_wp2_with (go_at_call 148; refine (is_other _ _ _ _ _ _ _ hsame ha2 hcb).mono ?_; rintro e w2 ⟨rfl, rfl⟩)
        go_round
        case rel =>
          refine ⟨k + 1, by omega, rfl, by go_num, ?_⟩
          intro j hj
          rcases Nat.lt_or_ge j k with h | h
          · exact HA.out j h
          · obtain rfl : j = k := by omega
            exact hsame
        case measure => simp [intOf]; omega
    · obtain rfl : k = 10 := by omega
      go_wp2_with fail
      go_ret2
      refine ⟨⟨-1, rfl, .inr ⟨fun k h1 h2 => ?_, rfl⟩⟩, hbt⟩
      have := HA.out (k - 1) (by omega)
      rwa [Nat.sub_add_cancel h1] at this
theorem as_hit2 (e t : Addr) (old : Value) (w : World) (hg : w.cell? ⟨10, 0, none⟩ = some (.iface 257 (.agg #[.pointer (some ⟨19, 41, none⟩)]))) (ht0 : w.cell? t = some old) (hf0 : w.frozen? t = false) :
    Calls Tryz.prog 147 #[.iface 118 (.pointer (some e)), .iface 183 (.pointer (some t))] w fun ev w' => ev = .returned (.bool true) ∧ w'.cell? t = some (.pointer (some e)) ∧ Below t.block w w' := by
  have hlt : t.block < w.heap.size := World.block_lt_of_cell? w _ ht0
  refine (as_hit e t old w hg ht0 hf0).mono fun ev w' ⟨h1, h2⟩ => ⟨h1, ?_, ?_⟩
  · rw [h2]
    exact World.cell?_setCell_same _ _ _ (u := old) (by rw [World.cell?_alloc_lt _ _ t (by simp; omega), World.cell?_alloc_lt _ _ t (by simp; omega), World.cell?_alloc_lt _ _ t (by simp; omega), World.cell?_alloc_lt _ _ t hlt]; exact ht0)
  · rw [h2]
    exact ((((((Below.refl _ _).alloc (by omega) _).alloc (by simp; omega) _).alloc (by simp; omega) _).alloc (by simp; omega) _)).setCell (Nat.le_refl _) _
set_option maxHeartbeats 1000000 in
set_option maxRecDepth 100000 in
theorem code_fault (pb : Nat) (at_ : Int) (n : Nat) (A : Nat → Addr) (w : World) (hE : EnvC A w) (h1 : 1 ≤ n) (h2 : n ≤ 10) (hp0 : w.cell? ⟨pb, 0, none⟩ = some (.int .i64 at_)) (hp1 : w.cell? ⟨pb, 1, none⟩ = some (errV A n)) :
    Calls Tryz.prog 78 #[.iface 118 (.pointer (some ⟨pb, 0, none⟩))] w fun e w' => e = .returned (.tuple #[.int .i64 n, .int .i64 at_]) ∧ Below w.heap.size w w' := by
  have hT := Tryz.isIface_error
  have hb0 : Below w.heap.size w (w.alloc (.cells #[.pointer none] 118)) := (Below.refl _ _).alloc (Nat.le_refl _) _
  have hE0 := hE.below hb0
  rw [errV_pos A (by omega)] at hp1
  have hq0 := Below.cell_same hb0 hp0
  have hq1 := Below.cell_same hb0 hp1
  have hpl : pb < w.heap.size := World.block_lt_of_cell? w _ hp0
  have ht0 : (w.alloc (.cells #[.pointer none] 118)).cell? ⟨w.heap.size, 0, none⟩ = some (.pointer none) := by simp
  have hf0 : (w.alloc (.cells #[.pointer none] 118)).frozen? ⟨w.heap.size, 0, none⟩ = false := by simp
  have hz0 : w.heap.size ≤ (w.alloc (.cells #[.pointer none] 118)).heap.size := hb0.size
  go_enter Tryz.func78, Tryz.ntmps78
  go_wp2_with fail
  refine (as_hit2 ⟨pb, 0, none⟩ ⟨w.heap.size, 0, none⟩ (.pointer none) _ hE0.handle ht0 hf0).mono ?_
  rintro e w1 ⟨rfl, hc1, hb1⟩
  have hb01 : Below w.heap.size w w1 := hb0.trans hb1
  have hE1 := hE.below hb01
  have hr0 := Below.cell_same hb01 hp0
  have hr1 := Below.cell_same hb01 hp1
  have g1 := hE1.errs.var 1 (mem_allErrs (by decide) (by decide))
  have g2 := hE1.errs.var 2 (mem_allErrs (by decide) (by decide))
  have g3 := hE1.errs.var 3 (mem_allErrs (by decide) (by decide))
  have g4 := hE1.errs.var 4 (mem_allErrs (by decide) (by decide))
  have g5 := hE1.errs.var 5 (mem_allErrs (by decide) (by decide))
  have g6 := hE1.errs.var 6 (mem_allErrs (by decide) (by decide))
  have g7 := hE1.errs.var 7 (mem_allErrs (by decide) (by decide))
  have g8 := hE1.errs.var 8 (mem_allErrs (by decide) (by decide))
  have g9 := hE1.errs.var 9 (mem_allErrs (by decide) (by decide))
  have g10 := hE1.errs.var 10 (mem_allErrs (by decide) (by decide))
  simp only [errG] at g1 g2 g3 g4 g5 g6 g7 g8 g9 g10
  clear ht0 hf0 hE0 hb0 hq0 hq1 hb1 hp0 hp1
  go_wp2_with fail
  have hbt : Below w.heap.size w (w1.alloc (.cells (ten A) 41)) := hb01.alloc hb01.size _
  have hbu : Below w1.heap.size w1 (w1.alloc (.cells (ten A) 41)) := (Below.refl _ _).alloc (Nat.le_refl _) _
  have hE2 := hE1.below hbu
  have hs1 := Below.cell_same hbu hr1
  have hcells : ∀ i, i < 10 → (w1.alloc (.cells (ten A) 41)).cell? ⟨w1.heap.size, i, none⟩ = some (.iface 317 (.pointer (some (A (i + 1))))) := fun i hi => by
    rw [World.cell?_alloc_at _ _ _ _ rfl]; exact ten_get A i hi
  obtain ⟨W, hW⟩ : ∃ W, W = w1.alloc (.cells (ten A) 41) := ⟨_, rfl⟩
  have hgoal : w1.alloc (.cells #[.iface 317 (.pointer (some (A 1))), .iface 317 (.pointer (some (A 2))), .iface 317 (.pointer (some (A 3))), .iface 317 (.pointer (some (A 4))), .iface 317 (.pointer (some (A 5))), .iface 317 (.pointer (some (A 6))), .iface 317 (.pointer (some (A 7))), .iface 317 (.pointer (some (A 8))), .iface 317 (.pointer (some (A 9))), .iface 317 (.pointer (some (A 10)))] 41) = W := by rw [hW]; rfl
  rw [hgoal]
  rw [← hW] at hbt hE2 hs1 hcells
  clear hgoal hW hbu hE1 g1 g2 g3 g4 g5 g6 g7 g8 g9 g10 hE hr0 hr1 hc1
  go_loop [3, 28] (fun t i => ∃ k : Nat, t = .int .i64 at_ ∧ i = .int .i64 k ∧ k < n) (fun _ i => 10 - (intOf i).toNat)
  case atStart => exact ⟨0, rfl, rfl, by omega⟩
  case round =>
    obtain ⟨k, rfl, rfl, hk⟩ := hrel
    have hlt : k < 10 := by omega
    have hck := hcells k hlt
    obtain ⟨cb, tb, hcb⟩ := hE2.errs.row (k + 1) (mem_allErrs (by omega) (by omega))
    obtain ⟨ca, ta, hca⟩ := hE2.errs.row n (mem_allErrs (by omega) (by omega))
    by_cases hsame : n = k + 1
    · subst hsame
      go_wp2_with (go_at_call 148; refine (is_fault_same _ _ _ hs1).mono ?_; rintro e w2 ⟨rfl, rfl⟩)
      go_ret2
      exact ⟨rfl, hbt⟩
    · have hne : A n ≠ A (k + 1) := fun e => hsame (hE2.errs.inj _ (mem_allErrs (by omega) (by omega)) _ (mem_allErrs (by omega) (by omega)) e)
      go_wp2_with (go_at_call 148; refine (is_fault_other _ _ _ _ _ _ _ _ hs1 hne hca hcb).mono ?_; rintro e w2 ⟨rfl, rfl⟩)
      go_round
      case rel => exact ⟨k + 1, rfl, by go_num, by omega⟩
      case measure => simp [intOf]; omega
end Go.Proofs.Pw

namespace Go.Proofs.Pw
open Go.RowKit
theorem code_calls (i : Nat) (A : Nat → Addr) (w : World) (hE : EnvC A w) (hi : i ≤ 10) :
    Calls Tryz.prog 78 #[errV A i] w fun e w' => e = .returned (.tuple #[.int .i64 (i : Nat), .int .i64 (-1)]) ∧ Below w.heap.size w w' := by
  rcases Nat.eq_zero_or_pos i with rfl | h1
  · refine (code_nil w).mono ?_
    rintro e w' ⟨rfl, rfl⟩
    exact ⟨rfl, Below.refl _ _⟩
  · rw [errV_pos A (by omega)]
    obtain ⟨c, tc, hc⟩ := hE.errs.row i (mem_allErrs h1 hi)
    refine (code_any _ _ _ _ _ hE hc).mono ?_
    rintro e w1 ⟨⟨m, rfl, hm⟩, hb1⟩
    obtain rfl : m = i := by
      rcases hm with ⟨j, hj1, hj2, ha, rfl⟩ | ⟨h, _⟩
      · have := hE.errs.inj _ (mem_allErrs h1 hi) _ (mem_allErrs hj1 hj2) ha
        rw [this]
      · exact absurd rfl (h i h1 hi)
    exact ⟨rfl, hb1⟩
theorem coded_calls (i j : Nat) (A : Nat → Addr) (w : World) (hE : EnvC A w) (hi : i ≤ 10) :
    Calls Tryz.prog 133 #[errV A i, .int .i64 (j : Nat)] w fun e w' => e = .returned (.bool (decide (i = j))) ∧ Below w.heap.size w w' := by
  have hc := code_calls i A w hE hi
  generalize errV A i = v at hc ⊢
  by_cases hij : i = j
  · subst hij
    go_enter Tryz.func133, Tryz.ntmps133
    go_wp2_with fail
    refine hc.mono ?_
    rintro e w1 ⟨rfl, hb1⟩
    go_wp2_with fail
    go_ret
    exact ⟨by simp, hb1⟩
  · have hq : ((i : Int) == (j : Int)) = false := beq_eq_false_iff_ne.2 (by omega)
    have HD := Lib.hid (decide_eq_false hij)
    clear hij
    go_enter Tryz.func133, Tryz.ntmps133
    go_wp2_with fail
    refine hc.mono ?_
    rintro e w1 ⟨rfl, hb1⟩
    go_wp2_with fail
    go_ret
    rw [HD.out]
    exact ⟨rfl, hb1⟩
end Go.Proofs.Pw

namespace Go.Proofs.Pw
open Go.RowKit
open Go.Lib hiding intOf
def v110rc : ByteArray := ⟨#[118, 49, 46, 49, 46, 48, 45, 114, 99]⟩
def ixP (_ : Nat) : ByteArray := sA
def ixV (j : Nat) : ByteArray := if j = 0 then v100 else v110rc
def ixR (_ : Nat) : List Md := []
def ixL : List En := enF 2 ixP ixV ixR smK smB
theorem ix_err : idxErr ixL = (0, -1) := by decide +kernel
theorem ix_latest : latestL ixL sA.data.toList = v100.data.toList := by decide +kernel
theorem ix_find : findE ixL (sA.data.toList, v110rc.data.toList) = 1 := by decide +kernel
theorem ix_short : ShortI ixL := by
  refine ⟨by decide +kernel, ?_, ?_, ?_⟩
  · decide +kernel
  · intro e he
    have : ∀ e ∈ ixL, e.reqs.length ≤ 1000000 ∧ ∀ m ∈ e.reqs, m.1.length ≤ 1000000 ∧ m.2.length ≤ 1000000 := by decide +kernel
    exact this e he
  · decide +kernel
def ixW (w : World) : World := w.alloc (.cells #[.string sA, .string v100, .slice none 0 0, .slice none 0 0, .bool false, .string sA, .string v110rc, .slice none 0 0, .slice none 0 0, .bool false] 37)
theorem ixW_below (w : World) : Below w.heap.size w (ixW w) := below_alloc w _
theorem ixW_cell (w : World) : ∀ (c : Nat) (u : Value), ([.string sA, .string v100, .slice none 0 0, .slice none 0 0, .bool false, .string sA, .string v110rc, .slice none 0 0, .slice none 0 0, .bool false] : List Value)[c]? = some u → (ixW w).cell? ⟨w.heap.size, c, none⟩ = some u :=
  fun _ _ h => new_cell w _ 37 rfl h
theorem ixW_in (w : World) : EntsIn (ixW w) (some ⟨w.heap.size, 0, none⟩) 2 2 ixP ixV ixR smK smB (fun _ => .slice none 0 0) (fun _ => .slice none 0 0) := by
  have hc := ixW_cell w
  refine ⟨Nat.le_refl _, by decide, fun j hj => ⟨w.heap.size, 0, rfl, ?_⟩, fun _ _ => ModsAt.nil _, fun _ _ => StrsAt.nil _⟩
  match j, hj with
  | 0, _ => exact ⟨hc _ _ rfl, hc _ _ rfl, hc _ _ rfl, hc _ _ rfl, hc _ _ rfl⟩
  | 1, _ => exact ⟨hc _ _ rfl, hc _ _ rfl, hc _ _ rfl, hc _ _ rfl, hc _ _ rfl⟩
set_option maxHeartbeats 2000000 in
set_option maxRecDepth 100000 in
theorem indexed_calls (ks : List Nat) (A : Nat → Addr) (hks : IdxKs ks) (w : World) (hE : EnvP ks A w) (hEC : EnvC A w) :
    Calls Tryz.prog 58 #[] w fun e w' => e = .returned (.bool true) ∧ Below w.heap.size w w' := by
  have hB := ixW_below w
  have hi := fun (W : World) (hb : Below (ixW w).heap.size (ixW w) W) => (ixW_in w).below hb
  have hck := idxCheck_in ks A hks (some ⟨w.heap.size, 0, none⟩) 2 2 ixP ixV ixR smK smB (fun _ => .slice none 0 0) (fun _ => .slice none 0 0) (ixW w) (hE.below hB) (ixW_in w) ix_short
  have hco := fun (W : World) (hb : Below (ixW w).heap.size (ixW w) W) => coded_calls 0 0 A W ((hEC.below hB).below hb) (by decide)
  have hla := fun (W : World) (hb : Below (ixW w).heap.size (ixW w) W) => idxLatest_in ks A (some ⟨w.heap.size, 0, none⟩) 2 2 ixP ixV ixR smK smB (fun _ => .slice none 0 0) (fun _ => .slice none 0 0) sA W ((hE.below hB).below hb) (hi W hb) ix_short
  have hfi := fun (W : World) (hb : Below (ixW w).heap.size (ixW w) W) => idxFind_in (some ⟨w.heap.size, 0, none⟩) 2 2 ixP ixV ixR smK smB (fun _ => .slice none 0 0) (fun _ => .slice none 0 0) sA v110rc W (hi W hb) (by decide)
  have hc5 := ixW_cell w 5 _ rfl
  have hc6 := ixW_cell w 6 _ rfl
  rw [show enF 2 ixP ixV ixR smK smB = ixL from rfl] at hck hla hfi
  rw [ix_err] at hck
  rw [ix_latest] at hla
  rw [ix_find] at hfi
  rw [errV_zero, decide_eq_true rfl] at hco
  have hvv : (⟨v100.data.toList.toArray⟩ : ByteArray) = v100 := bytes_eq.1 rfl
  rw [hvv] at hla
  unfold ixW at *
  unfold sA v100 v110rc at *
  replace hck := Lib.hid hck
  replace hco := Lib.hid hco
  replace hla := Lib.hid hla
  replace hfi := Lib.hid hfi
  clear hi hvv hE hEC
  go_enter Tryz.func58, Tryz.ntmps58
  go_wp2_with fail
  generalize w.alloc (.cells #[.string ⟨#[97]⟩, .string ⟨#[118, 49, 46, 48, 46, 48]⟩, .slice none 0 0, .slice none 0 0, .bool false, .string ⟨#[97]⟩, .string ⟨#[118, 49, 46, 49, 46, 48, 45, 114, 99]⟩, .slice none 0 0, .slice none 0 0, .bool false] 37) = w1 at *
  refine hck.out.mono ?_
  rintro e w2 ⟨⟨ev, rfl, hf⟩, hb2⟩
  obtain rfl : ev = .nilIface := by
    rcases fault_form hf with ⟨_, h⟩ | ⟨h, _⟩
    · exact h
    · exact absurd rfl h
  clear hf hck
  go_wp2_with fail
  refine (hco.out _ hb2).mono ?_
  rintro e w3 ⟨rfl, hb⟩
  replace hb2 := below_step hb2 hb
  clear hb hco
  go_wp2_with fail
  refine (hla.out _ hb2).mono ?_
  rintro e w4 ⟨rfl, hb⟩
  replace hb2 := below_step hb2 hb
  have c5 := Below.cell_some hb2 hc5
  have c6 := Below.cell_some hb2 hc6
  clear hb hla hc5 hc6
  go_wp2_with fail
  refine (hfi.out _ hb2).mono ?_
  rintro e w5 ⟨rfl, hb⟩
  replace hb2 := below_step hb2 hb
  clear hb hfi c5 c6
  go_wp2_with fail
  go_ret
  exact ⟨rfl, below_step hB hb2⟩
end Go.Proofs.Pw
