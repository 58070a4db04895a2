/- Pf: walks and plain laws, joined: FileRef. Conditions: at each theorem. -/
import Derived.Test.YtkfnhchlfojomaaGreatDoorPfk
import Derived.Test.YtkfnhchlfojomaaGreatDoorPfz
import Derived.Test.YtkfnhchlfojomaaGreatDoorPfb

namespace Go.Proofs.Pw
open Go.RowKit
open Go.Lib hiding intOf
def fltV (r : Nat × Int) : Value := .agg #[.int .i64 (r.1 : Nat), .int .i64 r.2]
theorem refBare_calls (k : Nat) (w : World) : Calls Tryz.prog 100 #[.int .i64 (k : Nat)] w fun e w' => e = .returned (fltV (k, -1)) ∧ Below w.heap.size w w' := by
  have hB := below_alloc w (.cells #[.int .i64 0, .int .i64 0] 46)
  obtain ⟨z0, z1, zf⟩ := box2_alloc w (.int .i64 0) (.int .i64 0) 46
  go_enter Tryz.func100, Tryz.ntmps100
  go_wp2_with fail
  refine bodyPost_ret (v := .agg #[.int .i64 (k : Nat), .int .i64 (-1)]) (by simp [results, Tryz.results100, go_sem, *]) rfl ?_
  first
  | exact ⟨rfl, (hB.setCell (Nat.le_refl _) _).setCell (Nat.le_refl _) _⟩
  | exact ⟨rfl, below_alloc _ _⟩
theorem refFine_calls (w : World) : Calls Tryz.prog 63 #[] w fun e w' => e = .returned (fltV (0, -1)) ∧ Below w.heap.size w w' := by
  have hB := below_alloc w (.cells #[.int .i64 0, .int .i64 0] 46)
  obtain ⟨z0, z1, zf⟩ := box2_alloc w (.int .i64 0) (.int .i64 0) 46
  go_enter Tryz.func63, Tryz.ntmps63
  go_wp2_with fail
  refine bodyPost_ret (v := .agg #[.int .i64 0, .int .i64 (-1)]) (by simp [results, Tryz.results63, go_sem, *]) rfl ?_
  first
  | exact ⟨rfl, (hB.setCell (Nat.le_refl _) _).setCell (Nat.le_refl _) _⟩
  | exact ⟨rfl, below_alloc _ _⟩
def rqP (r : Nat × Int) : Nat × Int := if r.1 = 0 then (0, 0) else r
set_option maxHeartbeats 4000000 in
set_option maxRecDepth 100000 in
theorem reqsError_calls (own : ByteArray) (rv : Value) (R : List Md) (w : World) (hr : ModsAt w rv R) (hs : Short R) :
    Calls Tryz.prog 178 #[rv, .string own] w fun e w' => e = .returned (.tuple #[.int .i64 ((rqP (firstE (reqE own.data.toList R) R.length)).1 : Nat), .int .i64 (rqP (firstE (reqE own.data.toList R) R.length)).2]) ∧ Below w.heap.size w w' := by
  obtain ⟨a, n, cap, P, V, rfl, rfl, hnc, hcap, hc⟩ := hr
  have hP : Hid (∀ j, j < n → (P j).size ≤ 1000000 ∧ (V j).size ≤ 1000000) := Lib.hid (short_F hs).2
  have hn : n ≤ 1000000 := (short_F hs).1
  rw [mdF_length]
  replace hc := Lib.hid hc
  clear hs
  go_enter Tryz.func178, Tryz.ntmps178
  go_wp2_with fail
  go_loopw [6] (fun i wr => ∃ k : Nat, k ≤ n ∧ i = .int .i64 k ∧ Below w.heap.size w wr ∧ Hid (∀ j, j < k → reqE own.data.toList (mdF n P V) j = 0)) (fun i _ => n - (intOf i).toNat)
  case atStart => exact ⟨0, Nat.zero_le _, rfl, Below.refl _ _, Lib.hid (fun j hj => absurd hj (Nat.not_lt_zero _))⟩
  case round =>
    obtain ⟨k, hk, rfl, hBk, HA⟩ := hrel
    by_cases hlt : k < n
    · have hkn : (k : Int) < (n : Int) := by omega
      obtain ⟨b1, o1, ea, c0, c1⟩ := hc.out k hlt
      replace c0 := Below.cell_some hBk c0
      replace c1 := Below.cell_some hBk c1
      have hme := refModErr_calls (P k) (V k) wr (by have := (hP.out k hlt).1; omega) (by have := (hP.out k hlt).2; omega)
      have hR : reqE own.data.toList (mdF n P V) k = if modErr (P k).data.toList (V k).data.toList ≠ 0 then modErr (P k).data.toList (V k).data.toList else if (P k).data.toList = own.data.toList then 3 else if 0 < k ∧ compareBytes (P k).data.toList (mdAt (mdF n P V) (k - 1)).1 ≤ 0 then 8 else 0 := by
        unfold reqE
        rw [mdAt_mdF hlt]; rfl
      subst ea
      by_cases h0 : modErr (P k).data.toList (V k).data.toList = 0
      · rw [if_neg (by simp [h0])] at hR
        rw [h0] at hme
        by_cases hp : (P k).data.toList = own.data.toList
        · rw [if_pos hp] at hR
          have HF : Hid (rqP (firstE (reqE own.data.toList (mdF n P V)) n) = (3, (k : Int))) := Lib.hid (by rw [firstE_hit (by rw [hR]; decide) HA.out hlt, hR]; rfl)
          have hpb := bytes_eq.1 hp
          have hp1 : ((P k).toList == own.toList) = true := by rw [hpb]; simp
          replace hme := Lib.hid hme
          clear h0 hp hR hpb
          go_wp2_with fail
          refine hme.out.mono ?_
          rintro e w2 ⟨rfl, hb⟩
          replace c0 := Below.cell_some hb c0
          have hB2 := below_step hBk hb
          clear hb
          go_wp2_with fail
          go_ret2
          rw [HF.out]
          exact ⟨rfl, hB2⟩
        · rw [if_neg hp] at hR
          have hp1 : ((P k).toList == own.toList) = false := by rw [toList_data, toList_data]; exact beq_eq_false_iff_ne.2 hp
          have hp2 : (P k).toList ≠ own.toList := by rw [toList_data, toList_data]; exact hp
          have hp3 : P k ≠ own := fun e => hp (by rw [e])
          by_cases hi0 : k = 0
          · subst hi0
            rw [if_neg (by omega)] at hR
            have HN : Hid (∀ j, j < 0 + 1 → reqE own.data.toList (mdF n P V) j = 0) := Lib.hid (fun j hj => by
              obtain rfl : j = 0 := by omega
              exact hR)
            replace hme := Lib.hid hme
            simp only [Nat.zero_mul, Nat.add_zero] at c0 c1
            clear h0 hp hR
            go_wp2_with fail
            refine hme.out.mono ?_
            rintro e w2 ⟨rfl, hb⟩
            replace c0 := Below.cell_some hb c0
            have hB2 := below_step hBk hb
            clear hb
            go_wp2_with fail
            refine wp_region_quiet_patch (by kernel_rfl) (by kernel_rfl) ?_
            repeat (go_big_quiet_step (fail))
            refine wpQuiet_nil ?_
            intro _ hw'
            obtain ⟨⟨dq, osq⟩, hw''⟩ := hw'
            subst hw''
            have hb := below_patch w2 dq osq
            replace hB2 := below_step hB2 hb
            clear hb
            generalize patch w2 dq osq = w3 at hB2 ⊢
            clear c0
            go_wp2_with fail
            go_roundw
            case rel => exact ⟨1, by omega, by go_num, hB2, HN⟩
            case measure => simp [intOf]; omega
          · obtain ⟨m, rfl⟩ : ∃ m, k = m + 1 := ⟨k - 1, by omega⟩
            rw [Nat.add_sub_cancel, mdAt_mdF (show m < n by omega)] at hR
            have hle := leq_eq (P (m + 1)) (P m)
            have hk0 : (0 : Int) < ((m + 1 : Nat) : Int) := by omega
            have hk1 : ((m + 1 : Nat) : Int) - 1 = (m : Int) := by omega
            have hkw := wrap_nat m (by omega)
            have hkn2 : (m : Int) < (n : Int) := by omega
            obtain ⟨b2, o2, e1, c3, _⟩ := hc.out m (by omega)
            injection e1 with e1
            injection e1 with e1 e2
            subst e1 e2
            replace c3 := Below.cell_some hBk c3
            by_cases hc0 : compareBytes (P (m + 1)).data.toList (P m).data.toList ≤ 0
            · rw [if_pos ⟨Nat.succ_pos m, hc0⟩] at hR
              rw [decide_eq_true hc0] at hle
              have HF : Hid (rqP (firstE (reqE own.data.toList (mdF n P V)) n) = (8, ((m + 1 : Nat) : Int))) := Lib.hid (by rw [firstE_hit (by rw [hR]; decide) HA.out hlt, hR]; rfl)
              replace hme := Lib.hid hme
              clear h0 hp hR hc0
              go_wp2_with fail
              refine hme.out.mono ?_
              rintro e w2 ⟨rfl, hb⟩
              replace c0 := Below.cell_some hb c0
              replace c3 := Below.cell_some hb c3
              have hB2 := below_step hBk hb
              clear hb
              go_wp2_with fail
              have kqc0 := fun d os => cell_patch (d := d) (os := os) c0
              have kqc3 := fun d os => cell_patch (d := d) (os := os) c3
              refine wp_region_quiet_patch (by kernel_rfl) (by kernel_rfl) ?_
              repeat (go_big_quiet_step (fail))
              refine wpQuiet_nil ?_
              intro _ hw'
              obtain ⟨⟨dq, osq⟩, hw''⟩ := hw'
              subst hw''
              clear kqc0 kqc3
              have hb := below_patch w2 dq osq
              replace hB2 := below_step hB2 hb
              clear hb
              generalize patch w2 dq osq = w3 at hB2 ⊢
              clear c0 c3
              go_wp2_with fail
              go_ret2
              rw [HF.out]
              exact ⟨rfl, hB2⟩
            · rw [if_neg (fun h => hc0 h.2)] at hR
              rw [decide_eq_false hc0] at hle
              have HN : Hid (∀ j, j < m + 1 + 1 → reqE own.data.toList (mdF n P V) j = 0) := Lib.hid (fun j hj => by
                by_cases e : j = m + 1
                · subst e; exact hR
                · exact HA.out j (by omega))
              replace hme := Lib.hid hme
              clear h0 hp hR hc0
              go_wp2_with fail
              refine hme.out.mono ?_
              rintro e w2 ⟨rfl, hb⟩
              replace c0 := Below.cell_some hb c0
              replace c3 := Below.cell_some hb c3
              have hB2 := below_step hBk hb
              clear hb
              go_wp2_with fail
              have kqc0 := fun d os => cell_patch (d := d) (os := os) c0
              have kqc3 := fun d os => cell_patch (d := d) (os := os) c3
              refine wp_region_quiet_patch (by kernel_rfl) (by kernel_rfl) ?_
              repeat (go_big_quiet_step (fail))
              refine wpQuiet_nil ?_
              intro _ hw'
              obtain ⟨⟨dq, osq⟩, hw''⟩ := hw'
              subst hw''
              clear kqc0 kqc3
              have hb := below_patch w2 dq osq
              replace hB2 := below_step hB2 hb
              clear hb
              generalize patch w2 dq osq = w3 at hB2 ⊢
              clear c0 c3
              go_wp2_with fail
              go_roundw
              case rel => exact ⟨m + 1 + 1, by omega, by go_num, hB2, HN⟩
              case measure => simp [intOf]; omega
      · rw [if_pos h0] at hR
        have HF : Hid (rqP (firstE (reqE own.data.toList (mdF n P V)) n) = (modErr (P k).data.toList (V k).data.toList, (k : Int))) := Lib.hid (by rw [firstE_hit (by rw [hR]; exact h0) HA.out hlt, hR]; unfold rqP; rw [if_neg h0])
        generalize modErr (P k).data.toList (V k).data.toList = c at *
        have hc9 : (0 : Int) < (c : Int) := by omega
        replace hme := Lib.hid hme
        clear h0 hR
        go_wp2_with fail
        refine hme.out.mono ?_
        rintro e w2 ⟨rfl, hb⟩
        have hB2 := below_step hBk hb
        clear hb
        go_wp2_with fail
        go_ret2
        rw [HF.out]
        exact ⟨rfl, hB2⟩
    · obtain rfl : n = k := by omega
      have HF : Hid (rqP (firstE (reqE own.data.toList (mdF n P V)) n) = (0, 0)) := Lib.hid (by rw [firstE_none HA.out]; rfl)
      go_wp2_with fail
      go_ret2
      rw [HF.out]
      exact ⟨rfl, hBk⟩
end Go.Proofs.Pw
