/- Da: walks and plain laws, joined: RefRoots RefCaps RefIdx ReachOf. Conditions: at each theorem. -/
import Derived.Test.YtnanklfbmmionaaGreatDoorDag
import Derived.Test.YtnanklfbmmionaaGreatDoorDan
import Derived.Test.YtnanklfbmmionaaGreatDoorDaf
import Derived.Test.YtnanklfbmmionaaGreatDoorDaj
import Derived.Test.YtnanklfbmmionaaGreatDoorDao
import Derived.Test.YtnanklfbmmionaaGreatDoorDah
import Derived.Test.YtnanklfbmmionaaGreatDoorDav
import Derived.Test.YtnanklfbmmionaaGreatDoorDaw

namespace Go.Proofs.Pw
open Go.RowKit
open Go.Lib hiding intOf
set_option maxHeartbeats 4000000 in
set_option maxRecDepth 100000 in
theorem rootsFault_in (a : Option Addr) (n cap : Nat) (P V : Nat → ByteArray) (R : Nat → List Md) (K : Nat → List Str) (B : Nat → Bool) (Rv Kv : Nat → Value) (rv : Value) (roots : List Md) (w : World) (h : EntsIn w a n cap P V R K B Rv Kv) (hr : ModsAt w rv roots) (hl : n ≤ 1000000) (hl2 : roots.length ≤ 1000000) :
    Calls Tryz.prog 124 #[.slice a n cap, rv] w fun e w' => e = .returned (fltV (rootsErr (enF n P V R K B) roots)) ∧ Below w.heap.size w w' := by
  obtain ⟨a2, m, cap2, Q, U, rfl, rfl, hmc, hcap2, hc2⟩ := hr
  rw [mdF_length] at hl2
  have hB := below_alloc w (.cells #[.int .i64 0, .int .i64 0] 46)
  have hz := box2_alloc w (.int .i64 0) (.int .i64 0) 46
  have HFE : Hid (rootsErr (enF n P V R K B) (mdF m Q U) = firstE (rootE (enF n P V R K B) (mdF m Q U)) m) := Lib.hid (by unfold rootsErr; rw [mdF_length])
  have hfo := fun (p v : ByteArray) (W : World) (hb : Below w.heap.size w W) => findOf_in a n cap P V R K B Rv Kv p v W (h.below hb) hl
  have HL := Lib.hid hl
  replace hc2 := Lib.hid hc2
  replace hfo := Lib.hid hfo
  clear h hl
  go_enter Tryz.func124, Tryz.ntmps124
  go_wp2_with fail
  generalize w.alloc (.cells #[.int .i64 0, .int .i64 0] 46) = w1 at *
  go_loopw [5] (fun i wr => ∃ k : Nat, k ≤ m ∧ i = .int .i64 k ∧ Below w1.heap.size w1 wr ∧ Hid (∀ j, j < k → rootE (enF n P V R K B) (mdF m Q U) j = 0)) (fun i _ => m - (intOf i).toNat)
  case atStart => exact ⟨0, Nat.zero_le _, rfl, Below.refl _ _, Lib.hid (fun j hj => absurd hj (Nat.not_lt_zero _))⟩
  case round =>
    obtain ⟨k, hk, rfl, hBk, HA⟩ := hrel
    have hBw := below_step hB hBk
    have hzk := hz.below hBk
    by_cases hlt : k < m
    · have hkn : (k : Int) < (m : Int) := by omega
      obtain ⟨b1, o1, ea, c0, c1⟩ := hc2.out k hlt
      replace c0 := Below.cell_some hBw c0
      replace c1 := Below.cell_some hBw c1
      subst ea
      have hR : rootE (enF n P V R K B) (mdF m Q U) k = if findE (enF n P V R K B) ((Q k).data.toList, (U k).data.toList) < 0 then 5 else 0 := by
        unfold rootE
        rw [mdAt_mdF hlt]
      have hf := hfo.out (Q k) (U k) wr hBw
      obtain ⟨x, hx⟩ : ∃ x, findE (enF n P V R K B) ((Q k).data.toList, (U k).data.toList) = x := ⟨_, rfl⟩
      rw [hx] at hR hf
      by_cases h0 : x < 0
      · rw [if_pos h0] at hR
        have HF : Hid (rootsErr (enF n P V R K B) (mdF m Q U) = (5, (k : Int))) := Lib.hid (by rw [HFE.out, firstE_hit (by rw [hR]; decide) HA.out hlt, hR])
        replace hf := Lib.hid hf
        clear hx hR
        go_wp2_with fail
        refine hf.out.mono ?_
        rintro e w2 ⟨rfl, hb⟩
        have hB2 := below_step hBw hb
        obtain ⟨z0, z1, zf⟩ := hzk.below hb
        clear hb hf c0 c1
        go_wp2_with fail
        refine bodyPost_ret (v := fltV (5, (k : Int))) (by simp [results, Tryz.results124, fltV, go_sem, *]) rfl ?_
        rw [HF.out]
        exact ⟨rfl, (hB2.setCell (p := ⟨w.heap.size, 0, none⟩) (Nat.le_refl _) _).setCell (p := ⟨w.heap.size, 1, none⟩) (Nat.le_refl _) _⟩
      · rw [if_neg h0] at hR
        have HN : Hid (∀ j, j < k + 1 → rootE (enF n P V R K B) (mdF m Q U) j = 0) := Lib.hid (fun j hj => by
          by_cases e : j = k
          · subst e; exact hR
          · exact HA.out j (by omega))
        have hq : decide (x < 0) = false := decide_eq_false h0
        replace hf := Lib.hid hf
        clear hx hR h0
        go_wp2_with fail
        refine hf.out.mono ?_
        rintro e w2 ⟨rfl, hb⟩
        replace hBk := below_step hBk hb
        clear hb hf c0 c1
        go_wp2_with fail
        go_roundw
        case rel => exact ⟨k + 1, by omega, by go_num, hBk, HN⟩
        case measure => simp [intOf]; omega
    · obtain rfl : m = k := by omega
      have HF : Hid (rootsErr (enF n P V R K B) (mdF m Q U) = (0, -1)) := Lib.hid (by rw [HFE.out, firstE_none HA.out])
      have hfi := fun W => refFine_calls W
      unfold fltV at hfi
      replace hfi := Lib.hid hfi
      go_wp2_with fail
      refine (hfi.out _).mono ?_
      rintro e w2 ⟨rfl, hb⟩
      have hB2 := below_step hBw hb
      obtain ⟨z0, z1, zf⟩ := hzk.below hb
      clear hb hfi
      go_wp2_with fail
      refine bodyPost_ret (v := fltV (0, -1)) (by simp [results, Tryz.results124, fltV, go_sem, *]) rfl ?_
      rw [HF.out]
      exact ⟨rfl, (hB2.setCell (p := ⟨w.heap.size, 0, none⟩) (Nat.le_refl _) _).setCell (p := ⟨w.heap.size, 1, none⟩) (Nat.le_refl _) _⟩
end Go.Proofs.Pw

namespace Go.Proofs.Pw
open Go.RowKit
open Go.Lib hiding intOf
set_option maxHeartbeats 4000000 in
set_option maxRecDepth 100000 in
theorem capsFault_calls (cv : Value) (caps : List Md) (w : World) (hr : ModsAt w cv caps) (hs : Short caps) :
    Calls Tryz.prog 51 #[cv] w fun e w' => e = .returned (fltV (capsErr caps)) ∧ Below w.heap.size w w' := by
  obtain ⟨a, m, cap, Q, U, rfl, rfl, hmc, hcap, hc2⟩ := hr
  obtain ⟨hm, hP⟩ := short_F hs
  have hB := below_alloc w (.cells #[.int .i64 0, .int .i64 0] 46)
  have hz := box2_alloc w (.int .i64 0) (.int .i64 0) 46
  have HFE : Hid (capsErr (mdF m Q U) = firstE (capE (mdF m Q U)) m) := Lib.hid (by unfold capsErr; rw [mdF_length])
  replace hc2 := Lib.hid hc2
  replace hP := Lib.hid hP
  clear hs hmc hcap
  go_enter Tryz.func51, Tryz.ntmps51
  go_wp2_with fail
  generalize w.alloc (.cells #[.int .i64 0, .int .i64 0] 46) = w1 at *
  go_loopw [3, 4] (fun i _ wr => ∃ k : Nat, k ≤ m ∧ i = .int .i64 k ∧ Below w1.heap.size w1 wr ∧ Hid (∀ j, j < k → capE (mdF m Q U) j = 0)) (fun i _ _ => m - (intOf i).toNat)
  case atStart => exact ⟨0, Nat.zero_le _, rfl, Below.refl _ _, Lib.hid (fun j hj => absurd hj (Nat.not_lt_zero _))⟩
  case round =>
    obtain ⟨k, hk, rfl, hBk, HA⟩ := hrel
    have hBw := below_step hB hBk
    by_cases hlt : k < m
    · have hkn : (k : Int) < (m : Int) := by omega
      obtain ⟨b1, o1, rfl, c0, c1⟩ := hc2.out k hlt
      replace c0 := Below.cell_some hBw c0
      replace c1 := Below.cell_some hBw c1
      have hpa := refPath_calls (Q k) wr (by have := (hP.out k hlt).1; omega)
      have hve := fun W => refVerOf_calls (U k) W (by have := (hP.out k hlt).2; omega)
      have hR : capE (mdF m Q U) k = if cap1 ((Q k).data.toList, (U k).data.toList) ≠ 0 then cap1 ((Q k).data.toList, (U k).data.toList) else if 0 < k ∧ compareBytes (Q k).data.toList (mdAt (mdF m Q U) (k - 1)).1 ≤ 0 then 8 else 0 := by
        unfold capE
        rw [mdAt_mdF hlt]
      by_cases h0 : pathErr (Q k).data.toList = 0
      · rw [h0] at hpa
        by_cases hv : (U k).data.toList = noneS
        · have h1 : cap1 ((Q k).data.toList, (U k).data.toList) = 0 := by simp [cap1, h0, hv]
          rw [h1, if_neg (by simp)] at hR
          have hv1 : ((U k).toList == [110, 111, 110, 101]) = true := by rw [toList_data, hv]; rfl
          replace hpa := Lib.hid hpa
          clear hv h0 h1 hve hBw
          go_wp2_with fail
          refine hpa.out.mono ?_
          rintro e w2 ⟨rfl, hb⟩
          replace hBk := below_step hBk hb
          replace c0 := Below.cell_some hb c0
          replace c1 := Below.cell_some hb c1
          clear hb hpa
          by_cases hi0 : k = 0
          · subst hi0
            rw [if_neg (by omega)] at hR
            have HN : Hid (∀ j, j < 0 + 1 → capE (mdF m Q U) j = 0) := Lib.hid (fun j hj => by
              obtain rfl : j = 0 := by omega
              exact hR)
            clear hR
            simp only [Nat.zero_mul, Nat.add_zero] at c0 c1
            go_wp2_with fail
            have kqc0 := fun d os => cell_patch (d := d) (os := os) c0
            have kqc1 := fun d os => cell_patch (d := d) (os := os) c1
            refine wp_region_quiet_patch (by kernel_rfl) (by kernel_rfl) ?_
            repeat (go_big_quiet_step (fail))
            refine wpQuiet_nil ?_
            intro _ hw'
            obtain ⟨⟨dq, osq⟩, hw''⟩ := hw'
            subst hw''
            clear kqc0 kqc1
            have hb := below_patch w2 dq osq
            replace hBk := below_step hBk hb
            clear hb
            generalize patch w2 dq osq = w9 at hBk ⊢
            clear c0 c1
            go_wp2_with fail
            go_roundw
            case rel => exact ⟨1, by omega, by go_num, hBk, HN⟩
            case measure => simp [intOf]; omega
          · obtain ⟨r, rfl⟩ : ∃ r, k = r + 1 := ⟨k - 1, by omega⟩
            rw [Nat.add_sub_cancel, mdAt_mdF (show r < m by omega)] at hR
            have hle := leq_eq (Q (r + 1)) (Q r)
            have hk0 : (0 : Int) < ((r + 1 : Nat) : Int) := by omega
            have hk1 : ((r + 1 : Nat) : Int) - 1 = (r : Int) := by omega
            have hkw := wrap_nat r (by omega)
            have hkm : r < m := by omega
            have hkm2 : (r : Int) < (m : Int) := by omega
            obtain ⟨b2, o2, e1, d3, _⟩ := hc2.out r (by omega)
            injection e1 with e1
            injection e1 with e1 e2
            subst e1 e2
            replace d3 := Below.cell_some (below_step hB hBk) d3
            have hz9 := hz.below hBk
            by_cases hc0 : compareBytes (Q (r + 1)).data.toList (Q r).data.toList ≤ 0
            · rw [if_pos ⟨Nat.succ_pos r, hc0⟩] at hR
              rw [decide_eq_true hc0] at hle
              have HF : Hid (capsErr (mdF m Q U) = (8, ((r + 1 : Nat) : Int))) := Lib.hid (by rw [HFE.out, firstE_hit (by rw [hR]; decide) HA.out hlt, hR])
              clear hR hc0
              go_wp2_with fail
              have kqc0 := fun d os => cell_patch (d := d) (os := os) c0
              have kqc1 := fun d os => cell_patch (d := d) (os := os) c1
              have kqd3 := fun d os => cell_patch (d := d) (os := os) d3
              refine wp_region_quiet_patch (by kernel_rfl) (by kernel_rfl) ?_
              repeat (go_big_quiet_step (fail))
              refine wpQuiet_nil ?_
              intro _ hw'
              obtain ⟨⟨dq, osq⟩, hw''⟩ := hw'
              subst hw''
              clear kqc0 kqc1 kqd3
              have hb := below_patch w2 dq osq
              replace hBk := below_step hBk hb
              replace hz9 := hz9.below hb
              clear hb
              generalize patch w2 dq osq = w9 at hBk hz9 ⊢
              have hB2 := below_step hB hBk
              obtain ⟨z0, z1, zf⟩ := hz9
              clear c0 c1 d3
              go_wp2_with fail
              refine bodyPost_ret (v := fltV (8, ((r + 1 : Nat) : Int))) (by simp [results, Tryz.results51, fltV, go_sem, *]) rfl ?_
              rw [HF.out]
              exact ⟨rfl, (hB2.setCell (p := ⟨w.heap.size, 0, none⟩) (Nat.le_refl _) _).setCell (p := ⟨w.heap.size, 1, none⟩) (Nat.le_refl _) _⟩
            · rw [if_neg (fun h => hc0 h.2)] at hR
              rw [decide_eq_false hc0] at hle
              have HN : Hid (∀ j, j < r + 1 + 1 → capE (mdF m Q U) j = 0) := Lib.hid (fun j hj => by
                by_cases e : j = r + 1
                · subst e; exact hR
                · exact HA.out j (by omega))
              clear hR hc0
              go_wp2_with fail
              have kqc0 := fun d os => cell_patch (d := d) (os := os) c0
              have kqc1 := fun d os => cell_patch (d := d) (os := os) c1
              have kqd3 := fun d os => cell_patch (d := d) (os := os) d3
              refine wp_region_quiet_patch (by kernel_rfl) (by kernel_rfl) ?_
              repeat (go_big_quiet_step (fail))
              refine wpQuiet_nil ?_
              intro _ hw'
              obtain ⟨⟨dq, osq⟩, hw''⟩ := hw'
              subst hw''
              clear kqc0 kqc1 kqd3
              have hb := below_patch w2 dq osq
              replace hBk := below_step hBk hb
              clear hb
              generalize patch w2 dq osq = w9 at hBk ⊢
              clear c0 c1 d3
              go_wp2_with fail
              go_roundw
              case rel => exact ⟨r + 1 + 1, by omega, by go_num, hBk, HN⟩
              case measure => simp [intOf]; omega
        · have h1 : cap1 ((Q k).data.toList, (U k).data.toList) = verErr (U k).data.toList := by simp [cap1, h0, hv]
          rw [h1] at hR
          have hv1 : ((U k).toList == [110, 111, 110, 101]) = false := by rw [toList_data]; exact beq_eq_false_iff_ne.2 hv
          by_cases h2 : verErr (U k).data.toList = 0
          · rw [h2, if_neg (by simp)] at hR
            rw [h2] at hve
            replace hpa := Lib.hid hpa
            replace hve := Lib.hid hve
            clear hv h0 h1 h2 hBw
            go_wp2_with fail
            refine hpa.out.mono ?_
            rintro e w2 ⟨rfl, hb⟩
            replace hBk := below_step hBk hb
            replace c0 := Below.cell_some hb c0
            replace c1 := Below.cell_some hb c1
            clear hb hpa
            go_wp2_with fail
            refine (hve.out _).mono ?_
            rintro e w4 ⟨⟨v4, rfl, hv4⟩, hb⟩
            obtain ⟨av, nv, cv, _, rfl, _⟩ := hv4
            replace hBk := below_step hBk hb
            replace c0 := Below.cell_some hb c0
            replace c1 := Below.cell_some hb c1
            clear hb hve
            by_cases hi0 : k = 0
            · subst hi0
              rw [if_neg (by omega)] at hR
              have HN : Hid (∀ j, j < 0 + 1 → capE (mdF m Q U) j = 0) := Lib.hid (fun j hj => by
                obtain rfl : j = 0 := by omega
                exact hR)
              clear hR
              simp only [Nat.zero_mul, Nat.add_zero] at c0 c1
              go_wp2_with fail
              have kqc0 := fun d os => cell_patch (d := d) (os := os) c0
              have kqc1 := fun d os => cell_patch (d := d) (os := os) c1
              refine wp_region_quiet_patch (by kernel_rfl) (by kernel_rfl) ?_
              repeat (go_big_quiet_step (fail))
              refine wpQuiet_nil ?_
              intro _ hw'
              obtain ⟨⟨dq, osq⟩, hw''⟩ := hw'
              subst hw''
              clear kqc0 kqc1
              have hb := below_patch w4 dq osq
              replace hBk := below_step hBk hb
              clear hb
              generalize patch w4 dq osq = w9 at hBk ⊢
              clear c0 c1
              go_wp2_with fail
              go_roundw
              case rel => exact ⟨1, by omega, by go_num, hBk, HN⟩
              case measure => simp [intOf]; omega
            · obtain ⟨r, rfl⟩ : ∃ r, k = r + 1 := ⟨k - 1, by omega⟩
              rw [Nat.add_sub_cancel, mdAt_mdF (show r < m by omega)] at hR
              have hle := leq_eq (Q (r + 1)) (Q r)
              have hk0 : (0 : Int) < ((r + 1 : Nat) : Int) := by omega
              have hk1 : ((r + 1 : Nat) : Int) - 1 = (r : Int) := by omega
              have hkw := wrap_nat r (by omega)
              have hkm : r < m := by omega
              have hkm2 : (r : Int) < (m : Int) := by omega
              obtain ⟨b2, o2, e1, d3, _⟩ := hc2.out r (by omega)
              injection e1 with e1
              injection e1 with e1 e2
              subst e1 e2
              replace d3 := Below.cell_some (below_step hB hBk) d3
              have hz9 := hz.below hBk
              by_cases hc0 : compareBytes (Q (r + 1)).data.toList (Q r).data.toList ≤ 0
              · rw [if_pos ⟨Nat.succ_pos r, hc0⟩] at hR
                rw [decide_eq_true hc0] at hle
                have HF : Hid (capsErr (mdF m Q U) = (8, ((r + 1 : Nat) : Int))) := Lib.hid (by rw [HFE.out, firstE_hit (by rw [hR]; decide) HA.out hlt, hR])
                clear hR hc0
                go_wp2_with fail
                have kqc0 := fun d os => cell_patch (d := d) (os := os) c0
                have kqc1 := fun d os => cell_patch (d := d) (os := os) c1
                have kqd3 := fun d os => cell_patch (d := d) (os := os) d3
                refine wp_region_quiet_patch (by kernel_rfl) (by kernel_rfl) ?_
                repeat (go_big_quiet_step (fail))
                refine wpQuiet_nil ?_
                intro _ hw'
                obtain ⟨⟨dq, osq⟩, hw''⟩ := hw'
                subst hw''
                clear kqc0 kqc1 kqd3
                have hb := below_patch w4 dq osq
                replace hBk := below_step hBk hb
                replace hz9 := hz9.below hb
                clear hb
                generalize patch w4 dq osq = w9 at hBk hz9 ⊢
                have hB2 := below_step hB hBk
                obtain ⟨z0, z1, zf⟩ := hz9
                clear c0 c1 d3
                go_wp2_with fail
                refine bodyPost_ret (v := fltV (8, ((r + 1 : Nat) : Int))) (by simp [results, Tryz.results51, fltV, go_sem, *]) rfl ?_
                rw [HF.out]
                exact ⟨rfl, (hB2.setCell (p := ⟨w.heap.size, 0, none⟩) (Nat.le_refl _) _).setCell (p := ⟨w.heap.size, 1, none⟩) (Nat.le_refl _) _⟩
              · rw [if_neg (fun h => hc0 h.2)] at hR
                rw [decide_eq_false hc0] at hle
                have HN : Hid (∀ j, j < r + 1 + 1 → capE (mdF m Q U) j = 0) := Lib.hid (fun j hj => by
                  by_cases e : j = r + 1
                  · subst e; exact hR
                  · exact HA.out j (by omega))
                clear hR hc0
                go_wp2_with fail
                have kqc0 := fun d os => cell_patch (d := d) (os := os) c0
                have kqc1 := fun d os => cell_patch (d := d) (os := os) c1
                have kqd3 := fun d os => cell_patch (d := d) (os := os) d3
                refine wp_region_quiet_patch (by kernel_rfl) (by kernel_rfl) ?_
                repeat (go_big_quiet_step (fail))
                refine wpQuiet_nil ?_
                intro _ hw'
                obtain ⟨⟨dq, osq⟩, hw''⟩ := hw'
                subst hw''
                clear kqc0 kqc1 kqd3
                have hb := below_patch w4 dq osq
                replace hBk := below_step hBk hb
                clear hb
                generalize patch w4 dq osq = w9 at hBk ⊢
                clear c0 c1 d3
                go_wp2_with fail
                go_roundw
                case rel => exact ⟨r + 1 + 1, by omega, by go_num, hBk, HN⟩
                case measure => simp [intOf]; omega
          · rw [if_pos h2] at hR
            obtain ⟨E, hEq⟩ : ∃ E, verErr (U k).data.toList = E := ⟨_, rfl⟩
            rw [hEq] at hve hR
            have hE1 : E ≠ 0 := by rw [← hEq]; exact h2
            have hE2 : (0 : Int) < (E : Int) := by omega
            have hE3 : ¬ ((E : Int) = 0) := by omega
            have hE4 : 0 < E := by omega
            have HF : Hid (capsErr (mdF m Q U) = (E, (k : Int))) := Lib.hid (by rw [HFE.out, firstE_hit (by rw [hR]; exact hE1) HA.out hlt, hR])
            replace hpa := Lib.hid hpa
            replace hve := Lib.hid hve
            clear hv h0 h1 h2 hR hEq
            go_wp2_with fail
            refine hpa.out.mono ?_
            rintro e w2 ⟨rfl, hb⟩
            replace hBk := below_step hBk hb
            replace c0 := Below.cell_some hb c0
            replace c1 := Below.cell_some hb c1
            clear hb hpa
            go_wp2_with fail
            refine (hve.out _).mono ?_
            rintro e w4 ⟨⟨v4, rfl, hv4⟩, hb⟩
            obtain ⟨av, nv, cv, _, rfl, _⟩ := hv4
            replace hBk := below_step hBk hb
            replace c0 := Below.cell_some hb c0
            replace c1 := Below.cell_some hb c1
            have hz9 := hz.below hBk
            clear hb hve
            go_wp2_with fail
            have hd1 : ((E : Int) == 0) = false := beq_eq_false_iff_ne.2 hE3
            have kqc0 := fun d os => cell_patch (d := d) (os := os) c0
            have kqc1 := fun d os => cell_patch (d := d) (os := os) c1
            refine wp_region_quiet_patch (by kernel_rfl) (by kernel_rfl) ?_
            repeat (go_big_quiet_step (fail))
            refine wpQuiet_nil ?_
            intro _ hw'
            obtain ⟨⟨dq, osq⟩, hw''⟩ := hw'
            subst hw''
            clear kqc0 kqc1
            have hb := below_patch w4 dq osq
            replace hBk := below_step hBk hb
            replace hz9 := hz9.below hb
            clear hb
            generalize patch w4 dq osq = w9 at hBk hz9 ⊢
            have hB2 := below_step hB hBk
            obtain ⟨z0, z1, zf⟩ := hz9
            clear c0 c1
            go_wp2_with fail
            refine bodyPost_ret (v := fltV (E, (k : Int))) (by simp [results, Tryz.results51, fltV, go_sem, *]) rfl ?_
            rw [HF.out]
            exact ⟨rfl, (hB2.setCell (p := ⟨w.heap.size, 0, none⟩) (Nat.le_refl _) _).setCell (p := ⟨w.heap.size, 1, none⟩) (Nat.le_refl _) _⟩
      · have h1 : cap1 ((Q k).data.toList, (U k).data.toList) = pathErr (Q k).data.toList := by simp [cap1, h0]
        rw [h1, if_pos h0] at hR
        obtain ⟨E, hEq⟩ : ∃ E, pathErr (Q k).data.toList = E := ⟨_, rfl⟩
        rw [hEq] at hpa hR
        have hE1 : E ≠ 0 := by rw [← hEq]; exact h0
        have hE2 : (0 : Int) < (E : Int) := by omega
        have hE3 : ¬ ((E : Int) = 0) := by omega
        have hE4 : 0 < E := by omega
        have HF : Hid (capsErr (mdF m Q U) = (E, (k : Int))) := Lib.hid (by rw [HFE.out, firstE_hit (by rw [hR]; exact hE1) HA.out hlt, hR])
        replace hpa := Lib.hid hpa
        clear h0 h1 hR hve hEq
        go_wp2_with fail
        refine hpa.out.mono ?_
        rintro e w2 ⟨rfl, hb⟩
        replace hBk := below_step hBk hb
        replace c0 := Below.cell_some hb c0
        replace c1 := Below.cell_some hb c1
        have hz9 := hz.below hBk
        clear hb hpa
        go_wp2_with fail
        have hd1 : ((E : Int) == 0) = false := beq_eq_false_iff_ne.2 hE3
        have kqc0 := fun d os => cell_patch (d := d) (os := os) c0
        have kqc1 := fun d os => cell_patch (d := d) (os := os) c1
        refine wp_region_quiet_patch (by kernel_rfl) (by kernel_rfl) ?_
        repeat (go_big_quiet_step (fail))
        refine wpQuiet_nil ?_
        intro _ hw'
        obtain ⟨⟨dq, osq⟩, hw''⟩ := hw'
        subst hw''
        clear kqc0 kqc1
        have hb := below_patch w2 dq osq
        replace hBk := below_step hBk hb
        replace hz9 := hz9.below hb
        clear hb
        generalize patch w2 dq osq = w9 at hBk hz9 ⊢
        have hB2 := below_step hB hBk
        obtain ⟨z0, z1, zf⟩ := hz9
        clear c0 c1
        go_wp2_with fail
        refine bodyPost_ret (v := fltV (E, (k : Int))) (by simp [results, Tryz.results51, fltV, go_sem, *]) rfl ?_
        rw [HF.out]
        exact ⟨rfl, (hB2.setCell (p := ⟨w.heap.size, 0, none⟩) (Nat.le_refl _) _).setCell (p := ⟨w.heap.size, 1, none⟩) (Nat.le_refl _) _⟩
    · obtain rfl : m = k := by omega
      have HF : Hid (capsErr (mdF m Q U) = (0, -1)) := Lib.hid (by rw [HFE.out, firstE_none HA.out])
      have hfi := fun W => refFine_calls W
      have hzk := hz.below hBk
      unfold fltV at hfi
      replace hfi := Lib.hid hfi
      go_wp2_with fail
      refine (hfi.out _).mono ?_
      rintro e w2 ⟨rfl, hb⟩
      have hB2 := below_step hBw hb
      obtain ⟨z0, z1, zf⟩ := hzk.below hb
      clear hb hfi
      go_wp2_with fail
      refine bodyPost_ret (v := fltV (0, -1)) (by simp [results, Tryz.results51, fltV, go_sem, *]) rfl ?_
      rw [HF.out]
      exact ⟨rfl, (hB2.setCell (p := ⟨w.heap.size, 0, none⟩) (Nat.le_refl _) _).setCell (p := ⟨w.heap.size, 1, none⟩) (Nat.le_refl _) _⟩
end Go.Proofs.Pw

namespace Go.Proofs.Pw
open Go.RowKit
open Go.Lib hiding intOf
theorem any_mdF {n : Nat} {P V : Nat → ByteArray} {p : Md → Bool} (h : ∀ j, j < n → p ((P j).data.toList, (V j).data.toList) = false) : (mdF n P V).any p = false := by
  rw [List.any_eq_false]
  intro m hm
  obtain ⟨j, hj⟩ := List.getElem?_of_mem hm
  have hl := (List.getElem?_eq_some_iff.1 hj).1
  rw [mdF_length] at hl
  rw [mdF_get n P V j hl] at hj
  rw [← Option.some.inj hj, h j hl]
  simp
set_option maxHeartbeats 8000000 in
set_option maxRecDepth 100000 in
theorem indexFault_in (a : Option Addr) (n cap : Nat) (P V : Nat → ByteArray) (R : Nat → List Md) (K : Nat → List Str) (B : Nat → Bool) (Rv Kv : Nat → Value) (w : World) (h : EntsIn w a n cap P V R K B Rv Kv) (hs : ShortI (enF n P V R K B)) :
    Calls Tryz.prog 64 #[.slice a n cap] w fun e w' => e = .returned (fltV (idxErr (enF n P V R K B))) ∧ Below w.heap.size w w' := by
  have hn : n ≤ 1000000 := by have := hs.len; rwa [enF_length] at this
  have hB := below_alloc w (.cells #[.int .i64 0, .int .i64 0] 46)
  have hz := box2_alloc w (.int .i64 0) (.int .i64 0) 46
  have HFE : Hid (idxErr (enF n P V R K B) = if 100 < n then (7, -1) else orE (firstE (entErr (enF n P V R K B)) n) (firstE (lostE (enF n P V R K B)) n)) := Lib.hid (by unfold idxErr; rw [enF_length])
  have hee := fun (i : Nat) (hi : i < n) (W : World) (hb : Below w.heap.size w W) => entryError_in a n cap P V R K B Rv Kv i W (h.below hb) hs hi
  have hfo := fun (p v : ByteArray) (W : World) (hb : Below w.heap.size w W) => findOf_in a n cap P V R K B Rv Kv p v W (h.below hb) hn
  have H := Lib.hid h
  have HSH := Lib.hid hs
  replace hee := Lib.hid hee
  replace hfo := Lib.hid hfo
  clear h hs
  by_cases h100 : 100 < n
  · have HF : Hid (idxErr (enF n P V R K B) = (7, -1)) := Lib.hid (by rw [HFE.out, if_pos h100])
    have h100' : (100 : Int) < (n : Int) := by omega
    have hba := fun W => refBare_calls 7 W
    unfold fltV at hba
    replace hba := Lib.hid hba
    clear h100
    go_enter Tryz.func64, Tryz.ntmps64
    go_wp2_with fail
    generalize w.alloc (.cells #[.int .i64 0, .int .i64 0] 46) = w1 at *
    refine (hba.out _).mono ?_
    rintro e w2 ⟨rfl, hb⟩
    have hB2 := below_step hB hb
    obtain ⟨z0, z1, zf⟩ := hz.below hb
    clear hb hba
    go_wp2_with fail
    refine bodyPost_ret (v := fltV (7, -1)) (by simp [results, Tryz.results64, fltV, go_sem, *]) rfl ?_
    rw [HF.out]
    exact ⟨rfl, (hB2.setCell (p := ⟨w.heap.size, 0, none⟩) (Nat.le_refl _) _).setCell (p := ⟨w.heap.size, 1, none⟩) (Nat.le_refl _) _⟩
  · have HF1 : Hid (idxErr (enF n P V R K B) = orE (firstE (entErr (enF n P V R K B)) n) (firstE (lostE (enF n P V R K B)) n)) := Lib.hid (by rw [HFE.out, if_neg h100])
    have h100' : ¬ (100 : Int) < (n : Int) := by omega
    clear h100
    go_enter Tryz.func64, Tryz.ntmps64
    go_wp2_with fail
    generalize w.alloc (.cells #[.int .i64 0, .int .i64 0] 46) = w1 at *
    clear h100'
    go_loopw [3] (fun x wr => ∃ k : Nat, k ≤ n ∧ x = .int .i64 k ∧ Below w1.heap.size w1 wr ∧ Hid (∀ j, j < k → entErr (enF n P V R K B) j = 0)) (fun x _ => n - (intOf x).toNat)
    case atStart => exact ⟨0, Nat.zero_le _, rfl, Below.refl _ _, Lib.hid (fun j hj => absurd hj (Nat.not_lt_zero _))⟩
    case round =>
      obtain ⟨k, hk, rfl, hBk, HA⟩ := hrel
      have hBw := below_step hB hBk
      have hzk := hz.below hBk
      by_cases hlt : k < n
      · have hkn : (k : Int) < (n : Int) := by omega
        have hf := hee.out k hlt wr hBw
        obtain ⟨c, hc⟩ : ∃ c, entErr (enF n P V R K B) k = c := ⟨_, rfl⟩
        rw [hc] at hf
        by_cases h0 : c = 0
        · have HN : Hid (∀ j, j < k + 1 → entErr (enF n P V R K B) j = 0) := Lib.hid (fun j hj => by
            by_cases e : j = k
            · subst e; rw [hc, h0]
            · exact HA.out j (by omega))
          subst h0
          replace hf := Lib.hid hf
          clear hc
          go_wp2_with fail
          refine hf.out.mono ?_
          rintro e w2 ⟨rfl, hb⟩
          replace hBk := below_step hBk hb
          clear hb hf
          go_wp2_with fail
          go_roundw
          case rel => exact ⟨k + 1, by omega, by go_num, hBk, HN⟩
          case measure => simp [intOf]; omega
        · have HF : Hid (idxErr (enF n P V R K B) = (c, (k : Int))) := Lib.hid (by
            rw [HF1.out, firstE_hit (by rw [hc]; exact h0) HA.out hlt, hc]
            unfold orE
            rw [if_pos h0])
          have hc9 : (0 : Int) < (c : Int) := by omega
          replace hf := Lib.hid hf
          clear hc h0
          go_wp2_with fail
          refine hf.out.mono ?_
          rintro e w2 ⟨rfl, hb⟩
          have hB2 := below_step hBw hb
          obtain ⟨z0, z1, zf⟩ := hzk.below hb
          clear hb hf
          go_wp2_with fail
          refine bodyPost_ret (v := fltV (c, (k : Int))) (by simp [results, Tryz.results64, fltV, go_sem, *]) rfl ?_
          rw [HF.out]
          exact ⟨rfl, (hB2.setCell (p := ⟨w.heap.size, 0, none⟩) (Nat.le_refl _) _).setCell (p := ⟨w.heap.size, 1, none⟩) (Nat.le_refl _) _⟩
      · have HF2 : Hid (idxErr (enF n P V R K B) = firstE (lostE (enF n P V R K B)) n) := Lib.hid (by
          rw [HF1.out, firstE_none (fun j hj => HA.out j (by omega))]
          rfl)
        have hnk : ¬ (k : Int) < (n : Int) := by omega
        clear hlt HA hk
        go_wp2_with fail
        clear hnk
        generalize wr = wl at *
        go_loopw [5] (fun x wr => ∃ k : Nat, k ≤ n ∧ x = .int .i64 k ∧ Below wl.heap.size wl wr ∧ Hid (∀ j, j < k → lostE (enF n P V R K B) j = 0)) (fun x _ => n - (intOf x).toNat)
        case atStart => exact ⟨0, Nat.zero_le _, rfl, Below.refl _ _, Lib.hid (fun j hj => absurd hj (Nat.not_lt_zero _))⟩
        case round =>
          obtain ⟨k, hk, rfl, hBm, HA⟩ := hrel
          have hBx := below_step hBw hBm
          by_cases hlt : k < n
          · have hkn : (k : Int) < (n : Int) := by omega
            obtain ⟨b1, o1, ea, hcell⟩ := H.out.at_ k hlt
            obtain ⟨a1, n1, c1, P1, V1, e1, e2, _, _, hc1⟩ := H.out.reqs k hlt
            have hlen : n1 ≤ 1000000 := by
              have := (HSH.out.at_ hlt).2.2.2.1.1
              rw [e2, mdF_length] at this
              exact this
            have HL : Hid (lostE (enF n P V R K B) k = if (mdF n1 P1 V1).any (lost (enF n P V R K B)) then 5 else 0) := Lib.hid (by unfold lostE; rw [enAt_enF hlt, e2])
            rw [e1] at hcell
            have d2 := hcell.c2
            subst ea
            replace hc1 := Lib.hid hc1
            clear e1 e2 hcell
            go_wp2_with fail
            generalize hwo : wr = wo at *
            clear hwo
            go_loopw [6] (fun x wr => ∃ q : Nat, q ≤ n1 ∧ x = .int .i64 q ∧ Below wo.heap.size wo wr ∧ Hid (∀ j, j < q → lost (enF n P V R K B) ((P1 j).data.toList, (V1 j).data.toList) = false)) (fun x _ => n1 - (intOf x).toNat)
            case atStart => exact ⟨0, Nat.zero_le _, rfl, Below.refl _ _, Lib.hid (fun j hj => absurd hj (Nat.not_lt_zero _))⟩
            case round =>
              obtain ⟨q, hq, rfl, hBn, HA2⟩ := hrel
              have hBy := below_step hBx hBn
              have x2 := Below.cell_some hBy d2
              by_cases hlq : q < n1
              · have hqn : (q : Int) < (n1 : Int) := by omega
                obtain ⟨b2, o2, e3, y0, y1⟩ := hc1.out q hlq
                subst e3
                replace y0 := Below.cell_some hBy y0
                replace y1 := Below.cell_some hBy y1
                have hf := hfo.out (P1 q) (V1 q) wr hBy
                obtain ⟨x, hx⟩ : ∃ x, findE (enF n P V R K B) ((P1 q).data.toList, (V1 q).data.toList) = x := ⟨_, rfl⟩
                rw [hx] at hf
                by_cases h0 : x < 0
                · have HF : Hid (idxErr (enF n P V R K B) = (5, (k : Int))) := Lib.hid (by
                    have hR : lostE (enF n P V R K B) k = 5 := by
                      rw [HL.out, if_pos]
                      rw [List.any_eq_true]
                      refine ⟨_, List.mem_of_getElem? (mdF_get n1 P1 V1 q hlq), ?_⟩
                      unfold lost
                      rw [hx]
                      exact decide_eq_true h0
                    rw [HF2.out, firstE_hit (by rw [hR]; decide) HA.out hlt, hR])
                  have hzy := hz.below (below_step hBk (below_step hBm hBn))
                  replace hf := Lib.hid hf
                  clear hx hlen
                  go_wp2_with fail
                  refine hf.out.mono ?_
                  rintro e w2 ⟨rfl, hb⟩
                  have hB2 := below_step hBy hb
                  obtain ⟨z0, z1, zf⟩ := hzy.below hb
                  clear hb hf x2 y0 y1
                  go_wp2_with fail
                  refine bodyPost_ret (v := fltV (5, (k : Int))) (by simp [results, Tryz.results64, fltV, go_sem, *]) rfl ?_
                  rw [HF.out]
                  exact ⟨rfl, (hB2.setCell (p := ⟨w.heap.size, 0, none⟩) (Nat.le_refl _) _).setCell (p := ⟨w.heap.size, 1, none⟩) (Nat.le_refl _) _⟩
                · have HN : Hid (∀ j, j < q + 1 → lost (enF n P V R K B) ((P1 j).data.toList, (V1 j).data.toList) = false) := Lib.hid (fun j hj => by
                    by_cases e : j = q
                    · subst e; unfold lost; rw [hx]; exact decide_eq_false h0
                    · exact HA2.out j (by omega))
                  have hq0 : decide (x < 0) = false := decide_eq_false h0
                  replace hf := Lib.hid hf
                  clear hx h0
                  go_wp2_with fail
                  refine hf.out.mono ?_
                  rintro e w2 ⟨rfl, hb⟩
                  replace hBn := below_step hBn hb
                  clear hb hf x2 y0 y1
                  go_wp2_with fail
                  go_roundw
                  case rel => exact ⟨q + 1, by omega, by go_num, hBn, HN⟩
                  case measure => simp [intOf]; omega
              · have HN : Hid (∀ j, j < k + 1 → lostE (enF n P V R K B) j = 0) := Lib.hid (fun j hj => by
                  by_cases e : j = k
                  · subst e
                    rw [HL.out, any_mdF (fun i hi => HA2.out i (by omega))]
                    rfl
                  · exact HA.out j (by omega))
                have hnq : ¬ (q : Int) < (n1 : Int) := by omega
                replace hBm := below_step hBm hBn
                clear hlq hq
                go_wp2_with fail
                go_roundw
                case rel => exact ⟨k + 1, by omega, by go_num, hBm, HN⟩
                case measure => simp [intOf]; omega
          · have HF : Hid (idxErr (enF n P V R K B) = (0, -1)) := Lib.hid (by rw [HF2.out, firstE_none (fun j hj => HA.out j (by omega))])
            have hfi := fun W => refFine_calls W
            unfold fltV at hfi
            have hnk : ¬ (k : Int) < (n : Int) := by omega
            have hzy := hz.below (below_step hBk hBm)
            replace hfi := Lib.hid hfi
            clear hlt hk
            go_wp2_with fail
            refine (hfi.out _).mono ?_
            rintro e w2 ⟨rfl, hb⟩
            have hB2 := below_step hBx hb
            obtain ⟨z0, z1, zf⟩ := hzy.below hb
            clear hb hfi
            go_wp2_with fail
            refine bodyPost_ret (v := fltV (0, -1)) (by simp [results, Tryz.results64, fltV, go_sem, *]) rfl ?_
            rw [HF.out]
            exact ⟨rfl, (hB2.setCell (p := ⟨w.heap.size, 0, none⟩) (Nat.le_refl _) _).setCell (p := ⟨w.heap.size, 1, none⟩) (Nat.le_refl _) _⟩
end Go.Proofs.Pw

namespace Go.Proofs.Pw
open Go.RowKit
open Go.Lib hiding intOf
end Go.Proofs.Pw
