/- Ge: walks and plain laws, joined: DnCheck ModOrd FileRef RefEnt. Conditions: at each theorem. -/
import Derived.Test.YtmnojbbcaboagaaGreatDoorGev
import Derived.Test.YtmnojbbcaboagaaGreatDoorGep
import Derived.Test.YtmnojbbcaboagaaGreatDoorGeu
import Derived.Test.YtmnojbbcaboagaaGreatDoorGeg
import Derived.Test.YtmnojbbcaboagaaGreatDoorGei
import Derived.Test.YtmnojbbcaboagaaGreatDoorGeb

namespace Go.Proofs.Pw
open Go.RowKit
open Go.Lib hiding intOf
set_option maxHeartbeats 4000000 in
set_option maxRecDepth 100000 in
theorem downCheck_calls (ks : List Nat) (A : Nat → Addr) (hks : IdxKs ks) (cv : Value) (caps : List Md) (w : World) (hE : EnvP ks A w) (hr : ModsAt w cv caps) (hs : Short caps) :
    Calls Tryz.prog 210 #[cv] w fun e w' => (∃ v, e = .returned v ∧ FaultAt A w' v (capsErr caps)) ∧ Below w.heap.size w w' := by
  obtain ⟨a, n, cap, P, V, rfl, rfl, hnc, hcap, h7⟩ := hr
  have hP : Hid (∀ j, j < n → (P j).size ≤ 1000000 ∧ (V j).size ≤ 1000000) := Lib.hid (fun j hj => by
    have := hs.2 _ (List.mem_of_getElem? (mdF_get n P V j hj))
    rw [size_eq, size_eq]; exact this)
  have hn : n ≤ 1000000 := by have := hs.1; rw [mdF_length] at this; exact this
  have hB0 := Below.refl w.heap.size w
  replace h7 := Lib.hid h7
  clear hs hnc hcap
  go_enter Tryz.func210, Tryz.ntmps210
  go_wp2_with fail
  go_loopw [3, 5, 8] (fun _ _ i wr => ∃ k : Nat, k ≤ n ∧ i = .int .i64 k ∧ Below w.heap.size w wr ∧ Hid (∀ j, j < k → capE (mdF n P V) j = 0)) (fun _ _ i _ => n - (intOf i).toNat)
  case atStart => exact ⟨0, Nat.zero_le _, rfl, hB0, Lib.hid (fun j hj => absurd hj (Nat.not_lt_zero _))⟩
  case round =>
    obtain ⟨k, hk, rfl, hBr, HA⟩ := hrel
    by_cases hlt : k < n
    · have hkn : (k : Int) < (n : Int) := by omega
      obtain ⟨b1, o1, rfl, c0, c1⟩ := h7.out k hlt
      replace c0 := Below.cell_some hBr c0
      replace c1 := Below.cell_some hBr c1
      have hba := below_alloc wr (.cells #[.string (P k), .string (V k)] 47)
      obtain ⟨y0, y1, _⟩ := box2_alloc wr (.string (P k)) (.string (V k)) 47
      have hB1 := below_step hBr hba
      have hE2 := hE.below hB1
      have hpa := path_calls ks A hks.2.1 (P k) (wr.alloc (.cells #[.string (P k), .string (V k)] 47)) hE2 (by have := (hP.out k hlt).1; omega)
      have hve := fun W hW => verCheck_calls ks A (V k) W hW (by have := (hP.out k hlt).2; omega)
      have hR : capE (mdF n P V) k = if cap1 ((P k).data.toList, (V k).data.toList) ≠ 0 then cap1 ((P k).data.toList, (V k).data.toList) else if 0 < k ∧ compareBytes (P k).data.toList (mdAt (mdF n P V) (k - 1)).1 ≤ 0 then 8 else 0 := by
        unfold capE
        rw [mdAt_mdF hlt]
      clear hba
      by_cases h0 : pathErr (P k).data.toList = 0
      · rw [h0, errV_zero] at hpa
        by_cases hv : (V k).data.toList = noneS
        · have h1 : cap1 ((P k).data.toList, (V k).data.toList) = 0 := by simp [cap1, h0, hv]
          rw [h1, if_neg (by simp)] at hR
          have hv1 : ((V k).toList == [110, 111, 110, 101]) = true := by rw [toList_data, hv]; rfl
          replace hpa := Lib.hid hpa
          clear hv h0 h1 hve
          go_wp2_with fail
          refine hpa.out.mono ?_
          rintro e w2 ⟨rfl, hb⟩
          replace hB1 := below_step hB1 hb
          replace hE2 := hE2.below hb
          replace y0 := Below.cell_some hb y0
          replace y1 := Below.cell_some hb y1
          clear hb hpa
          by_cases hi0 : k = 0
          · subst hi0
            rw [if_neg (by omega)] at hR
            have HN : Hid (∀ j, j < 0 + 1 → capE (mdF n P V) j = 0) := Lib.hid (fun j hj => by
              obtain rfl : j = 0 := by omega
              exact hR)
            clear hR c0 c1
            go_wp2_with fail
            have kqy0 := fun d os => cell_patch (d := d) (os := os) y0
            have kqy1 := fun d os => cell_patch (d := d) (os := os) y1
            refine wp_region_quiet_patch (by kernel_rfl) (by kernel_rfl) ?_
            repeat (go_big_quiet_step (fail))
            refine wpQuiet_nil ?_
            intro _ hw'
            obtain ⟨⟨dq, osq⟩, hw''⟩ := hw'
            subst hw''
            clear kqy0 kqy1
            have hb := below_patch w2 dq osq
            replace hB1 := below_step hB1 hb
            clear hb
            generalize patch w2 dq osq = w3 at hB1 ⊢
            clear y0 y1
            go_wp2_with fail
            go_roundw
            case rel => exact ⟨1, by omega, by go_num, hB1, HN⟩
            case measure => simp [intOf]; omega
          · obtain ⟨m, rfl⟩ : ∃ m, k = m + 1 := ⟨k - 1, by omega⟩
            rw [Nat.add_sub_cancel, mdAt_mdF (show m < n by omega)] at hR
            have hle := leq_eq (P (m + 1)) (P m)
            have hk0 : (0 : Int) < ((m + 1 : Nat) : Int) := by omega
            have hk1 : ((m + 1 : Nat) : Int) - 1 = (m : Int) := by omega
            have hkw := wrap_nat m (by omega)
            have hkn : m < n := by omega
            have hkn2 : (m : Int) < (n : Int) := by omega
            obtain ⟨b2, o2, e1, d3, _⟩ := h7.out m (by omega)
            injection e1 with e1
            injection e1 with e1 e2
            subst e1 e2
            replace d3 := Below.cell_some hB1 d3
            clear c0 c1
            by_cases hc0 : compareBytes (P (m + 1)).data.toList (P m).data.toList ≤ 0
            · rw [if_pos ⟨Nat.succ_pos m, hc0⟩] at hR
              rw [decide_eq_true hc0] at hle
              have HF : Hid (capsErr (mdF n P V) = (8, ((m + 1 : Nat) : Int))) := Lib.hid (by
                have h0 := firstE_hit (g := capE (mdF n P V)) (by rw [hR]; decide) HA.out hlt
                unfold capsErr
                rw [mdF_length, h0, hR])
              clear hR hc0
              go_wp2_with fail
              have kqy0 := fun d os => cell_patch (d := d) (os := os) y0
              have kqy1 := fun d os => cell_patch (d := d) (os := os) y1
              have kqd3 := fun d os => cell_patch (d := d) (os := os) d3
              refine wp_region_quiet_patch (by kernel_rfl) (by kernel_rfl) ?_
              repeat (go_big_quiet_step (fail))
              refine wpQuiet_nil ?_
              intro _ hw'
              obtain ⟨⟨dq, osq⟩, hw''⟩ := hw'
              subst hw''
              clear kqy0 kqy1 kqd3
              have hb := below_patch w2 dq osq
              replace hB1 := below_step hB1 hb
              replace hE2 := hE2.below hb
              clear hb
              generalize patch w2 dq osq = w3 at hB1 hE2 ⊢
              clear y0 y1 d3
              have g8 := hE2.errs.var 8 hks.2.2.2.2
              simp only [errG] at g8
              go_wp2_with fail
              go_ret
              rw [HF.out]
              refine ⟨⟨_, rfl, .inr (.inr ⟨(show (8 : Nat) ≠ 0 by decide), _, rfl, by simp, ?_⟩)⟩, hB1.alloc hB1.size _⟩
              show _ = some (errV A 8)
              rw [errV_pos A (show (8 : Nat) ≠ 0 by decide)]
              simp
            · rw [if_neg (fun h => hc0 h.2)] at hR
              rw [decide_eq_false hc0] at hle
              have HN : Hid (∀ j, j < m + 1 + 1 → capE (mdF n P V) j = 0) := Lib.hid (fun j hj => by
                by_cases e : j = m + 1
                · subst e; exact hR
                · exact HA.out j (by omega))
              clear hR hc0
              go_wp2_with fail
              have kqy0 := fun d os => cell_patch (d := d) (os := os) y0
              have kqy1 := fun d os => cell_patch (d := d) (os := os) y1
              have kqd3 := fun d os => cell_patch (d := d) (os := os) d3
              refine wp_region_quiet_patch (by kernel_rfl) (by kernel_rfl) ?_
              repeat (go_big_quiet_step (fail))
              refine wpQuiet_nil ?_
              intro _ hw'
              obtain ⟨⟨dq, osq⟩, hw''⟩ := hw'
              subst hw''
              clear kqy0 kqy1 kqd3
              have hb := below_patch w2 dq osq
              replace hB1 := below_step hB1 hb
              clear hb
              generalize patch w2 dq osq = w3 at hB1 ⊢
              clear y0 y1 d3
              go_wp2_with fail
              go_roundw
              case rel => exact ⟨m + 1 + 1, by omega, by go_num, hB1, HN⟩
              case measure => simp [intOf]; omega
        · have h1 : cap1 ((P k).data.toList, (V k).data.toList) = verErr (V k).data.toList := by simp [cap1, h0, hv]
          rw [h1] at hR
          have hv1 : ((V k).toList == [110, 111, 110, 101]) = false := by rw [toList_data]; exact beq_eq_false_iff_ne.2 hv
          by_cases h2 : verErr (V k).data.toList = 0
          · rw [h2, if_neg (by simp)] at hR
            rw [h2, errV_zero] at hve
            replace hpa := Lib.hid hpa
            replace hve := Lib.hid hve
            clear hv h0 h1 h2
            go_wp2_with fail
            refine hpa.out.mono ?_
            rintro e w2 ⟨rfl, hb⟩
            replace hB1 := below_step hB1 hb
            replace hE2 := hE2.below hb
            replace y0 := Below.cell_some hb y0
            replace y1 := Below.cell_some hb y1
            clear hb hpa
            go_wp2_with fail
            refine (hve.out _ hE2).mono ?_
            rintro e w4 ⟨rfl, hb⟩
            replace hB1 := below_step hB1 hb
            replace hE2 := hE2.below hb
            replace y0 := Below.cell_some hb y0
            replace y1 := Below.cell_some hb y1
            clear hb hve
            by_cases hi0 : k = 0
            · subst hi0
              rw [if_neg (by omega)] at hR
              have HN : Hid (∀ j, j < 0 + 1 → capE (mdF n P V) j = 0) := Lib.hid (fun j hj => by
                obtain rfl : j = 0 := by omega
                exact hR)
              clear hR c0 c1
              go_wp2_with fail
              have kqy0 := fun d os => cell_patch (d := d) (os := os) y0
              have kqy1 := fun d os => cell_patch (d := d) (os := os) y1
              refine wp_region_quiet_patch (by kernel_rfl) (by kernel_rfl) ?_
              repeat (go_big_quiet_step (fail))
              refine wpQuiet_nil ?_
              intro _ hw'
              obtain ⟨⟨dq, osq⟩, hw''⟩ := hw'
              subst hw''
              clear kqy0 kqy1
              have hb := below_patch w4 dq osq
              replace hB1 := below_step hB1 hb
              clear hb
              generalize patch w4 dq osq = w3 at hB1 ⊢
              clear y0 y1
              go_wp2_with fail
              go_roundw
              case rel => exact ⟨1, by omega, by go_num, hB1, HN⟩
              case measure => simp [intOf]; omega
            · obtain ⟨m, rfl⟩ : ∃ m, k = m + 1 := ⟨k - 1, by omega⟩
              rw [Nat.add_sub_cancel, mdAt_mdF (show m < n by omega)] at hR
              have hle := leq_eq (P (m + 1)) (P m)
              have hk0 : (0 : Int) < ((m + 1 : Nat) : Int) := by omega
              have hk1 : ((m + 1 : Nat) : Int) - 1 = (m : Int) := by omega
              have hkw := wrap_nat m (by omega)
              have hkn : m < n := by omega
              have hkn2 : (m : Int) < (n : Int) := by omega
              obtain ⟨b2, o2, e1, d3, _⟩ := h7.out m (by omega)
              injection e1 with e1
              injection e1 with e1 e2
              subst e1 e2
              replace d3 := Below.cell_some hB1 d3
              clear c0 c1
              by_cases hc0 : compareBytes (P (m + 1)).data.toList (P m).data.toList ≤ 0
              · rw [if_pos ⟨Nat.succ_pos m, hc0⟩] at hR
                rw [decide_eq_true hc0] at hle
                have HF : Hid (capsErr (mdF n P V) = (8, ((m + 1 : Nat) : Int))) := Lib.hid (by
                  have h0 := firstE_hit (g := capE (mdF n P V)) (by rw [hR]; decide) HA.out hlt
                  unfold capsErr
                  rw [mdF_length, h0, hR])
                clear hR hc0
                go_wp2_with fail
                have kqy0 := fun d os => cell_patch (d := d) (os := os) y0
                have kqy1 := fun d os => cell_patch (d := d) (os := os) y1
                have kqd3 := fun d os => cell_patch (d := d) (os := os) d3
                refine wp_region_quiet_patch (by kernel_rfl) (by kernel_rfl) ?_
                repeat (go_big_quiet_step (fail))
                refine wpQuiet_nil ?_
                intro _ hw'
                obtain ⟨⟨dq, osq⟩, hw''⟩ := hw'
                subst hw''
                clear kqy0 kqy1 kqd3
                have hb := below_patch w4 dq osq
                replace hB1 := below_step hB1 hb
                replace hE2 := hE2.below hb
                clear hb
                generalize patch w4 dq osq = w3 at hB1 hE2 ⊢
                clear y0 y1 d3
                have g8 := hE2.errs.var 8 hks.2.2.2.2
                simp only [errG] at g8
                go_wp2_with fail
                go_ret
                rw [HF.out]
                refine ⟨⟨_, rfl, .inr (.inr ⟨(show (8 : Nat) ≠ 0 by decide), _, rfl, by simp, ?_⟩)⟩, hB1.alloc hB1.size _⟩
                show _ = some (errV A 8)
                rw [errV_pos A (show (8 : Nat) ≠ 0 by decide)]
                simp
              · rw [if_neg (fun h => hc0 h.2)] at hR
                rw [decide_eq_false hc0] at hle
                have HN : Hid (∀ j, j < m + 1 + 1 → capE (mdF n P V) j = 0) := Lib.hid (fun j hj => by
                  by_cases e : j = m + 1
                  · subst e; exact hR
                  · exact HA.out j (by omega))
                clear hR hc0
                go_wp2_with fail
                have kqy0 := fun d os => cell_patch (d := d) (os := os) y0
                have kqy1 := fun d os => cell_patch (d := d) (os := os) y1
                have kqd3 := fun d os => cell_patch (d := d) (os := os) d3
                refine wp_region_quiet_patch (by kernel_rfl) (by kernel_rfl) ?_
                repeat (go_big_quiet_step (fail))
                refine wpQuiet_nil ?_
                intro _ hw'
                obtain ⟨⟨dq, osq⟩, hw''⟩ := hw'
                subst hw''
                clear kqy0 kqy1 kqd3
                have hb := below_patch w4 dq osq
                replace hB1 := below_step hB1 hb
                clear hb
                generalize patch w4 dq osq = w3 at hB1 ⊢
                clear y0 y1 d3
                go_wp2_with fail
                go_roundw
                case rel => exact ⟨m + 1 + 1, by omega, by go_num, hB1, HN⟩
                case measure => simp [intOf]; omega
          · rw [if_pos h2] at hR
            rw [errV_pos A h2] at hve
            have HP2 := Lib.hid (errV_pos A h2)
            have HN2 := Lib.hid h2
            have HF : Hid (capsErr (mdF n P V) = (verErr (V k).data.toList, (k : Int))) := Lib.hid (by
              have h0 := firstE_hit (g := capE (mdF n P V)) (by rw [hR]; exact h2) HA.out hlt
              unfold capsErr
              rw [mdF_length, h0, hR])
            replace hpa := Lib.hid hpa
            replace hve := Lib.hid hve
            clear hv h0 h1 h2 hR
            go_wp2_with fail
            refine hpa.out.mono ?_
            rintro e w2 ⟨rfl, hb⟩
            replace hB1 := below_step hB1 hb
            replace hE2 := hE2.below hb
            replace y0 := Below.cell_some hb y0
            replace y1 := Below.cell_some hb y1
            clear hb hpa
            go_wp2_with fail
            refine (hve.out _ hE2).mono ?_
            rintro e w4 ⟨rfl, hb⟩
            replace hB1 := below_step hB1 hb
            replace y0 := Below.cell_some hb y0
            replace y1 := Below.cell_some hb y1
            clear hb hve
            go_wp2_with fail
            have kqy0 := fun d os => cell_patch (d := d) (os := os) y0
            have kqy1 := fun d os => cell_patch (d := d) (os := os) y1
            refine wp_region_quiet_patch (by kernel_rfl) (by kernel_rfl) ?_
            repeat (go_big_quiet_step (fail))
            refine wpQuiet_nil ?_
            intro _ hw'
            obtain ⟨⟨dq, osq⟩, hw''⟩ := hw'
            subst hw''
            clear kqy0 kqy1
            have hb := below_patch w4 dq osq
            replace hB1 := below_step hB1 hb
            clear hb
            generalize patch w4 dq osq = w3 at hB1 ⊢
            clear y0 y1
            go_wp2_with fail
            go_ret
            rw [HF.out]
            refine ⟨⟨_, rfl, .inr (.inr ⟨HN2.out, _, rfl, by simp, ?_⟩)⟩, hB1.alloc hB1.size _⟩
            show _ = some (errV A _)
            rw [HP2.out]
            simp
      · have h1 : cap1 ((P k).data.toList, (V k).data.toList) = pathErr (P k).data.toList := by simp [cap1, h0]
        rw [h1, if_pos h0] at hR
        rw [errV_pos A h0] at hpa
        have HP2 := Lib.hid (errV_pos A h0)
        have HN2 := Lib.hid h0
        have HF : Hid (capsErr (mdF n P V) = (pathErr (P k).data.toList, (k : Int))) := Lib.hid (by
          have h0 := firstE_hit (g := capE (mdF n P V)) (by rw [hR]; exact h0) HA.out hlt
          unfold capsErr
          rw [mdF_length, h0, hR])
        replace hpa := Lib.hid hpa
        clear h0 h1 hR hve
        go_wp2_with fail
        refine hpa.out.mono ?_
        rintro e w2 ⟨rfl, hb⟩
        replace hB1 := below_step hB1 hb
        replace y0 := Below.cell_some hb y0
        replace y1 := Below.cell_some hb y1
        clear hb hpa
        go_wp2_with fail
        have kqy0 := fun d os => cell_patch (d := d) (os := os) y0
        have kqy1 := fun d os => cell_patch (d := d) (os := os) y1
        refine wp_region_quiet_patch (by kernel_rfl) (by kernel_rfl) ?_
        repeat (go_big_quiet_step (fail))
        refine wpQuiet_nil ?_
        intro _ hw'
        obtain ⟨⟨dq, osq⟩, hw''⟩ := hw'
        subst hw''
        clear kqy0 kqy1
        have hb := below_patch w2 dq osq
        replace hB1 := below_step hB1 hb
        clear hb
        generalize patch w2 dq osq = w3 at hB1 ⊢
        clear y0 y1
        go_wp2_with fail
        go_ret
        rw [HF.out]
        refine ⟨⟨_, rfl, .inr (.inr ⟨HN2.out, _, rfl, by simp, ?_⟩)⟩, hB1.alloc hB1.size _⟩
        show _ = some (errV A _)
        rw [HP2.out]
        simp
    · obtain rfl : n = k := by omega
      have HF : Hid (capsErr (mdF n P V) = (0, -1)) := Lib.hid (by
        unfold capsErr
        rw [mdF_length, firstE_none HA.out])
      clear hlt HA
      go_wp2_with fail
      go_ret
      rw [HF.out]
      exact ⟨⟨_, rfl, .inl ⟨rfl, rfl, rfl⟩⟩, hBr⟩
end Go.Proofs.Pw

namespace Go.Proofs.Pw
open Go.RowKit
open Go.Lib hiding intOf
end Go.Proofs.Pw

namespace Go.Proofs.Pw
open Go.RowKit
open Go.Lib hiding intOf
end Go.Proofs.Pw

namespace Go.Proofs.Pw
open Go.RowKit
open Go.Lib hiding intOf
structure Box5 (w : World) (b : Nat) (v0 v1 v2 v3 v4 : Value) : Prop where
  c0 : w.cell? ⟨b, 0, none⟩ = some v0
  c1 : w.cell? ⟨b, 1, none⟩ = some v1
  c2 : w.cell? ⟨b, 2, none⟩ = some v2
  c3 : w.cell? ⟨b, 3, none⟩ = some v3
  c4 : w.cell? ⟨b, 4, none⟩ = some v4
theorem Box5.below {w w' : World} {b : Nat} {v0 v1 v2 v3 v4 : Value} (h : Box5 w b v0 v1 v2 v3 v4) (hb : Below w.heap.size w w') : Box5 w' b v0 v1 v2 v3 v4 :=
  ⟨Below.cell_some hb h.c0, Below.cell_some hb h.c1, Below.cell_some hb h.c2, Below.cell_some hb h.c3, Below.cell_some hb h.c4⟩
theorem box5_alloc (w : World) (v0 v1 v2 v3 v4 : Value) (t : TypeId) : Box5 (w.alloc (.cells #[v0, v1, v2, v3, v4] t)) w.heap.size v0 v1 v2 v3 v4 := ⟨by simp, by simp, by simp, by simp, by simp⟩
end Go.Proofs.Pw
