/- Da: walks and plain laws, joined: DnCheck RefA RefB RefC RefV. Conditions: at each theorem. -/
import Derived.Test.YtnanklfbmmionaaGreatDoorDag
import Derived.Test.YtnanklfbmmionaaGreatDoorDaj
import Derived.Test.YtnanklfbmmionaaGreatDoorDac
import Derived.Test.YtnanklfbmmionaaGreatDoorDaa
import Derived.Laws.AppendOwn
import Derived.LoopTactic
import Derived.OwnWalk
import Derived.Laws.IdiomStrings
import Derived.Shelf.SlSortCmp.QuietGrown
import Derived.Lib.AppendIntMem

namespace Go.Proofs.Pw
open Go.RowKit
open Go.Lib hiding intOf
set_option maxHeartbeats 4000000 in
set_option maxRecDepth 100000 in
theorem downCheck_calls (ks : List Nat) (A : Nat → Addr) (hks : IdxKs ks) (cv : Value) (caps : List Md) (w : World) (hE : EnvP ks A w) (hr : ModsAt w cv caps) (hs : Short caps) :
    Calls Tryz.prog 50 #[cv] w fun e w' => (∃ v, e = .returned v ∧ FaultAt A w' v (capsErr caps)) ∧ Below w.heap.size w w' := by
  obtain ⟨a, n, cap, P, V, rfl, rfl, hnc, hcap, h7⟩ := hr
  have hP : Hid (∀ j, j < n → (P j).size ≤ 1000000 ∧ (V j).size ≤ 1000000) := Lib.hid (fun j hj => by
    have := hs.2 _ (List.mem_of_getElem? (mdF_get n P V j hj))
    rw [size_eq, size_eq]; exact this)
  have hn : n ≤ 1000000 := by have := hs.1; rw [mdF_length] at this; exact this
  have hB0 := Below.refl w.heap.size w
  replace h7 := Lib.hid h7
  clear hs hnc hcap
  go_enter Tryz.func50, Tryz.ntmps50
  go_wp2_with fail
  go_loopw [3, 5, 8] (fun _ _ i wr => ∃ k : Nat, k ≤ n ∧ i = .int .i64 k ∧ Below w.heap.size w wr ∧ Hid (∀ j, j < k → capE (mdF n P V) j = 0)) (fun _ _ i _ => n - (intOf i).toNat)
  case atStart => exact ⟨0, Nat.zero_le _, rfl, hB0, Lib.hid (fun j hj => absurd hj (Nat.not_lt_zero _))⟩
  case round =>
    obtain ⟨k, hk, rfl, hBr, HA⟩ := hrel
    by_cases hlt : k < n
    · have hkn : (k : Int) < (n : Int) := by omega
      obtain ⟨b1, o1, rfl, c0, c1⟩ := h7.out k hlt
      replace c0 := Below.cell_some hBr c0
      replace c1 := Below.cell_some hBr c1
      have hba := below_alloc wr (.cells #[.string (P k), .string (V k)] 29)
      obtain ⟨y0, y1, _⟩ := box2_alloc wr (.string (P k)) (.string (V k)) 29
      have hB1 := below_step hBr hba
      have hE2 := hE.below hB1
      have hpa := path_calls ks A hks.2.1 (P k) (wr.alloc (.cells #[.string (P k), .string (V k)] 29)) hE2 (by have := (hP.out k hlt).1; omega)
      have hve := fun W hW => verCheck_calls ks A (V k) W hW (by have := (hP.out k hlt).2; omega)
      have hR : capE (mdF n P V) k = if cap1 ((P k).data.toList, (V k).data.toList) ≠ 0 then cap1 ((P k).data.toList, (V k).data.toList) else if 0 < k ∧ compareBytes (P k).data.toList (mdAt (mdF n P V) (k - 1)).1 ≤ 0 then 8 else 0 := by
        unfold capE
        rw [mdAt_mdF hlt]
      clear hba
      by_cases h0 : pathErr (P k).data.toList = 0
      · rw [h0, errV_zero] at hpa
        by_cases hv : (V k).data.toList = noneS
        · have h1 : cap1 ((P k).data.toList, (V k).data.toList) = 0 := by simp [cap1, h0, hv]
          rw [h1, if_neg (by simp)] at hR
          have hv1 : ((V k).toList == [110, 111, 110, 101]) = true := by rw [toList_data, hv]; rfl
          replace hpa := Lib.hid hpa
          clear hv h0 h1 hve
          go_wp2_with fail
          refine hpa.out.mono ?_
          rintro e w2 ⟨rfl, hb⟩
          replace hB1 := below_step hB1 hb
          replace hE2 := hE2.below hb
          replace y0 := Below.cell_some hb y0
          replace y1 := Below.cell_some hb y1
          clear hb hpa
          by_cases hi0 : k = 0
          · subst hi0
            rw [if_neg (by omega)] at hR
            have HN : Hid (∀ j, j < 0 + 1 → capE (mdF n P V) j = 0) := Lib.hid (fun j hj => by
              obtain rfl : j = 0 := by omega
              exact hR)
            clear hR c0 c1
            go_wp2_with fail
            have kqy0 := fun d os => cell_patch (d := d) (os := os) y0
            have kqy1 := fun d os => cell_patch (d := d) (os := os) y1
            refine wp_region_quiet_patch (by kernel_rfl) (by kernel_rfl) ?_
            repeat (go_big_quiet_step (fail))
            refine wpQuiet_nil ?_
            intro _ hw'
            obtain ⟨⟨dq, osq⟩, hw''⟩ := hw'
            subst hw''
            clear kqy0 kqy1
            have hb := below_patch w2 dq osq
            replace hB1 := below_step hB1 hb
            clear hb
            generalize patch w2 dq osq = w3 at hB1 ⊢
            clear y0 y1
            go_wp2_with fail
            go_roundw
            case rel => exact ⟨1, by omega, by go_num, hB1, HN⟩
            case measure => simp [intOf]; omega
          · obtain ⟨m, rfl⟩ : ∃ m, k = m + 1 := ⟨k - 1, by omega⟩
            rw [Nat.add_sub_cancel, mdAt_mdF (show m < n by omega)] at hR
            have hle := leq_eq (P (m + 1)) (P m)
            have hk0 : (0 : Int) < ((m + 1 : Nat) : Int) := by omega
            have hk1 : ((m + 1 : Nat) : Int) - 1 = (m : Int) := by omega
            have hkw := wrap_nat m (by omega)
            have hkn : m < n := by omega
            have hkn2 : (m : Int) < (n : Int) := by omega
            obtain ⟨b2, o2, e1, d3, _⟩ := h7.out m (by omega)
            injection e1 with e1
            injection e1 with e1 e2
            subst e1 e2
            replace d3 := Below.cell_some hB1 d3
            clear c0 c1
            by_cases hc0 : compareBytes (P (m + 1)).data.toList (P m).data.toList ≤ 0
            · rw [if_pos ⟨Nat.succ_pos m, hc0⟩] at hR
              rw [decide_eq_true hc0] at hle
              have HF : Hid (capsErr (mdF n P V) = (8, ((m + 1 : Nat) : Int))) := Lib.hid (by
                have h0 := firstE_hit (g := capE (mdF n P V)) (by rw [hR]; decide) HA.out hlt
                unfold capsErr
                rw [mdF_length, h0, hR])
              clear hR hc0
              go_wp2_with fail
              have kqy0 := fun d os => cell_patch (d := d) (os := os) y0
              have kqy1 := fun d os => cell_patch (d := d) (os := os) y1
              have kqd3 := fun d os => cell_patch (d := d) (os := os) d3
              refine wp_region_quiet_patch (by kernel_rfl) (by kernel_rfl) ?_
              repeat (go_big_quiet_step (fail))
              refine wpQuiet_nil ?_
              intro _ hw'
              obtain ⟨⟨dq, osq⟩, hw''⟩ := hw'
              subst hw''
              clear kqy0 kqy1 kqd3
              have hb := below_patch w2 dq osq
              replace hB1 := below_step hB1 hb
              replace hE2 := hE2.below hb
              clear hb
              generalize patch w2 dq osq = w3 at hB1 hE2 ⊢
              clear y0 y1 d3
              have g8 := hE2.errs.var 8 hks.2.2.2.2
              simp only [errG] at g8
              go_wp2_with fail
              go_ret
              rw [HF.out]
              refine ⟨⟨_, rfl, .inr (.inr ⟨(show (8 : Nat) ≠ 0 by decide), _, rfl, by simp, ?_⟩)⟩, hB1.alloc hB1.size _⟩
              show _ = some (errV A 8)
              rw [errV_pos A (show (8 : Nat) ≠ 0 by decide)]
              simp
            · rw [if_neg (fun h => hc0 h.2)] at hR
              rw [decide_eq_false hc0] at hle
              have HN : Hid (∀ j, j < m + 1 + 1 → capE (mdF n P V) j = 0) := Lib.hid (fun j hj => by
                by_cases e : j = m + 1
                · subst e; exact hR
                · exact HA.out j (by omega))
              clear hR hc0
              go_wp2_with fail
              have kqy0 := fun d os => cell_patch (d := d) (os := os) y0
              have kqy1 := fun d os => cell_patch (d := d) (os := os) y1
              have kqd3 := fun d os => cell_patch (d := d) (os := os) d3
              refine wp_region_quiet_patch (by kernel_rfl) (by kernel_rfl) ?_
              repeat (go_big_quiet_step (fail))
              refine wpQuiet_nil ?_
              intro _ hw'
              obtain ⟨⟨dq, osq⟩, hw''⟩ := hw'
              subst hw''
              clear kqy0 kqy1 kqd3
              have hb := below_patch w2 dq osq
              replace hB1 := below_step hB1 hb
              clear hb
              generalize patch w2 dq osq = w3 at hB1 ⊢
              clear y0 y1 d3
              go_wp2_with fail
              go_roundw
              case rel => exact ⟨m + 1 + 1, by omega, by go_num, hB1, HN⟩
              case measure => simp [intOf]; omega
        · have h1 : cap1 ((P k).data.toList, (V k).data.toList) = verErr (V k).data.toList := by simp [cap1, h0, hv]
          rw [h1] at hR
          have hv1 : ((V k).toList == [110, 111, 110, 101]) = false := by rw [toList_data]; exact beq_eq_false_iff_ne.2 hv
          by_cases h2 : verErr (V k).data.toList = 0
          · rw [h2, if_neg (by simp)] at hR
            rw [h2, errV_zero] at hve
            replace hpa := Lib.hid hpa
            replace hve := Lib.hid hve
            clear hv h0 h1 h2
            go_wp2_with fail
            refine hpa.out.mono ?_
            rintro e w2 ⟨rfl, hb⟩
            replace hB1 := below_step hB1 hb
            replace hE2 := hE2.below hb
            replace y0 := Below.cell_some hb y0
            replace y1 := Below.cell_some hb y1
            clear hb hpa
            go_wp2_with fail
            refine (hve.out _ hE2).mono ?_
            rintro e w4 ⟨rfl, hb⟩
            replace hB1 := below_step hB1 hb
            replace hE2 := hE2.below hb
            replace y0 := Below.cell_some hb y0
            replace y1 := Below.cell_some hb y1
            clear hb hve
            by_cases hi0 : k = 0
            · subst hi0
              rw [if_neg (by omega)] at hR
              have HN : Hid (∀ j, j < 0 + 1 → capE (mdF n P V) j = 0) := Lib.hid (fun j hj => by
                obtain rfl : j = 0 := by omega
                exact hR)
              clear hR c0 c1
              go_wp2_with fail
              have kqy0 := fun d os => cell_patch (d := d) (os := os) y0
              have kqy1 := fun d os => cell_patch (d := d) (os := os) y1
              refine wp_region_quiet_patch (by kernel_rfl) (by kernel_rfl) ?_
              repeat (go_big_quiet_step (fail))
              refine wpQuiet_nil ?_
              intro _ hw'
              obtain ⟨⟨dq, osq⟩, hw''⟩ := hw'
              subst hw''
              clear kqy0 kqy1
              have hb := below_patch w4 dq osq
              replace hB1 := below_step hB1 hb
              clear hb
              generalize patch w4 dq osq = w3 at hB1 ⊢
              clear y0 y1
              go_wp2_with fail
              go_roundw
              case rel => exact ⟨1, by omega, by go_num, hB1, HN⟩
              case measure => simp [intOf]; omega
            · obtain ⟨m, rfl⟩ : ∃ m, k = m + 1 := ⟨k - 1, by omega⟩
              rw [Nat.add_sub_cancel, mdAt_mdF (show m < n by omega)] at hR
              have hle := leq_eq (P (m + 1)) (P m)
              have hk0 : (0 : Int) < ((m + 1 : Nat) : Int) := by omega
              have hk1 : ((m + 1 : Nat) : Int) - 1 = (m : Int) := by omega
              have hkw := wrap_nat m (by omega)
              have hkn : m < n := by omega
              have hkn2 : (m : Int) < (n : Int) := by omega
              obtain ⟨b2, o2, e1, d3, _⟩ := h7.out m (by omega)
              injection e1 with e1
              injection e1 with e1 e2
              subst e1 e2
              replace d3 := Below.cell_some hB1 d3
              clear c0 c1
              by_cases hc0 : compareBytes (P (m + 1)).data.toList (P m).data.toList ≤ 0
              · rw [if_pos ⟨Nat.succ_pos m, hc0⟩] at hR
                rw [decide_eq_true hc0] at hle
                have HF : Hid (capsErr (mdF n P V) = (8, ((m + 1 : Nat) : Int))) := Lib.hid (by
                  have h0 := firstE_hit (g := capE (mdF n P V)) (by rw [hR]; decide) HA.out hlt
                  unfold capsErr
                  rw [mdF_length, h0, hR])
                clear hR hc0
                go_wp2_with fail
                have kqy0 := fun d os => cell_patch (d := d) (os := os) y0
                have kqy1 := fun d os => cell_patch (d := d) (os := os) y1
                have kqd3 := fun d os => cell_patch (d := d) (os := os) d3
                refine wp_region_quiet_patch (by kernel_rfl) (by kernel_rfl) ?_
                repeat (go_big_quiet_step (fail))
                refine wpQuiet_nil ?_
                intro _ hw'
                obtain ⟨⟨dq, osq⟩, hw''⟩ := hw'
                subst hw''
                clear kqy0 kqy1 kqd3
                have hb := below_patch w4 dq osq
                replace hB1 := below_step hB1 hb
                replace hE2 := hE2.below hb
                clear hb
                generalize patch w4 dq osq = w3 at hB1 hE2 ⊢
                clear y0 y1 d3
                have g8 := hE2.errs.var 8 hks.2.2.2.2
                simp only [errG] at g8
                go_wp2_with fail
                go_ret
                rw [HF.out]
                refine ⟨⟨_, rfl, .inr (.inr ⟨(show (8 : Nat) ≠ 0 by decide), _, rfl, by simp, ?_⟩)⟩, hB1.alloc hB1.size _⟩
                show _ = some (errV A 8)
                rw [errV_pos A (show (8 : Nat) ≠ 0 by decide)]
                simp
              · rw [if_neg (fun h => hc0 h.2)] at hR
                rw [decide_eq_false hc0] at hle
                have HN : Hid (∀ j, j < m + 1 + 1 → capE (mdF n P V) j = 0) := Lib.hid (fun j hj => by
                  by_cases e : j = m + 1
                  · subst e; exact hR
                  · exact HA.out j (by omega))
                clear hR hc0
                go_wp2_with fail
                have kqy0 := fun d os => cell_patch (d := d) (os := os) y0
                have kqy1 := fun d os => cell_patch (d := d) (os := os) y1
                have kqd3 := fun d os => cell_patch (d := d) (os := os) d3
                refine wp_region_quiet_patch (by kernel_rfl) (by kernel_rfl) ?_
                repeat (go_big_quiet_step (fail))
                refine wpQuiet_nil ?_
                intro _ hw'
                obtain ⟨⟨dq, osq⟩, hw''⟩ := hw'
                subst hw''
                clear kqy0 kqy1 kqd3
                have hb := below_patch w4 dq osq
                replace hB1 := below_step hB1 hb
                clear hb
                generalize patch w4 dq osq = w3 at hB1 ⊢
                clear y0 y1 d3
                go_wp2_with fail
                go_roundw
                case rel => exact ⟨m + 1 + 1, by omega, by go_num, hB1, HN⟩
                case measure => simp [intOf]; omega
          · rw [if_pos h2] at hR
            rw [errV_pos A h2] at hve
            have HP2 := Lib.hid (errV_pos A h2)
            have HN2 := Lib.hid h2
            have HF : Hid (capsErr (mdF n P V) = (verErr (V k).data.toList, (k : Int))) := Lib.hid (by
              have h0 := firstE_hit (g := capE (mdF n P V)) (by rw [hR]; exact h2) HA.out hlt
              unfold capsErr
              rw [mdF_length, h0, hR])
            replace hpa := Lib.hid hpa
            replace hve := Lib.hid hve
            clear hv h0 h1 h2 hR
            go_wp2_with fail
            refine hpa.out.mono ?_
            rintro e w2 ⟨rfl, hb⟩
            replace hB1 := below_step hB1 hb
            replace hE2 := hE2.below hb
            replace y0 := Below.cell_some hb y0
            replace y1 := Below.cell_some hb y1
            clear hb hpa
            go_wp2_with fail
            refine (hve.out _ hE2).mono ?_
            rintro e w4 ⟨rfl, hb⟩
            replace hB1 := below_step hB1 hb
            replace y0 := Below.cell_some hb y0
            replace y1 := Below.cell_some hb y1
            clear hb hve
            go_wp2_with fail
            have kqy0 := fun d os => cell_patch (d := d) (os := os) y0
            have kqy1 := fun d os => cell_patch (d := d) (os := os) y1
            refine wp_region_quiet_patch (by kernel_rfl) (by kernel_rfl) ?_
            repeat (go_big_quiet_step (fail))
            refine wpQuiet_nil ?_
            intro _ hw'
            obtain ⟨⟨dq, osq⟩, hw''⟩ := hw'
            subst hw''
            clear kqy0 kqy1
            have hb := below_patch w4 dq osq
            replace hB1 := below_step hB1 hb
            clear hb
            generalize patch w4 dq osq = w3 at hB1 ⊢
            clear y0 y1
            go_wp2_with fail
            go_ret
            rw [HF.out]
            refine ⟨⟨_, rfl, .inr (.inr ⟨HN2.out, _, rfl, by simp, ?_⟩)⟩, hB1.alloc hB1.size _⟩
            show _ = some (errV A _)
            rw [HP2.out]
            simp
      · have h1 : cap1 ((P k).data.toList, (V k).data.toList) = pathErr (P k).data.toList := by simp [cap1, h0]
        rw [h1, if_pos h0] at hR
        rw [errV_pos A h0] at hpa
        have HP2 := Lib.hid (errV_pos A h0)
        have HN2 := Lib.hid h0
        have HF : Hid (capsErr (mdF n P V) = (pathErr (P k).data.toList, (k : Int))) := Lib.hid (by
          have h0 := firstE_hit (g := capE (mdF n P V)) (by rw [hR]; exact h0) HA.out hlt
          unfold capsErr
          rw [mdF_length, h0, hR])
        replace hpa := Lib.hid hpa
        clear h0 h1 hR hve
        go_wp2_with fail
        refine hpa.out.mono ?_
        rintro e w2 ⟨rfl, hb⟩
        replace hB1 := below_step hB1 hb
        replace y0 := Below.cell_some hb y0
        replace y1 := Below.cell_some hb y1
        clear hb hpa
        go_wp2_with fail
        have kqy0 := fun d os => cell_patch (d := d) (os := os) y0
        have kqy1 := fun d os => cell_patch (d := d) (os := os) y1
        refine wp_region_quiet_patch (by kernel_rfl) (by kernel_rfl) ?_
        repeat (go_big_quiet_step (fail))
        refine wpQuiet_nil ?_
        intro _ hw'
        obtain ⟨⟨dq, osq⟩, hw''⟩ := hw'
        subst hw''
        clear kqy0 kqy1
        have hb := below_patch w2 dq osq
        replace hB1 := below_step hB1 hb
        clear hb
        generalize patch w2 dq osq = w3 at hB1 ⊢
        clear y0 y1
        go_wp2_with fail
        go_ret
        rw [HF.out]
        refine ⟨⟨_, rfl, .inr (.inr ⟨HN2.out, _, rfl, by simp, ?_⟩)⟩, hB1.alloc hB1.size _⟩
        show _ = some (errV A _)
        rw [HP2.out]
        simp
    · obtain rfl : n = k := by omega
      have HF : Hid (capsErr (mdF n P V) = (0, -1)) := Lib.hid (by
        unfold capsErr
        rw [mdF_length, firstE_none HA.out])
      clear hlt HA
      go_wp2_with fail
      go_ret
      rw [HF.out]
      exact ⟨⟨_, rfl, .inl ⟨rfl, rfl, rfl⟩⟩, hBr⟩
end Go.Proofs.Pw

namespace Go.Proofs.Pw
open Go.RowKit
open Go.Lib hiding intOf
theorem take_snoc (s : ByteArray) (k : Nat) (h : k < s.size) : s.data.toList.take (k + 1) = s.data.toList.take k ++ [s[k]] := by
  rw [List.take_succ_eq_append_getElem (by simpa using h)]; rfl
theorem drop_cons (s : ByteArray) (k : Nat) (h : k < s.size) : s.data.toList.drop k = s[k] :: s.data.toList.drop (k + 1) := by
  rw [List.drop_eq_getElem_cons (by simpa using h)]; rfl
theorem byte_mem (s : ByteArray) (k : Nat) (h : k < s.size) : s[k] ∈ s.data.toList := by
  have : s[k] = s.data.toList[k]'(by simpa using h) := rfl
  rw [this]; exact List.getElem_mem _
theorem take_size (s : ByteArray) : s.data.toList.take s.size = s.data.toList := by rw [size_eq, List.take_length]
theorem drop_size (s : ByteArray) : s.data.toList.drop s.size = [] := by rw [size_eq, List.drop_length]
theorem isDig_no {c : UInt8} (h : (c.toNat : Int) < 48 ∨ 57 < (c.toNat : Int)) : isDig c = false := by unfold isDig; apply decide_eq_false; omega
theorem isDig_yes {c : UInt8} (h1 : ¬ (c.toNat : Int) < 48) (h2 : ¬ 57 < (c.toNat : Int)) : isDig c = true := by unfold isDig; apply decide_eq_true; omega
theorem areDigits_no {s : ByteArray} {k : Nat} (h : k < s.size) (hd : isDig s[k] = false) : areDigits s.data.toList = false := by
  unfold areDigits
  have : s.data.toList.all isDig = false := by
    rw [Bool.eq_false_iff]
    intro e
    have := List.all_eq_true.1 e _ (byte_mem s k h)
    rw [hd] at this
    cases this
  rw [this, Bool.and_false]
theorem areDigits_yes {s : ByteArray} (h : 0 < s.size) (ha : (s.data.toList.take s.size).all isDig = true) : areDigits s.data.toList = true := by
  rw [take_size] at ha
  unfold areDigits
  rw [ha]
  cases e : s.data.toList with
  | nil => rw [size_eq, e] at h; simp at h
  | cons => rfl
theorem areDigits_none {s : ByteArray} (h : s.size = 0) : areDigits s.data.toList = false := by
  have : s.data.toList = [] := List.length_eq_zero_iff.1 (by rw [← size_eq]; exact h)
  rw [this]; rfl
theorem refDigits_calls (s : ByteArray) (w : World) (hs : s.size ≤ 4000000000) :
    Calls Tryz.prog 88 #[.string s] w fun e w' => e = .returned (.bool (areDigits s.data.toList)) ∧ w = w' := by
  go_enter Tryz.func88, Tryz.ntmps88
  go_wp2_with fail
  go_loop [3] (fun i => ∃ k : Nat, k ≤ s.size ∧ i = .int .i64 k ∧ Hid ((s.data.toList.take k).all isDig = true)) (fun i => s.size - (intOf i).toNat)
  case atStart => exact ⟨0, Nat.zero_le _, rfl, Lib.hid rfl⟩
  case round =>
    obtain ⟨k, hk, rfl, HA⟩ := hrel
    by_cases hlt : k < s.size
    · by_cases h1 : (s[k].toNat : Int) < 48
      · have HF := Lib.hid (areDigits_no hlt (isDig_no (.inl h1)))
        go_wp2_with fail
        go_ret
        rw [HF.out]
        exact ⟨rfl, rfl⟩
      · by_cases h2 : 57 < (s[k].toNat : Int)
        · have HF := Lib.hid (areDigits_no hlt (isDig_no (.inr h2)))
          go_wp2_with fail
          go_ret
          rw [HF.out]
          exact ⟨rfl, rfl⟩
        · have HN : Hid ((s.data.toList.take (k + 1)).all isDig = true) := Lib.hid (by rw [take_snoc s k hlt, List.all_append, HA.out]; simp [isDig_yes h1 h2])
          go_wp2_with fail
          go_round
          case rel => exact ⟨k + 1, by omega, by go_num, HN⟩
          case measure => simp [intOf]; omega
    · obtain rfl : k = s.size := by omega
      by_cases h0 : 0 < s.size
      · have HF := Lib.hid (areDigits_yes h0 HA.out)
        go_wp2_with fail
        go_ret
        rw [HF.out]
        exact ⟨rfl, rfl⟩
      · have HF := Lib.hid (areDigits_none (s := s) (by omega))
        go_wp2_with fail
        go_ret
        rw [HF.out]
        exact ⟨rfl, rfl⟩
theorem decVal_bound {l : Str} (h : l.all isDig = true) (h6 : l.length ≤ 6) : decVal l ≤ 999999 := by
  have h1 := decVal_lt l h
  have := Nat.pow_le_pow_right (n := 10) (by decide) h6
  omega
set_option maxHeartbeats 400000 in
theorem refNumber_calls (s : ByteArray) (w : World) (hs : s.size ≤ 4000000000) :
    Calls Tryz.prog 118 #[.string s] w fun e w' => e = .returned (.tuple #[.int .i64 ((numberOf s.data.toList).1 : Nat), .int .i64 ((numberOf s.data.toList).2 : Nat)]) ∧ w = w' := by
  cases hd : areDigits s.data.toList with
  | false =>
    have HF := Lib.hid (numberOf_text (s := s.data.toList) (.inl hd))
    have HD := Lib.hid hd
    clear hd
    go_enter Tryz.func118, Tryz.ntmps118
    go_wp2_with fail
    refine (refDigits_calls s w hs).mono ?_
    rintro e w' ⟨rfl, rfl⟩
    rw [HD.out]
    go_wp2_with fail
    go_ret2
    rw [HF.out]
    exact ⟨rfl, rfl⟩
  | true =>
    have HD := Lib.hid hd
    have hall : s.data.toList.all isDig = true := by
      unfold areDigits at hd; simp only [Bool.and_eq_true] at hd; exact hd.2
    have hne : 0 < s.size := by
      rw [size_eq]
      cases hsd : s.data.toList with
      | nil => rw [hsd] at hd; simp [areDigits] at hd
      | cons c r => simp
    have h0 : s.data.toList.head? = some (s[0]'hne) := by
      rw [List.head?_eq_getElem?, List.getElem?_eq_getElem (by rw [← size_eq]; omega)]; rfl
    have HA := Lib.hid hall
    by_cases hz : 1 < s.size ∧ s[0]'hne = 48
    · have HF := Lib.hid (numberOf_text (s := s.data.toList) (.inr ⟨by rw [← size_eq]; exact hz.1, by rw [h0, hz.2]⟩))
      have h1 := hz.1
      have h2 : ((s[0]'hne).toNat : Int) = 48 := by rw [hz.2]; rfl
      clear hd hall h0 hz
      go_enter Tryz.func118, Tryz.ntmps118
      go_wp2_with fail
      refine (refDigits_calls s w hs).mono ?_
      rintro e w' ⟨rfl, rfl⟩
      rw [HD.out]
      go_wp2_with fail
      go_ret2
      rw [HF.out]
      exact ⟨rfl, rfl⟩
    · have hz2 : ¬ (1 < s.data.toList.length ∧ s.data.toList.head? = some 48) := by
        rw [← size_eq, h0]
        rintro ⟨h1, h2⟩
        exact hz ⟨h1, Option.some.inj h2⟩
      have hnot : ¬ (areDigits s.data.toList = false ∨ (1 < s.data.toList.length ∧ s.data.toList.head? = some 48)) := by
        rintro (h | h)
        · rw [hd] at h; cases h
        · exact hz2 h
      have h01 : (1 < s.size ∧ (((s[0]'hne).toNat : Int) == 48) = false) ∨ ¬ 1 < s.size := by
        by_cases h1 : 1 < s.size
        · refine .inl ⟨h1, ?_⟩
          rw [beq_eq_false_iff_ne]
          intro e
          refine hz ⟨h1, ?_⟩
          have : (s[0]'hne).toNat = 48 := by exact_mod_cast e
          rw [show (48 : UInt8) = UInt8.ofNat 48 from rfl, ← this, UInt8.ofNat_toNat]
        · exact .inr h1
      by_cases h6 : 6 < s.size
      · have HF := Lib.hid (numberOf_long hnot (by rw [← size_eq]; exact h6))
        obtain ⟨h1, h2⟩ := h01.resolve_right (by omega)
        clear hd hall h0 hz hz2 hnot
        go_enter Tryz.func118, Tryz.ntmps118
        go_wp2_with fail
        refine (refDigits_calls s w hs).mono ?_
        rintro e w' ⟨rfl, rfl⟩
        rw [HD.out]
        go_wp2_with fail
        go_ret2
        rw [HF.out]
        exact ⟨rfl, rfl⟩
      · have HF := Lib.hid (numberOf_ok hnot (by rw [← size_eq]; exact h6))
        clear hd hall h0 hz hz2 hnot
        rcases h01 with ⟨h1, h2⟩ | h1
        all_goals
          go_enter Tryz.func118, Tryz.ntmps118
          go_wp2_with fail
          refine (refDigits_calls s w hs).mono ?_
          rintro e w' ⟨rfl, rfl⟩
          rw [HD.out]
          go_wp2_with fail
          go_loop [5, 6] (fun n i => ∃ k : Nat, k ≤ s.size ∧ i = .int .i64 k ∧ n = .int .i64 (decVal (s.data.toList.take k) : Nat)) (fun _ i => s.size - (intOf i).toNat)
          case atStart => exact ⟨0, Nat.zero_le _, rfl, rfl⟩
          case' round =>
            obtain ⟨k, hk, rfl, rfl⟩ := hrel
            by_cases hlt : k < s.size
            case' pos =>
              have hc := dig_lt (List.all_eq_true.1 HA.out _ (byte_mem s k hlt))
              have hall : (s.data.toList.take k).all isDig = true := List.all_eq_true.2 fun c hc => List.all_eq_true.1 HA.out c (List.mem_of_mem_take hc)
              have hb := decVal_bound hall (by rw [List.length_take]; omega)
              have HN : Hid (decVal (s.data.toList.take (k + 1)) = 10 * decVal (s.data.toList.take k) + (s[k].toNat - 48)) := Lib.hid (by rw [take_snoc s k hlt, decVal_snoc])
              have hc1 : (s[k].toNat : Int) - 48 ≤ 9 := by omega
              have hc2 : 48 ≤ (s[k].toNat : Int) := by omega
              generalize decVal (s.data.toList.take k) = v at hb HN ⊢
              clear hc hall
              go_wp2_with fail
              go_round
              case rel => exact ⟨k + 1, by omega, by go_num, by rw [HN.out]; go_num⟩
              case measure => simp [intOf]; omega
            case' neg =>
              obtain rfl : k = s.size := by omega
              have HT := Lib.hid (take_size s)
              go_wp2_with fail
              go_ret2
              rw [HF.out, HT.out]
              exact ⟨rfl, rfl⟩
end Go.Proofs.Pw

namespace Go.Proofs.Pw
open Go.RowKit
open Go.Lib hiding intOf
theorem Tryz.infoString : (Tryz.prog.info? 9).map (fun i => (i.zero, i.size, i.bytes)) = some (some (.string ⟨#[]⟩), 1, 16) := by kernel_rfl
def strVs (l : List ByteArray) : List Value := l.map Value.string
def strTs (l : List ByteArray) : List Str := l.map (·.data.toList)
theorem strVs_snoc (l : List ByteArray) (x : ByteArray) : strVs l ++ [.string x] = strVs (l ++ [x]) := by simp [strVs]
theorem strTs_snoc (l : List ByteArray) (x : ByteArray) : strTs (l ++ [x]) = strTs l ++ [x.data.toList] := by simp [strTs]
theorem lstF_list (l : List ByteArray) : lstF l.length (fun j => l.getD j ByteArray.empty) = strTs l := by
  apply List.ext_getElem
  · simp [lstF_length, strTs]
  · intro i h1 h2
    simp only [strTs, List.length_map] at h2
    simp [lstF, strTs, List.getD_eq_getElem?_getD, List.getElem?_eq_getElem h2]
theorem strsAt_own {w : World} {base e : Nat} {v : Value} {l : List ByteArray} (h : w.ownsRow base e 1 v l.length (strVs l)) : StrsAt w v (strTs l) := by
  rcases h.2 with ⟨rfl, h0⟩ | ⟨g, cap, cur, rfl, hb, hg, hn, hm, hs, ht⟩
  · have : l = [] := List.eq_nil_of_length_eq_zero h0
    subst this
    exact StrsAt.nil w
  · refine ⟨_, l.length, cap, fun j => l.getD j ByteArray.empty, rfl, (lstF_list l).symm, hn, by unfold maxLen at hm; exact hm, fun j hj => ⟨g, 0, rfl, ?_⟩⟩
    rw [Nat.zero_add, cell_of_row w g j cur e (0, 0) hg]
    have h1 : (strVs l)[j]? = some (.string (l.getD j ByteArray.empty)) := by
      simp [strVs, List.getD_eq_getElem?_getD, List.getElem?_eq_getElem hj]
    rw [← ht, List.getElem?_take, if_pos (by omega)] at h1
    simpa using h1
def NewRow (w : World) (v : Value) : Prop := ∀ q n c, v = .slice (some q) n c → w.heap.size ≤ q.block
theorem newRow_own {w w' : World} {e k n : Nat} {v : Value} {xs : List Value} (h : w'.ownsRow w.heap.size e k v n xs) : NewRow w v := by
  rintro q m c rfl
  exact (h.lt q.block rfl).1
theorem extract_take_drop (s : ByteArray) (g k : Nat) (_hk : k ≤ s.size) : (s.extract g k).data.toList = (s.data.toList.take k).drop g := by
  rw [extract_data, List.drop_take]
theorem cutAt_step (c : UInt8) (s : ByteArray) (k g : Nat) (hlt : k < s.size) (hg : g ≤ k) :
    cutAt c ((s.data.toList.take k).drop g) (s.data.toList.drop k) = if s[k] = c then (s.extract g k).data.toList :: cutAt c ((s.data.toList.take (k + 1)).drop (k + 1)) (s.data.toList.drop (k + 1)) else cutAt c ((s.data.toList.take (k + 1)).drop g) (s.data.toList.drop (k + 1)) := by
  have e1 : (s.data.toList.take (k + 1)).drop (k + 1) = [] := List.drop_eq_nil_of_le (by rw [List.length_take]; omega)
  have e2 : (s.data.toList.take (k + 1)).drop g = (s.data.toList.take k).drop g ++ [s[k]] := by
    rw [take_snoc s k hlt, List.drop_append_of_le_length (by rw [List.length_take, ← size_eq]; omega)]
  rw [drop_cons s k hlt, cutAt, extract_take_drop s g k (by omega), e1, e2]
set_option maxHeartbeats 400000 in
theorem refCut_calls (s : ByteArray) (c : UInt8) (w : World) (hs : s.size ≤ 1000000000) :
    Calls Tryz.prog 87 #[.string s, .int .u8 c.toNat] w fun e w' => (∃ v, e = .returned v ∧ StrsAt w' v (split s.data.toList [c]) ∧ NewRow w v) ∧ Below w.heap.size w w' := by
  obtain ⟨i0, hi, hz0, hz1, hz2⟩ := info_parts Tryz.infoString
  go_enter Tryz.func87, Tryz.ntmps87
  go_wp2_with fail
  go_loopw [5, 6, 7] (fun v f i wr => ∃ (k g : Nat) (P : List ByteArray), k ≤ s.size ∧ g ≤ k ∧ P.length ≤ k ∧ i = .int .i64 k ∧ f = .int .i64 g ∧ wr.ownsRow w.heap.size 9 1 v P.length (strVs P) ∧ Below w.heap.size w wr ∧ Hid (split s.data.toList [c] = strTs P ++ cutAt c ((s.data.toList.take k).drop g) (s.data.toList.drop k))) (fun _ _ i _ => s.size - (intOf i).toNat)
  case atStart => exact ⟨0, 0, [], Nat.zero_le _, Nat.le_refl _, Nat.le_refl _, rfl, rfl, World.ownsRow_nil _ _ _ _, Below.refl _ _, Lib.hid (split_eq c s.data.toList)⟩
  case round =>
    obtain ⟨k, g, P, hk, hg, hP, rfl, rfl, hown, hb, HC⟩ := hrel
    by_cases hlt : k < s.size
    · have hst := cutAt_step c s k g hlt hg
      by_cases hc : s[k] = c
      · rw [if_pos hc] at hst
        have hq : ((s[k].toNat : Int) == (c.toNat : Int)) = true := by rw [hc]; simp
        have HN : Hid (split s.data.toList [c] = strTs (P ++ [s.extract g k]) ++ cutAt c ((s.data.toList.take (k + 1)).drop (k + 1)) (s.data.toList.drop (k + 1))) := Lib.hid (by rw [HC.out, hst, strTs_snoc]; simp)
        have hc2 : (s[k].toNat : Int) = c.toNat := by rw [hc]
        clear hst hc
        go_wp2_with (at_builtin; refine wpList_append_own _ rfl _ _ 35 rfl w.heap.size 9 i0 (.string ⟨#[]⟩) 1 16 Tryz.underlying35 hi hz0 hz1 hz2 rfl (by decide) _ _ _ rfl (hown.alloc _) ⟨wr.heap.size, 0, none⟩ 1 1 [.string (s.extract g k)] rfl rfl (cell_one_new _ _ _) (fun x hx => by simp at hx; subst hx; rfl) (by unfold maxLen; omega) (by omega) (by have := hb.size; simp; omega) ?_; intro v' w1 hown1 hgrow1 _)
        go_roundw
        case rel =>
          refine ⟨k + 1, k + 1, P ++ [s.extract g k], by omega, Nat.le_refl _, by simp; omega, by go_num, by go_num, ?_, ?_, HN⟩
          · rw [← strVs_snoc, List.length_append]; exact hown1
          · exact (hb.alloc hb.size _).grown hgrow1 (by have := hb.size; simp; omega) (fun q hq => (hown.lt q hq).1)
        case measure => simp [intOf]; omega
      · rw [if_neg hc] at hst
        have hq : ((s[k].toNat : Int) == (c.toNat : Int)) = false := beq_eq_false_iff_ne.2 (fun e => hc (UInt8.toNat_inj.1 (by exact_mod_cast e)))
        have HN := Lib.hid (HC.out.trans (congrArg (strTs P ++ ·) hst))
        clear hst hc
        go_wp2_with fail
        go_roundw
        case rel => exact ⟨k + 1, g, P, by omega, by omega, by omega, by go_num, rfl, hown, hb, HN⟩
        case measure => simp [intOf]; omega
    · obtain rfl : k = s.size := by omega
      have HN : Hid (split s.data.toList [c] = strTs (P ++ [s.extract g s.size])) := Lib.hid (by
        rw [HC.out, drop_size, cutAt, strTs_snoc, take_size, extract_to_end])
      go_wp2_with (at_builtin; refine wpList_append_own _ rfl _ _ 35 rfl w.heap.size 9 i0 (.string ⟨#[]⟩) 1 16 Tryz.underlying35 hi hz0 hz1 hz2 rfl (by decide) _ _ _ rfl (hown.alloc _) ⟨wr.heap.size, 0, none⟩ 1 1 [.string (s.extract g s.size)] rfl rfl (cell_one_new _ _ _) (fun x hx => by simp at hx; subst hx; rfl) (by unfold maxLen; omega) (by omega) (by have := hb.size; simp; omega) ?_; intro v' w1 hown1 hgrow1 _)
      go_ret
      rw [HN.out]
      refine ⟨⟨v', rfl, strsAt_own (base := w.heap.size) (e := 9) ?_, newRow_own hown1⟩, (hb.alloc hb.size _).grown hgrow1 (by have := hb.size; simp; omega) (fun q hq => (hown.lt q hq).1)⟩
      rw [← strVs_snoc, List.length_append]; exact hown1
theorem bytes_ext {a b : ByteArray} : a.data.toList = b.data.toList ↔ a = b := ⟨fun h => by
  apply ByteArray.ext; apply Array.ext'; exact h, fun h => by rw [h]⟩
end Go.Proofs.Pw

namespace Go.Proofs.Pw
open Go.RowKit
open Go.Lib hiding intOf
open Go.Sort (grow grow_grow grow_empty)
def GrownW (w w' : World) : Prop := ∃ q os, w' = grow (w.drewN q) os
theorem GrownW.below {w w' : World} (h : GrownW w w') : Below w.heap.size w w' := by
  obtain ⟨q, os, rfl⟩ := h
  exact below_grow _ _ (Nat.le_refl _) _ _
theorem GrownW.trans {a b c : World} (h : GrownW a b) (k : GrownW b c) : GrownW a c := by
  obtain ⟨q, os, rfl⟩ := h
  obtain ⟨q', os', rfl⟩ := k
  refine ⟨q + q', os ++ os', ?_⟩
  show grow (grow ((a.drewN q).drewN q') os) os' = _
  rw [grow_grow, World.drewN_drewN]
theorem GrownW.refl (w : World) : GrownW w w := ⟨0, #[], (grow_empty _).symm⟩
end Go.Proofs.Pw

namespace Go.Proofs.Pw
open Go.RowKit
open Go.Lib hiding intOf
theorem worseN_one_left (b : Nat) : worseN 1 b = 1 := by unfold worseN; rw [if_pos (.inl rfl)]
theorem worseN_one_right (a : Nat) : worseN a 1 = 1 := by unfold worseN; split <;> omega
theorem numErrs_one : ∀ (l : List Str) (b : Nat), (b = 1 ∨ ∃ w ∈ l, (numberOf w).2 = 1) → numErrs l b = 1
  | [], b, h => by
    rcases h with h | ⟨w, hw, _⟩
    · exact h
    · cases hw
  | w :: r, b, h => by
    show numErrs r (worseN b (numberOf w).2) = 1
    apply numErrs_one r
    rcases h with rfl | ⟨x, hx, h1⟩
    · exact .inl (worseN_one_left _)
    · rcases List.mem_cons.1 hx with rfl | hx
      · rw [h1]; exact .inl (worseN_one_right _)
      · exact .inr ⟨x, hx, h1⟩
theorem partErrs_one : ∀ (l : List Str) (b : Nat), (b = 1 ∨ ∃ w ∈ l, partErr w = 1) → partErrs l b = 1
  | [], b, h => by
    rcases h with h | ⟨w, hw, _⟩
    · exact h
    · cases hw
  | w :: r, b, h => by
    show partErrs r (worseN b (partErr w)) = 1
    apply partErrs_one r
    rcases h with rfl | ⟨x, hx, h1⟩
    · exact .inl (worseN_one_left _)
    · rcases List.mem_cons.1 hx with rfl | hx
      · rw [h1]; exact .inl (worseN_one_right _)
      · exact .inr ⟨x, hx, h1⟩
theorem verErr_is {s : Str} (h1 : hasPrefix s [118] = true) (h2 : (verWords s).length = 3) : verErr s = verErrs s := by
  unfold verErr; rw [if_neg]; rw [h1, h2]; simp
theorem verErrs_one {s : Str} (h : partErrs (verPres s) (numErrs (verWords s) 0) = 1) : verErrs s = 1 := by
  unfold verErrs
  simp only
  rw [h]
  split
  · exact worseN_one_left _
  · rfl
theorem verErrs_num {s w : Str} (h : w ∈ verWords s) (h1 : (numberOf w).2 = 1) : verErrs s = 1 :=
  verErrs_one (partErrs_one _ _ (.inl (numErrs_one _ _ (.inr ⟨w, h, h1⟩))))
theorem verErrs_part {s w : Str} (h : w ∈ verPres s) (h1 : partErr w = 1) : verErrs s = 1 :=
  verErrs_one (partErrs_one _ _ (.inr ⟨w, h, h1⟩))
def bndN (b : Bool) : Nat := if b then 2 else 0
theorem bndN_step (b : Bool) {e : Nat} (h1 : e ≠ 1) (h2 : e ≤ 2) : worseN (bndN b) e = bndN (b || decide (0 < e)) := by
  obtain rfl | rfl : e = 0 ∨ e = 2 := by omega
  all_goals cases b <;> rfl
theorem verErrs_bnd {s : Str} {b : Bool} (h : partErrs (verPres s) (numErrs (verWords s) 0) = bndN b) : verErrs s = if b = true ∨ 5 < (verPres s).length then 2 else 0 := by
  unfold verErrs
  simp only
  rw [h]
  by_cases h5 : 5 < (verPres s).length
  · rw [if_pos h5, if_pos (.inr h5)]
    cases b <;> rfl
  · rw [if_neg h5]
    cases b
    · rw [if_neg (by simp [h5])]; rfl
    · rw [if_pos (.inl rfl)]; rfl
structure NBox (w : World) (b : Nat) (L : Nat → ByteArray) (k : Nat) (v3 : Value) : Prop where
  c : ∀ j, j < 3 → w.cell? ⟨b, j, none⟩ = some (.int .i64 (numAt L k j))
  c3 : w.cell? ⟨b, 3, none⟩ = some v3
  fr : ∀ j, w.frozen? ⟨b, j, none⟩ = false
theorem NBox.below {w w' : World} {b : Nat} {L : Nat → ByteArray} {k : Nat} {v3 : Value} (h : NBox w b L k v3) (hb : Below w.heap.size w w') : NBox w' b L k v3 :=
  ⟨fun j hj => Below.cell_some hb (h.c j hj), Below.cell_some hb h.c3, fun j => (hb.frozen (p := ⟨b, j, none⟩) (show b < w.heap.size from lt_of_cell h.c3)).trans (h.fr j)⟩
theorem nbox_alloc (w : World) (t : TypeId) (L : Nat → ByteArray) : NBox (w.alloc (.cells #[.int .i64 0, .int .i64 0, .int .i64 0, .slice none 0 0] t)) w.heap.size L 0 (.slice none 0 0) :=
  ⟨fun j hj => by rw [numAt_zero]; obtain rfl | rfl | rfl : j = 0 ∨ j = 1 ∨ j = 2 := by omega
                  all_goals simp, by simp, fun j => by simp⟩
theorem NBox.step {w : World} {b : Nat} {L : Nat → ByteArray} {k : Nat} {v3 : Value} (h : NBox w b L k v3) (hk : k < 3) : NBox (w.setCell ⟨b, k, none⟩ (.int .i64 ((numberOf (L k).data.toList).1 : Nat))) b L (k + 1) v3 := by
  refine ⟨fun j hj => ?_, ?_, fun j => by simp [h.fr]⟩
  · by_cases e : j = k
    · subst e
      rw [numAt_new]
      exact World.cell?_setCell_same _ _ _ (h.c j hj)
    · rw [numAt_old _ _ _ e, World.cell?_setCell_other _ _ _ _ (fun h2 => e (by injection h2 with _ h3 _; exact h3.symm))]
      exact h.c j hj
  · rw [World.cell?_setCell_other _ _ _ _ (fun h2 => by injection h2 with _ h3 _; omega)]
    exact h.c3
theorem NBox.set3 {w : World} {b : Nat} {L : Nat → ByteArray} {k : Nat} {v3 : Value} (h : NBox w b L k v3) (v : Value) : NBox (w.setCell ⟨b, 3, none⟩ v) b L k v := by
  refine ⟨fun j hj => ?_, World.cell?_setCell_same _ _ _ h.c3, fun j => by simp [h.fr]⟩
  rw [World.cell?_setCell_other _ _ _ _ (by intro e; injection e with _ e2 _; omega)]
  exact h.c j hj
theorem hasPrefix_byte (s : ByteArray) (h : 0 < s.size) : hasPrefix s.data.toList [118] = decide (s[0] = 118) := by
  have e : s.data.toList = s[0] :: s.data.toList.drop 1 := by
    have := drop_cons s 0 h
    simpa using this
  rw [e]
  unfold hasPrefix
  rw [Bool.eq_iff_iff]
  simp only [List.isPrefixOf, Bool.and_true, decide_eq_true_eq, beq_iff_eq]
  exact eq_comm
theorem trimPrefix_byte (s : ByteArray) (h : hasPrefix s.data.toList [118] = true) : trimPrefix s.data.toList [118] = s.data.toList.drop 1 := by
  unfold trimPrefix; rw [if_pos h]; rfl
set_option maxRecDepth 100000 in
set_option maxHeartbeats 400000 in
theorem refVerOf_none (s : ByteArray) (w : World) (hs : s.size ≤ 1000000000) (hp : hasPrefix s.data.toList [118] = false) :
    Calls Tryz.prog 47 #[.string s] w fun e w' => e = .returned (.tuple #[.agg #[.int .i64 0, .int .i64 0, .int .i64 0, .slice none 0 0], .int .i64 1]) ∧ Below w.heap.size w w' := by
  have hbA := below_alloc w (.cells #[.int .i64 0, .int .i64 0, .int .i64 0, .slice none 0 0] 81)
  obtain ⟨z0, z1, z2, z3, zf⟩ := box4_alloc w (.int .i64 0) (.int .i64 0) (.int .i64 0) (.slice none 0 0) 81
  have zf0 := zf 0
  have zf1 := zf 1
  have zf2 := zf 2
  have zf3 := zf 3
  clear zf
  by_cases h0 : s.size = 0
  · have h0' : ((s.size : Nat) : Int) = 0 := by omega
    clear hp
    go_enter Tryz.func47, Tryz.ntmps47
    go_wp2_with fail
    refine bodyPost_ret (v := .tuple #[.agg #[.int .i64 0, .int .i64 0, .int .i64 0, .slice none 0 0], .int .i64 1]) (by simp [results, Tryz.results47, go_sem, *]) rfl ⟨rfl, ?_⟩
    exact below_alloc _ _
  · have hlt : 0 < s.size := by omega
    rw [hasPrefix_byte s hlt] at hp
    have hp1 : ((s[0].toNat : Int) == 118) = false := beq_eq_false_iff_ne.2 (fun e => by
      have : s[0] = 118 := UInt8.toNat_inj.1 (by have : s[0].toNat = 118 := by exact_mod_cast e
                                                 rw [this]; rfl)
      simp [this] at hp)
    have h00 : ((s.size : Int) == 0) = false := beq_eq_false_iff_ne.2 (by omega)
    clear hp h0
    go_enter Tryz.func47, Tryz.ntmps47
    go_wp2_with fail
    refine bodyPost_ret (v := .tuple #[.agg #[.int .i64 0, .int .i64 0, .int .i64 0, .slice none 0 0], .int .i64 1]) (by simp [results, Tryz.results47, go_sem, *]) rfl ⟨rfl, ?_⟩
    exact below_alloc _ _
end Go.Proofs.Pw
