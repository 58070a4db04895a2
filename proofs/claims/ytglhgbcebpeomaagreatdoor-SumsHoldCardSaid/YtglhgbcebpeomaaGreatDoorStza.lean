/- St: walks and plain laws, joined: RefVerify ErrAs. Conditions: at each theorem. -/
import Derived.Test.YtglhgbcebpeomaaGreatDoorStz
import Derived.Test.YtglhgbcebpeomaaGreatDoorStt
import Derived.Test.YtglhgbcebpeomaaGreatDoorStv
import Derived.Test.YtglhgbcebpeomaaGreatDoorStm
import Derived.WalkKit
import Derived.LaidEql
import Derived.Stop.Asserts
import Derived.RowKitTokens
import Derived.Lib.Hide

namespace Go.Proofs.Pw
open Go.RowKit
open Go.Lib hiding intOf
theorem findL_from {h : List Ln} {m : Md} {k : Nat} (hk : k < h.length) (e : (lnAt h k).1 = m) (h0 : ∀ j, j < k → (lnAt h j).1 ≠ m) : findL h m = k := by
  unfold findL
  exact findI_hit (lnAt_get hk) (by unfold isLn; exact decide_eq_true e) (fun j y hj hy => by
    rw [lnAt_get (by omega)] at hy
    rw [← Option.some.inj hy]
    unfold isLn
    exact decide_eq_false (h0 j hj))
theorem findL_no {h : List Ln} {m : Md} (h0 : ∀ j, j < h.length → (lnAt h j).1 ≠ m) : findL h m = -1 := by
  unfold findL
  exact findI_none (fun j y hy => by
    have hj := (List.getElem?_eq_some_iff.1 hy).1
    rw [lnAt_get hj] at hy
    rw [← Option.some.inj hy]
    unfold isLn
    exact decide_eq_false (h0 j hj))
def fromL (h : List Ln) (m : Md) (k : Nat) (at_ : Int) : Prop := (at_ = -1 ∧ ∀ j, k ≤ j → j < h.length → (lnAt h j).1 ≠ m) ∨ (∃ q : Nat, at_ = q ∧ k ≤ q ∧ q < h.length ∧ (lnAt h q).1 = m ∧ ∀ j, k ≤ j → j < q → (lnAt h j).1 ≠ m)
theorem fromL_zero {h : List Ln} {m : Md} {x : Int} (hf : fromL h m 0 x) : findL h m = x := by
  rcases hf with ⟨rfl, h0⟩ | ⟨q, rfl, _, hq, he, h0⟩
  · exact findL_no fun j hj => h0 j (Nat.zero_le _) hj
  · exact findL_from hq he fun j hj => h0 j (Nat.zero_le _) hj
theorem fromL_top (h : List Ln) (m : Md) : fromL h m h.length (-1) := .inl ⟨rfl, fun j h1 h2 => by omega⟩
theorem fromL_hit {h : List Ln} {m : Md} {k : Nat} (hk : k < h.length) (he : (lnAt h k).1 = m) : fromL h m k (k : Int) := .inr ⟨k, rfl, Nat.le_refl _, hk, he, fun j h1 h2 => by omega⟩
theorem fromL_miss {h : List Ln} {m : Md} {k : Nat} {x : Int} (hn : (lnAt h k).1 ≠ m) (hf : fromL h m (k + 1) x) : fromL h m k x := by
  rcases hf with ⟨rfl, h0⟩ | ⟨q, rfl, hq1, hq, he, h0⟩
  · refine .inl ⟨rfl, fun j h1 h2 => ?_⟩
    by_cases e : j = k
    · rw [e]; exact hn
    · exact h0 j (by omega) h2
  · refine .inr ⟨q, rfl, by omega, hq, he, fun j h1 h2 => ?_⟩
    by_cases e : j = k
    · rw [e]; exact hn
    · exact h0 j (by omega) h2
theorem wrapM {x : Int} (h0 : -9223372036854775808 ≤ x) (h1 : x ≤ 9223372036854775807) : IntKind.i64.wrap x = x := by
  simp [IntKind.wrap, IntKind.bits, IntKind.signed]; omega
set_option maxHeartbeats 16000000 in
set_option maxRecDepth 100000 in
theorem refVerify_in (a : Option Addr) (n cap : Nat) (P V : Nat → ByteArray) (R : Nat → List Md) (K : Nat → List Str) (B : Nat → Bool) (Rv Kv : Nat → Value) (sv hv : Value) (sel : List Md) (hl : List Ln) (l : List En) (hle : enF n P V R K B = l) (w : World) (h : EntsIn w a n cap P V R K B Rv Kv) (hr : ModsAt w sv sel) (hs : ShortI l) (hsl : sel.length ≤ 1000000) (hh : LnsAt .i64 w hv hl) (hhl : hl.length ≤ 1000000) :
    Calls Tryz.prog 26 #[.slice a n cap, sv, hv] w fun e w' => e = .returned (fltV (verifyErr l sel hl)) ∧ Below w.heap.size w w' := by
  have hB := below_alloc w (.cells #[.int .i64 0, .int .i64 0] 46)
  have hz := box2_alloc w (.int .i64 0) (.int .i64 0) 46
  obtain ⟨w1, hW⟩ : ∃ W, w.alloc (.cells #[.int .i64 0, .int .i64 0] 46) = W := ⟨_, rfl⟩
  rw [hW] at hB hz
  have hso := refSumsOf_in a n cap P V R K B Rv Kv sv sel l hle w1 (h.below hB) (hr.below hB) hs hsl
  obtain ⟨a3, hn, hcap, Ph, Vh, Sh, rfl, hlm, hin⟩ := hh
  obtain ⟨a2, m2, c2, _, _, rfl, -⟩ := id hr
  have hhn : hn ≤ 1000000 := by rw [hlm, lnF_length] at hhl; exact hhl
  have HIN := Lib.hid hin
  have HHA : Hid (∀ j, j < hn → lnAt hl j = (((Ph j).data.toList, (Vh j).data.toList), Sh j)) := Lib.hid (fun j hj => by rw [hlm, lnAt_lnF hj])
  have HHL : Hid (hl.length = hn) := Lib.hid (by rw [hlm, lnF_length])
  have HV : Hid (verifyErr l sel hl = orE (allErr l sel) (firstE (verE l sel hl) sel.length)) := Lib.hid rfl
  have HSA : Hid ((allErr l sel).1 = 0 → allErr l sel = (0, -1)) := Lib.hid (fun h => startErr_at (l := l) (roots := sel) h)
  have hslt : w.heap.size < w1.heap.size := lt_of_cell hz.c0
  have HSS := Lib.hid hsl
  have hg := Tryz.md_guard
  obtain ⟨F, hF⟩ : ∃ F, allErr l sel = F := ⟨_, rfl⟩
  have HSL : Hid (F.1 = 0 → ∃ m9, m9 = sel.length ∧ ∀ v W0, LnsAt .i64 W0 v (sumsL l sel) → ∃ a9 c9, ∃ P9 V9 : Nat → ByteArray, ∃ S9 : Nat → Nat, v = .slice a9 m9 c9 ∧ (∀ W, Below W0.heap.size W0 W → ∀ j, j < m9 → ∃ b o, a9 = some ⟨b, o, none⟩ ∧ LnC .i64 W b (o + j * 3) (P9 j) (V9 j) (S9 j : Nat)) ∧ ∀ j, j < m9 → mdAt sel j = ((P9 j).data.toList, (V9 j).data.toList) ∧ sumOf (entOf l (mdAt sel j)) = S9 j) := Lib.hid (fun h0 => by
    rw [← hF] at h0
    refine ⟨sel.length, rfl, fun v W0 hv => ?_⟩
    obtain ⟨a9, n9, c9, P9, V9, S9, rfl, e9, h9⟩ := hv
    rw [sumsL_ok h0] at e9
    have hn9 : n9 = sel.length := by
      have := congrArg List.length e9
      rw [List.length_map, lnF_length] at this
      exact this.symm
    subst hn9
    refine ⟨a9, c9, P9, V9, S9, rfl, fun W hW j hj => (h9.below hW).at_ j hj, fun j hj => ?_⟩
    have h2 : (sel.map (sumPair l))[j]? = (lnF sel.length P9 V9 S9)[j]? := by rw [e9]
    rw [List.getElem?_map, mdAt_get hj, lnF_get _ _ _ _ j hj] at h2
    have h3 := Option.some.inj h2
    unfold sumPair at h3
    exact ⟨congrArg (·.1) h3, congrArg (·.2) h3⟩)
  rw [hF] at hso HV HSA
  obtain ⟨fc, fa⟩ := F
  simp only at HSA HSL
  unfold fltV at hso
  simp only at hso
  replace hso := Lib.hid hso
  clear h hs hr hle hlm hin hF hsl hhl
  go_enter Tryz.func26, Tryz.ntmps26
  go_wp2_with fail
  clear hW
  refine hso.out.mono ?_
  rintro e w2 ⟨⟨v2, rfl, hv2⟩, hB2⟩
  have hba := below_alloc w2 (.cells #[.int .i64 (fc : Nat), .int .i64 fa] 46)
  have hx := box2_alloc w2 (.int .i64 (fc : Nat)) (.int .i64 fa) 46
  have hs2 : w.heap.size < w2.heap.size := Nat.lt_of_lt_of_le hslt hB2.size
  have hB3 := below_step hB2 hba
  have nx1 : w.heap.size ≠ w2.heap.size := by omega
  have nx2 : w2.heap.size ≠ w.heap.size := by omega
  obtain ⟨x0, x1, xf⟩ := id hx
  clear hso
  by_cases h0 : fc = 0
  · subst h0
    obtain ⟨m9, hm9, hall⟩ := HSL.out rfl
    obtain ⟨a9, c9, P9, V9, S9, rfl, hc9, ha9⟩ := hall v2 w2 hv2
    have HV1 : Hid (verifyErr l sel hl = firstE (verE l sel hl) m9) := Lib.hid (by rw [HV.out, hm9]; unfold orE; rw [if_neg (by simp)])
    have HC9 := Lib.hid hc9
    have HA9 := Lib.hid ha9
    have HM9 := Lib.hid hm9
    have hm9b : m9 ≤ 1000000 := by rw [hm9]; exact HSS.out
    clear hc9 ha9 hall hv2 HSL HV HSA hm9
    have hw0 : IntKind.i64.wrap ((hn : Int) - 1) = (hn : Int) - 1 := wrapM (by omega) (by omega)
    go_wp2_with fail
    clear x0 x1 xf hx
    generalize w2.alloc (.cells #[.int .i64 ((0 : Nat) : Int), .int .i64 fa] 46) = w3 at *
    go_loopw [9] (fun i wr => ∃ k : Nat, k ≤ m9 ∧ i = .int .i64 k ∧ Below w3.heap.size w3 wr ∧ Hid (∀ j, j < k → verE l sel hl j = 0)) (fun i _ => m9 - (intOf i).toNat)
    case atStart => exact ⟨0, Nat.zero_le _, rfl, Below.refl _ _, Lib.hid (fun j hj => absurd hj (Nat.not_lt_zero _))⟩
    case round =>
      obtain ⟨k, hk, rfl, hBr, HA⟩ := hrel
      by_cases hlt : k < m9
      · have hkn : (k : Int) < (m9 : Int) := by omega
        obtain ⟨hm1, hm2⟩ := HA9.out k hlt
        have hR : verE l sel hl k = if findL hl (mdAt sel k) < 0 then 5 else if (lnAt hl (findL hl (mdAt sel k)).toNat).2 ≠ sumOf (entOf l (mdAt sel k)) then 10 else 0 := rfl
        rw [hm2, hm1] at hR
        obtain ⟨b1, o1, ea, -⟩ := HC9.out _ (below_step hba hBr) k hlt
        have HCK : Hid (∀ W, Below w3.heap.size w3 W → LnC .i64 W b1 (o1 + k * 3) (P9 k) (V9 k) (S9 k : Nat)) := Lib.hid (fun W hW => by
          obtain ⟨b2, o2, eb, hc⟩ := HC9.out W (below_step hba hW) k hlt
          rw [ea] at eb
          injection eb with eb
          injection eb with eb1 eb2
          subst eb1 eb2
          exact hc)
        have hLA : ∀ j, j < hn → lnAt hl j = (((Ph j).data.toList, (Vh j).data.toList), Sh j) := HHA.out
        have HLA := Lib.hid hLA
        have HRK := Lib.hid hR
        have HSL : Hid (k < sel.length) := Lib.hid (by rw [← HM9.out]; exact hlt)
        subst ea
        generalize P9 k = p at *
        generalize V9 k = v at *
        generalize S9 k = S at *
        clear hm1 hm2 hLA hR
        go_wp2_with fail
        generalize hwq : wr = wq at *
        clear hwq
        go_loopw [10, 11] (fun x i wr => ∃ (q : Nat) (y : Int), q ≤ hn ∧ i = .int .i64 ((q : Int) - 1) ∧ x = .int .i64 y ∧ Hid (fromL hl (p.data.toList, v.data.toList) q y) ∧ Below w3.heap.size w3 wr) (fun _ i _ => (intOf i + 1).toNat)
        case atStart => exact ⟨hn, -1, Nat.le_refl _, rfl, rfl, Lib.hid (by rw [← HHL.out]; exact fromL_top _ _), hBr⟩
        case round =>
          obtain ⟨q, y, hq, rfl, rfl, HY, hBi⟩ := hrel
          by_cases hq0 : q = 0
          · subst hq0
            have hy := fromL_zero HY.out
            have hR := HRK.out
            rw [hy] at hR
            have hnn : ¬ (0 : Int) ≤ ((0 : Nat) : Int) - 1 := by omega
            have hkx : ((0 : Nat) : Int) - 1 = -1 := by omega
            clear HRK HY hq
            by_cases hyn : y < 0
            · rw [if_pos hyn] at hR
              have HF : Hid (verifyErr l sel hl = (5, (k : Int))) := Lib.hid (by rw [HV1.out, HM9.out, firstE_hit (by rw [hR]; decide) HA.out HSL.out, hR])
              have hB9 := below_step hB (below_step hB3 hBi)
              obtain ⟨z0, z1, zf⟩ := hz.below (below_step hB3 hBi)
              clear hR hy
              go_wp2_with fail
              refine bodyPost_ret (v := fltV (5, (k : Int))) (by simp [results, Tryz.results26, fltV, go_sem, *]) rfl ?_
              rw [HF.out]
              exact ⟨rfl, below_sto2 hB9 (Nat.le_refl _) _ _⟩
            · rw [if_neg hyn] at hR
              obtain ⟨r, hr1, hr2, _⟩ := findL_nat (h := hl) (m := (p.data.toList, v.data.toList)) (by rw [hy]; exact hyn)
              obtain rfl : y = (r : Int) := by rw [← hy, hr1]
              rw [HHL.out] at hr2
              rw [Int.toNat_natCast, HLA.out r hr2] at hR
              have hrn : ((r : Nat) : Int) < (hn : Int) := by omega
              obtain ⟨b3, o3, ea, d0, d1, d2⟩ := (HIN.out.below (below_step hB (below_step hB3 hBi))).at_ r hr2
              obtain ⟨c0, c1, c2⟩ := HCK.out _ hBi
              subst ea
              clear hy hr1 hyn d0 d1 c0 c1
              by_cases hS : Sh r = S
              · rw [if_neg (fun h => h hS)] at hR
                have hne : (((Sh r : Nat) : Int) != ((S : Nat) : Int)) = false := by rw [hS]; simp
                have HN : Hid (∀ j, j < k + 1 → verE l sel hl j = 0) := Lib.hid (fun j hj => by
                  by_cases e : j = k
                  · subst e; exact hR
                  · exact HA.out j (by omega))
                clear hR hS
                go_wp2_with fail
                have kqc2 := fun d os => cell_patch (d := d) (os := os) c2
                have kqd2 := fun d os => cell_patch (d := d) (os := os) d2
                refine wp_region_quiet_patch (by kernel_rfl) (by kernel_rfl) ?_
                repeat (go_big_quiet_step (fail))
                refine wpQuiet_nil ?_
                intro _ hw'
                obtain ⟨⟨dq, osq⟩, hw''⟩ := hw'
                subst hw''
                clear kqc2 kqd2
                have hb := below_patch wr dq osq
                replace hBi := below_step hBi hb
                clear hb
                generalize patch wr dq osq = w9 at hBi ⊢
                clear c2 d2
                go_wp2_with fail
                go_roundw
                case rel => exact ⟨k + 1, by omega, by go_num, hBi, HN⟩
                case measure => simp [intOf]; omega
              · rw [if_pos hS] at hR
                have hne : (((Sh r : Nat) : Int) != ((S : Nat) : Int)) = true := by rw [bne_iff_ne]; omega
                have HF : Hid (verifyErr l sel hl = (10, (k : Int))) := Lib.hid (by rw [HV1.out, HM9.out, firstE_hit (by rw [hR]; decide) HA.out HSL.out, hR])
                clear hR hS
                go_wp2_with fail
                have kqc2 := fun d os => cell_patch (d := d) (os := os) c2
                have kqd2 := fun d os => cell_patch (d := d) (os := os) d2
                refine wp_region_quiet_patch (by kernel_rfl) (by kernel_rfl) ?_
                repeat (go_big_quiet_step (fail))
                refine wpQuiet_nil ?_
                intro _ hw'
                obtain ⟨⟨dq, osq⟩, hw''⟩ := hw'
                subst hw''
                clear kqc2 kqd2
                have hb := below_patch wr dq osq
                replace hBi := below_step hBi hb
                clear hb
                generalize patch wr dq osq = w9 at hBi ⊢
                clear c2 d2
                have hB9 := below_step hB (below_step hB3 hBi)
                obtain ⟨z0, z1, zf⟩ := hz.below (below_step hB3 hBi)
                go_wp2_with fail
                refine bodyPost_ret (v := fltV (10, (k : Int))) (by simp [results, Tryz.results26, fltV, go_sem, *]) rfl ?_
                rw [HF.out]
                exact ⟨rfl, below_sto2 hB9 (Nat.le_refl _) _ _⟩
          · obtain ⟨r, rfl⟩ : ∃ r, q = r + 1 := ⟨q - 1, by omega⟩
            have hr2 : r < hn := by omega
            have hkx : ((r + 1 : Nat) : Int) - 1 = (r : Int) := by omega
            have hrw : IntKind.i64.wrap ((r : Int) - 1) = (r : Int) - 1 := wrapM (by omega) (by omega)
            have hrn : ((r : Nat) : Int) < (hn : Int) := by omega
            have hr0 : (0 : Int) ≤ (r : Int) := by omega
            obtain ⟨b3, o3, ea, d0, d1, d2⟩ := (HIN.out.below (below_step hB (below_step hB3 hBi))).at_ r hr2
            obtain ⟨c0, c1, c2⟩ := HCK.out _ hBi
            subst ea
            have he := md_eql (Ph r) (Vh r) p v
            have HLR := Lib.hid (HLA.out r hr2)
            have HRR : Hid (r < hl.length) := Lib.hid (by rw [HHL.out]; exact hr2)
            simp only [hkx]
            clear hkx hq0
            by_cases hD : Ph r = p ∧ Vh r = v
            · rw [decide_eq_true hD] at he
              have HN : Hid (fromL hl (p.data.toList, v.data.toList) r (r : Int)) := Lib.hid (fromL_hit HRR.out (by rw [HLR.out, hD.1, hD.2]))
              clear hD HY c2 d2
              go_wp2_with fail
              have kqc0 := fun d os => cell_patch (d := d) (os := os) c0
              have kqc1 := fun d os => cell_patch (d := d) (os := os) c1
              have kqd0 := fun d os => cell_patch (d := d) (os := os) d0
              have kqd1 := fun d os => cell_patch (d := d) (os := os) d1
              refine wp_region_quiet_patch (by kernel_rfl) (by kernel_rfl) ?_
              repeat (go_big_quiet_step (fail))
              refine wpQuiet_nil ?_
              intro _ hw'
              obtain ⟨⟨dq, osq⟩, hw''⟩ := hw'
              subst hw''
              clear kqc0 kqc1 kqd0 kqd1
              have hb := below_patch wr dq osq
              replace hBi := below_step hBi hb
              clear hb
              generalize patch wr dq osq = w9 at hBi ⊢
              clear c0 c1 d0 d1 he
              go_wp2_with fail
              go_roundw
              case rel => exact ⟨r, _, by omega, rfl, rfl, HN, hBi⟩
              case measure => first | (simp [intOf]; done) | (simp [intOf]; omega)
            · rw [decide_eq_false hD] at he
              have HN : Hid (fromL hl (p.data.toList, v.data.toList) r y) := Lib.hid (fromL_miss (by rw [HLR.out]; exact fun e => hD (bytes_pair.1 e)) HY.out)
              clear hD HY c2 d2
              go_wp2_with fail
              have kqc0 := fun d os => cell_patch (d := d) (os := os) c0
              have kqc1 := fun d os => cell_patch (d := d) (os := os) c1
              have kqd0 := fun d os => cell_patch (d := d) (os := os) d0
              have kqd1 := fun d os => cell_patch (d := d) (os := os) d1
              refine wp_region_quiet_patch (by kernel_rfl) (by kernel_rfl) ?_
              repeat (go_big_quiet_step (fail))
              refine wpQuiet_nil ?_
              intro _ hw'
              obtain ⟨⟨dq, osq⟩, hw''⟩ := hw'
              subst hw''
              clear kqc0 kqc1 kqd0 kqd1
              have hb := below_patch wr dq osq
              replace hBi := below_step hBi hb
              clear hb
              generalize patch wr dq osq = w9 at hBi ⊢
              clear c0 c1 d0 d1 he
              go_wp2_with fail
              go_roundw
              case rel => exact ⟨r, _, by omega, rfl, rfl, HN, hBi⟩
              case measure => first | (simp [intOf]; done) | (simp [intOf]; omega)
      · obtain rfl : k = m9 := by omega
        have HF : Hid (verifyErr l sel hl = (0, -1)) := Lib.hid (by rw [HV1.out, firstE_none HA.out])
        have hfi := fun W => refFine_calls W
        unfold fltV at hfi
        have hnk : ¬ (k : Int) < (k : Int) := by omega
        replace hfi := Lib.hid hfi
        clear hlt hk
        go_wp2_with fail
        refine (hfi.out _).mono ?_
        rintro e w8 ⟨rfl, hb⟩
        replace hBr := below_step hBr hb
        have hB9 := below_step hB (below_step hB3 hBr)
        obtain ⟨z0, z1, zf⟩ := hz.below (below_step hB3 hBr)
        clear hb hfi
        go_wp2_with fail
        refine bodyPost_ret (v := fltV (0, -1)) (by simp [results, Tryz.results26, fltV, go_sem, *]) rfl ?_
        rw [HF.out]
        exact ⟨rfl, below_sto2 hB9 (Nat.le_refl _) _ _⟩
  · have hc9 : (0 : Int) < (fc : Int) := by omega
    have HF : Hid (verifyErr l sel hl = (fc, fa)) := Lib.hid (by rw [HV.out]; unfold orE; rw [if_pos h0])
    have hB9 := below_step hB hB3
    obtain ⟨z0, z1, zf⟩ := hz.below hB2
    clear h0 HSL HV HSA hv2
    go_wp2_with fail
    refine bodyPost_ret (v := fltV (fc, fa)) (by simp [results, Tryz.results26, fltV, go_sem, *]) rfl ?_
    rw [HF.out]
    exact ⟨rfl, (below_sto2 (below_step hB hB2) (Nat.le_refl _) _ _).alloc (by simp; omega) _⟩
end Go.Proofs.Pw

namespace Go.Proofs.Pw
open Go.RowKit Go.Extern.Stop Go.Stop Go.Extern
theorem Tryz.as_valueOf27 (t : Addr) (w : World) : (ReflectliteValue.unpack (.iface 179 (.pointer (some t)))).run Tryz.prog w
    = .ok (.agg #[.pointer (some ⟨19, 179, none⟩), .pointer (some ⟨w.heap.size, 0, none⟩), .int .u64 150]) (w.alloc (.cells #[.pointer (some t)] 179)) := by kernel_rfl
theorem Tryz.as_type27 (a : Addr) (w : World) : (ReflectliteValue.methodAny (ReflectliteValue.valueError "reflectlite.Value.Type" 0) (fun t _ _ _ => ReflectliteType.toType t) #[.agg #[.pointer (some ⟨19, 179, none⟩), .pointer (some a), .int .u64 150]]).run Tryz.prog w
    = .ok (.iface 301 (.agg #[.pointer (some ⟨19, 179, none⟩)])) w := by kernel_rfl
theorem Tryz.as_methodKind (h : Value) (w : World) : (Go.method 517 301 (.agg #[h]) "Kind").run Tryz.prog w = .ok (391, h) w := by kernel_rfl
theorem Tryz.as_kind27 (w : World) : ((ReflectliteType.abiMethod fun t => (fun a : Nat => Value.int IntKind.u8 (a : Int)) <$> Rtype.kind t) #[.pointer (some ⟨19, 179, none⟩)]).run Tryz.prog w = .ok (.int .u8 22) w := by kernel_rfl
theorem Tryz.as_kind25 (w : World) : ((ReflectliteType.abiMethod fun t => (fun a : Nat => Value.int IntKind.u8 (a : Int)) <$> Rtype.kind t) #[.pointer (some ⟨19, 106, none⟩)]).run Tryz.prog w = .ok (.int .u8 22) w := by kernel_rfl
theorem rlm (z : Sem Value) (f : TypeId → Addr → Nat → Nat → Sem Value) (v : Value) :
    ReflectliteValue.method z f #[v] = (do match ← ReflectliteValue.parts v with | none => z | some (t, a, fl) => f t a fl (fl % 32)) := rfl
theorem Tryz.as_parts27 (a : Addr) (w : World) : (ReflectliteValue.parts (.agg #[.pointer (some ⟨19, 179, none⟩), .pointer (some a), .int .u64 150])).run Tryz.prog w = .ok (some (179, a, 150)) w := by kernel_rfl
theorem Tryz.as_isNil27 (a p : Addr) (W : World) (ha : W.cell? a = some (.pointer (some p))) :
    (ReflectliteValue.method (ReflectliteValue.valueError "reflectlite.Value.IsNil" 0) ReflectliteValue.isNil #[.agg #[.pointer (some ⟨19, 179, none⟩), .pointer (some a), .int .u64 150]]).run Tryz.prog W = .ok (.bool false) W := by
  rw [rlm]
  simp only [Sem.run_bind, Tryz.as_parts27, Result.andThen]
  simp [ReflectliteValue.isNil, loadVar, isAgg, underlying, Tryz.underlying179, ha, Result.andThen]
theorem Tryz.as_methodElem (h : Value) (w : World) : (Go.method 517 301 (.agg #[h]) "Elem").run Tryz.prog w = .ok (403, .agg #[h]) w := by kernel_rfl
theorem Tryz.as_methodImplements (h : Value) (w : World) : (Go.method 517 301 (.agg #[h]) "Implements").run Tryz.prog w = .ok (404, .agg #[h]) w := by kernel_rfl
theorem Tryz.as_methodAssignableTo (h : Value) (w : World) : (Go.method 517 301 (.agg #[h]) "AssignableTo").run Tryz.prog w = .ok (401, .agg #[h]) w := by kernel_rfl
theorem Tryz.as_elem27 (w : World) : (ReflectliteType.method ReflectliteType.elem #[.agg #[.pointer (some ⟨19, 179, none⟩)]]).run Tryz.prog w = .ok (.iface 301 (.agg #[.pointer (some ⟨19, 106, none⟩)])) w := by kernel_rfl
theorem Tryz.as_implements25 (w : World) : (ReflectliteType.relation "Implements" ReflectliteType.implements_ #[.agg #[.pointer (some ⟨19, 106, none⟩)], .iface 301 (.agg #[.pointer (some ⟨19, 41, none⟩)])]).run Tryz.prog w = .ok (.bool true) w := by kernel_rfl
theorem Tryz.as_typeOf25 (v : Value) (w : World) : (ReflectliteType.typeOf #[.iface 106 v]).run Tryz.prog w = .ok (.iface 301 (.agg #[.pointer (some ⟨19, 106, none⟩)])) w := by kernel_rfl
theorem Tryz.as_assignable25 (w : World) : (ReflectliteType.relation "AssignableTo" ReflectliteType.assignableTo #[.agg #[.pointer (some ⟨19, 106, none⟩)], .iface 301 (.agg #[.pointer (some ⟨19, 106, none⟩)])]).run Tryz.prog w = .ok (.bool true) w := by kernel_rfl
theorem Tryz.as_valueOf25 (e : Addr) (w : World) : (ReflectliteValue.unpack (.iface 106 (.pointer (some e)))).run Tryz.prog w
    = .ok (.agg #[.pointer (some ⟨19, 106, none⟩), .pointer (some ⟨w.heap.size, 0, none⟩), .int .u64 150]) (w.alloc (.cells #[.pointer (some e)] 106)) := by kernel_rfl
theorem Tryz.as_elemOf27 (w : World) : (Rtype.elem? 179).run Tryz.prog w = .ok (some 106) w := by kernel_rfl
theorem Tryz.as_mk25 (p : Addr) (w : World) : (ReflectliteValue.mk 106 p ReflectliteValue.flagAddr).run Tryz.prog w = .ok (.agg #[.pointer (some ⟨19, 106, none⟩), .pointer (some p), .int .u64 406]) w := by kernel_rfl
theorem Tryz.as_elemV27 (a p : Addr) (W : World) (ha : W.cell? a = some (.pointer (some p))) :
    (ReflectliteValue.method (ReflectliteValue.valueError "reflectlite.Value.Elem" 0) ReflectliteValue.elem #[.agg #[.pointer (some ⟨19, 179, none⟩), .pointer (some a), .int .u64 150]]).run Tryz.prog W
      = .ok (.agg #[.pointer (some ⟨19, 106, none⟩), .pointer (some p), .int .u64 406]) W := by
  rw [rlm]
  simp only [Sem.run_bind, Tryz.as_parts27, Result.andThen]
  simp [ReflectliteValue.elem, loadVar, isAgg, underlying, Tryz.underlying179, ha, Result.andThen, Tryz.as_elemOf27, Tryz.as_mk25]
theorem rls (v x : Value) : ReflectliteValue.set #[v, x] = (do
    let (some (dst, a, fl), some (src, b, _)) := (← ReflectliteValue.parts v, ← ReflectliteValue.parts x)
      | unsupported (.noEntry "extern/(internal/reflectlite.Value).Set.zeroValue")
    if fl / ReflectliteValue.flagAddr % 2 == 0 then unsupported (.noEntry "extern/(internal/reflectlite.Value).Set.unaddressable")
    let val ← loadVar src b
    if ← Rtype.directlyAssignable dst src then storeVar dst a val
    else if ← Rtype.implements dst src then
      if (← Rtype.kind src) == 20 then
        match val with
        | .nilIface => unsupported (.noEntry "extern/reflectlite: a nil value of one interface type handed on as a value of another")
        | _ => storeVar dst a val
      else storeVar dst a (.iface src val)
    else panicString ("reflectlite.Set: value of type " ++ (← Rtype.spelt src) ++ " is not assignable to type " ++ (← Rtype.spelt dst))
    pure (.tuple #[])) := rfl
theorem Tryz.as_parts25a (a : Addr) (w : World) : (ReflectliteValue.parts (.agg #[.pointer (some ⟨19, 106, none⟩), .pointer (some a), .int .u64 406])).run Tryz.prog w = .ok (some (106, a, 406)) w := by kernel_rfl
theorem Tryz.as_parts25 (a : Addr) (w : World) : (ReflectliteValue.parts (.agg #[.pointer (some ⟨19, 106, none⟩), .pointer (some a), .int .u64 150])).run Tryz.prog w = .ok (some (106, a, 150)) w := by kernel_rfl
theorem Tryz.as_direct25 (w : World) : (Rtype.directlyAssignable 106 106).run Tryz.prog w = .ok true w := by kernel_rfl
theorem Tryz.as_set25 (ta b e : Addr) (old : Value) (W : World) (hb : W.cell? b = some (.pointer (some e))) (ht : W.cell? ta = some old) (hf : W.frozen? ta = false) :
    (ReflectliteValue.set #[.agg #[.pointer (some ⟨19, 106, none⟩), .pointer (some ta), .int .u64 406], .agg #[.pointer (some ⟨19, 106, none⟩), .pointer (some b), .int .u64 150]]).run Tryz.prog W
      = .ok (.tuple #[]) (W.setCell ta (.pointer (some e))) := by
  rw [rls]
  simp only [Sem.run_bind, Tryz.as_parts25a, Tryz.as_parts25, Result.andThen]
  simp [ReflectliteValue.flagAddr, loadVar, isAgg, underlying, Tryz.underlying106, hb, Result.andThen, Tryz.as_direct25, storeVar, Value.cells, storeCells, Addr.add]
  rw [run_store Tryz.prog W ta _ _ (by rfl)]
  simp [ht, hf]
set_option maxHeartbeats 4000000 in
theorem as_hit (e t : Addr) (old : Value) (w : World) (hg : w.cell? ⟨10, 0, none⟩ = some (.iface 301 (.agg #[.pointer (some ⟨19, 41, none⟩)]))) (ht0 : w.cell? t = some old) (hf0 : w.frozen? t = false) :
    Calls Tryz.prog 124 #[.iface 106 (.pointer (some e)), .iface 179 (.pointer (some t))] w fun ev w' => ev = .returned (.bool true) ∧ w' = ((((w.alloc (.cells #[.pointer (some t)] 179)).alloc (.cells #[.pointer (some ⟨19, 179, none⟩), .pointer (some ⟨w.heap.size, 0, none⟩), .int .u64 150] 244)).alloc (.cells #[.pointer (some ⟨19, 179, none⟩), .pointer (some ⟨w.heap.size, 0, none⟩), .int .u64 150] 244)).alloc (.cells #[.pointer (some e)] 106)).setCell t (.pointer (some e)) := by
  have h6 := @run_callFunc_extern Tryz.prog 190 _ (fun args => ReflectliteValue.unpack (args.getD 0 (.tuple #[]))) Tryz.func190 (by kernel_rfl) (by kernel_rfl) (by kernel_rfl) (by kernel_rfl)
  have h7 := @run_callFunc_extern Tryz.prog 191 _ (ReflectliteValue.methodAny (ReflectliteValue.valueError "reflectlite.Value.Type" 0) (fun t _ _ _ => ReflectliteType.toType t)) Tryz.func191 (by kernel_rfl) (by kernel_rfl) (by kernel_rfl) (by kernel_rfl)
  have h8 := @run_callFunc_extern Tryz.prog 192 _ (ReflectliteValue.method (ReflectliteValue.valueError "reflectlite.Value.IsNil" 0) ReflectliteValue.isNil) Tryz.func192 (by kernel_rfl) (by kernel_rfl) (by kernel_rfl) (by kernel_rfl)
  have h27 := @run_callFunc_extern Tryz.prog 391 _ (ReflectliteType.abiMethod fun t => do pure (.int .u8 (← Rtype.kind t))) Tryz.func391 (by kernel_rfl) (by kernel_rfl) (by kernel_rfl) (by kernel_rfl)
  have h37 := @run_callFunc_extern Tryz.prog 403 _ (ReflectliteType.method ReflectliteType.elem) Tryz.func403 (by kernel_rfl) (by kernel_rfl) (by kernel_rfl) (by kernel_rfl)
  have h38 := @run_callFunc_extern Tryz.prog 404 _ (ReflectliteType.relation "Implements" ReflectliteType.implements_) Tryz.func404 (by kernel_rfl) (by kernel_rfl) (by kernel_rfl) (by kernel_rfl)
  have h10 := @run_callFunc_extern Tryz.prog 194 _ ReflectliteType.typeOf Tryz.func194 (by kernel_rfl) (by kernel_rfl) (by kernel_rfl) (by kernel_rfl)
  have h35 := @run_callFunc_extern Tryz.prog 401 _ (ReflectliteType.relation "AssignableTo" ReflectliteType.assignableTo) Tryz.func401 (by kernel_rfl) (by kernel_rfl) (by kernel_rfl) (by kernel_rfl)
  have h11 := @run_callFunc_extern Tryz.prog 266 _ (ReflectliteValue.method (ReflectliteValue.valueError "reflectlite.Value.Elem" 0) ReflectliteValue.elem) Tryz.func266 (by kernel_rfl) (by kernel_rfl) (by kernel_rfl) (by kernel_rfl)
  have h12 := @run_callFunc_extern Tryz.prog 267 _ ReflectliteValue.set Tryz.func267 (by kernel_rfl) (by kernel_rfl) (by kernel_rfl) (by kernel_rfl)
  have tO := Tryz.as_typeOf25
  have mA := Tryz.as_methodAssignableTo
  have a25 := Tryz.as_assignable25
  have v25 := Tryz.as_valueOf25
  have f6 := Tryz.as_valueOf27
  have f7 := Tryz.as_type27
  have mK := Tryz.as_methodKind
  have mE := Tryz.as_methodElem
  have mI := Tryz.as_methodImplements
  have k27 := Tryz.as_kind27
  have k25 := Tryz.as_kind25
  have e27 := Tryz.as_elem27
  have i25 := Tryz.as_implements25
  have n8 := Tryz.as_isNil27 ⟨w.heap.size, 0, none⟩ t ((w.alloc (.cells #[.pointer (some t)] 179)).alloc (.cells #[.pointer (some ⟨19, 179, none⟩), .pointer (some ⟨w.heap.size, 0, none⟩), .int .u64 150] 244)) (by simp)
  have hlt : 10 < w.heap.size := World.block_lt_of_cell? w _ hg
  have hg2 : ((w.alloc (.cells #[.pointer (some t)] 179)).alloc (.cells #[.pointer (some ⟨19, 179, none⟩), .pointer (some ⟨w.heap.size, 0, none⟩), .int .u64 150] 244)).cell? ⟨10, 0, none⟩ = some (.iface 301 (.agg #[.pointer (some ⟨19, 41, none⟩)])) := by
    rw [World.cell?_alloc_lt _ _ ⟨10, 0, none⟩ (by simp; omega), World.cell?_alloc_lt _ _ ⟨10, 0, none⟩ hlt]; exact hg
  have htl : t.block < w.heap.size := by
    rcases Nat.lt_or_ge t.block w.heap.size with h | h
    · exact h
    · simp [World.cell?, Array.getElem?_eq_none h] at ht0
  have el := Tryz.as_elemV27 ⟨w.heap.size, 0, none⟩ t (((w.alloc (.cells #[.pointer (some t)] 179)).alloc (.cells #[.pointer (some ⟨19, 179, none⟩), .pointer (some ⟨w.heap.size, 0, none⟩), .int .u64 150] 244)).alloc (.cells #[.pointer (some ⟨19, 179, none⟩), .pointer (some ⟨w.heap.size, 0, none⟩), .int .u64 150] 244)) (by rw [World.cell?_alloc_lt _ _ ⟨w.heap.size, 0, none⟩ (by simp; omega)]; simp)
  have st := Tryz.as_set25 t ⟨w.heap.size + 1 + 1 + 1, 0, none⟩ e old ((((w.alloc (.cells #[.pointer (some t)] 179)).alloc (.cells #[.pointer (some ⟨19, 179, none⟩), .pointer (some ⟨w.heap.size, 0, none⟩), .int .u64 150] 244)).alloc (.cells #[.pointer (some ⟨19, 179, none⟩), .pointer (some ⟨w.heap.size, 0, none⟩), .int .u64 150] 244)).alloc (.cells #[.pointer (some e)] 106))
    (by rw [World.cell?_alloc_at _ _ _ _ (by simp)]; rfl)
    (by rw [World.cell?_alloc_lt _ _ t (by simp; omega), World.cell?_alloc_lt _ _ t (by simp; omega), World.cell?_alloc_lt _ _ t (by simp; omega), World.cell?_alloc_lt _ _ t htl]; exact ht0)
    (by rw [World.frozen?_alloc_old _ _ t (by simp; omega), World.frozen?_alloc_old _ _ t (by simp; omega), World.frozen?_alloc_old _ _ t (by simp; omega), World.frozen?_alloc_old _ _ t (Nat.ne_of_lt htl)]; exact hf0)
  go_enter Tryz.func124, Tryz.ntmps124
  go_wp2
  refine wp_loop_rounds 1 ?_
  rw [rounds_succ]
  go_wp2
  go_ret
  exact ⟨rfl, rfl⟩
theorem Tryz.as_assignableE (w : World) : (ReflectliteType.relation "AssignableTo" ReflectliteType.assignableTo #[.agg #[.pointer (some ⟨19, 371, none⟩)], .iface 301 (.agg #[.pointer (some ⟨19, 106, none⟩)])]).run Tryz.prog w = .ok (.bool false) w := by kernel_rfl
set_option maxHeartbeats 4000000 in
theorem as_miss (e t : Addr) (old : Value) (w : World) (hg : w.cell? ⟨10, 0, none⟩ = some (.iface 301 (.agg #[.pointer (some ⟨19, 41, none⟩)]))) (ht0 : w.cell? t = some old) (_hf0 : w.frozen? t = false) :
    Calls Tryz.prog 124 #[.iface 371 (.pointer (some e)), .iface 179 (.pointer (some t))] w fun ev w' => ev = .returned (.bool false) ∧ Below w.heap.size w w' := by
  have h6 := @run_callFunc_extern Tryz.prog 190 _ (fun args => ReflectliteValue.unpack (args.getD 0 (.tuple #[]))) Tryz.func190 (by kernel_rfl) (by kernel_rfl) (by kernel_rfl) (by kernel_rfl)
  have h7 := @run_callFunc_extern Tryz.prog 191 _ (ReflectliteValue.methodAny (ReflectliteValue.valueError "reflectlite.Value.Type" 0) (fun t _ _ _ => ReflectliteType.toType t)) Tryz.func191 (by kernel_rfl) (by kernel_rfl) (by kernel_rfl) (by kernel_rfl)
  have h8 := @run_callFunc_extern Tryz.prog 192 _ (ReflectliteValue.method (ReflectliteValue.valueError "reflectlite.Value.IsNil" 0) ReflectliteValue.isNil) Tryz.func192 (by kernel_rfl) (by kernel_rfl) (by kernel_rfl) (by kernel_rfl)
  have h27 := @run_callFunc_extern Tryz.prog 391 _ (ReflectliteType.abiMethod fun t => do pure (.int .u8 (← Rtype.kind t))) Tryz.func391 (by kernel_rfl) (by kernel_rfl) (by kernel_rfl) (by kernel_rfl)
  have h37 := @run_callFunc_extern Tryz.prog 403 _ (ReflectliteType.method ReflectliteType.elem) Tryz.func403 (by kernel_rfl) (by kernel_rfl) (by kernel_rfl) (by kernel_rfl)
  have h38 := @run_callFunc_extern Tryz.prog 404 _ (ReflectliteType.relation "Implements" ReflectliteType.implements_) Tryz.func404 (by kernel_rfl) (by kernel_rfl) (by kernel_rfl) (by kernel_rfl)
  have h10 := @run_callFunc_extern Tryz.prog 194 _ ReflectliteType.typeOf Tryz.func194 (by kernel_rfl) (by kernel_rfl) (by kernel_rfl) (by kernel_rfl)
  have h35 := @run_callFunc_extern Tryz.prog 401 _ (ReflectliteType.relation "AssignableTo" ReflectliteType.assignableTo) Tryz.func401 (by kernel_rfl) (by kernel_rfl) (by kernel_rfl) (by kernel_rfl)
  have tO := Tryz.is_typeOf
  have aE := Tryz.as_assignableE
  have nA := Tryz.no_asE
  have uE := Tryz.no_unwrapE
  have vE := Tryz.no_unwrapsE
  have mA := Tryz.as_methodAssignableTo
  have f6 := Tryz.as_valueOf27
  have f7 := Tryz.as_type27
  have mK := Tryz.as_methodKind
  have mE := Tryz.as_methodElem
  have mI := Tryz.as_methodImplements
  have k27 := Tryz.as_kind27
  have k25 := Tryz.as_kind25
  have e27 := Tryz.as_elem27
  have i25 := Tryz.as_implements25
  have n8 := Tryz.as_isNil27 ⟨w.heap.size, 0, none⟩ t ((w.alloc (.cells #[.pointer (some t)] 179)).alloc (.cells #[.pointer (some ⟨19, 179, none⟩), .pointer (some ⟨w.heap.size, 0, none⟩), .int .u64 150] 244)) (by simp)
  have hlt : 10 < w.heap.size := World.block_lt_of_cell? w _ hg
  have hg2 : ((w.alloc (.cells #[.pointer (some t)] 179)).alloc (.cells #[.pointer (some ⟨19, 179, none⟩), .pointer (some ⟨w.heap.size, 0, none⟩), .int .u64 150] 244)).cell? ⟨10, 0, none⟩ = some (.iface 301 (.agg #[.pointer (some ⟨19, 41, none⟩)])) := by
    rw [World.cell?_alloc_lt _ _ ⟨10, 0, none⟩ (by simp; omega), World.cell?_alloc_lt _ _ ⟨10, 0, none⟩ hlt]; exact hg
  have htl : t.block < w.heap.size := by
    rcases Nat.lt_or_ge t.block w.heap.size with h | h
    · exact h
    · simp [World.cell?, Array.getElem?_eq_none h] at ht0
  go_enter Tryz.func124, Tryz.ntmps124
  go_wp2
  refine wp_loop_rounds 1 ?_
  rw [rounds_succ]
  go_wp2
  go_ret
  exact ⟨rfl, (((Below.refl _ _).alloc (Nat.le_refl _) _).alloc (by simp) _).alloc (by simp; omega) _⟩
end Go.Proofs.Pw
