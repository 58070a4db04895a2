/- St: walks and plain laws, joined: RefSumOf FindOf SelFault. Conditions: at each theorem. -/
import Derived.Test.YtglhgbcebpeomaaGreatDoorSts
import Derived.Test.YtglhgbcebpeomaaGreatDoorStj
import Derived.Test.YtglhgbcebpeomaaGreatDoorStv
import Derived.Test.YtglhgbcebpeomaaGreatDoorStl

namespace Go.Proofs.Pw
open Go.RowKit
open Go.Lib hiding intOf
set_option maxHeartbeats 4000000 in
set_option maxRecDepth 100000 in
theorem refSumOf_calls (p v : ByteArray) (rv kv : Value) (bk : Bool) (R : List Md) (K : List Str) (w : World) (hr : ModsAt w rv R) (hk : StrsAt w kv K) (hp : p.size ≤ 1000000) (hv : v.size ≤ 1000000) (hs : SumIn R K) :
    Calls Tryz.prog 14 #[.agg #[.string p, .string v, rv, kv, .bool bk]] w fun e w' => e = .returned (.int .i64 (sumOf ⟨(p.data.toList, v.data.toList), R, K, bk⟩ : Nat)) ∧ Below w.heap.size w w' := by
  have hmt := fun p v W h1 h2 => refModText_calls p v W h1 h2
  obtain ⟨a, n, cap, P, V, rfl, rfl, hn1, hn2, hc1⟩ := id hr
  obtain ⟨a2, m, cap2, L, rfl, rfl, hm1, hm2, hc2⟩ := id hk
  have hB := below_alloc w (.cells #[.string p, .string v, .slice a n cap, .slice a2 m cap2, .bool bk] 37)
  have hz := ent_alloc w p v (.slice a n cap) (.slice a2 m cap2) bk 37
  have HS := Lib.hid hs
  have HC1 := Lib.hid hc1
  have HC2 := Lib.hid hc2
  have hn := HS.out.r
  have hm := HS.out.k
  rw [mdF_length] at hn
  rw [lstF_length] at hm
  have HT := Lib.hid (show sumTxt ⟨(p.data.toList, v.data.toList), mdF n P V, lstF m L, bk⟩ = mtL (p.data.toList, v.data.toList) ++ mtLs (mdF n P V) ++ pkLs (lstF m L) ++ (if bk then [45] else []) from rfl)
  have HF := Lib.hid (show sumOf ⟨(p.data.toList, v.data.toList), mdF n P V, lstF m L, bk⟩ = crcF (sumTxt ⟨(p.data.toList, v.data.toList), mdF n P V, lstF m L, bk⟩) from rfl)
  obtain ⟨T, hT⟩ : ∃ T, sumTxt ⟨(p.data.toList, v.data.toList), mdF n P V, lstF m L, bk⟩ = T := ⟨_, rfl⟩
  obtain ⟨F, hF⟩ : ∃ F, sumOf ⟨(p.data.toList, v.data.toList), mdF n P V, lstF m L, bk⟩ = F := ⟨_, rfl⟩
  rw [hT] at HT HF
  rw [hF] at HF ⊢
  have hx := hmt p v (w.alloc (.cells #[.string p, .string v, .slice a n cap, .slice a2 m cap2, .bool bk] 37)) (by omega) (by omega)
  have hl0 := mdText_len (p.data.toList, v.data.toList)
  rw [show mdText (p.data.toList, v.data.toList) = modText p.data.toList v.data.toList from rfl] at hl0
  simp only [← size_eq] at hl0
  have HM := Lib.hid (show mtL (p.data.toList, v.data.toList) = modText p.data.toList v.data.toList ++ [10] from rfl)
  generalize modText p.data.toList v.data.toList = t0 at hx hl0 HM
  obtain ⟨X, hX⟩ : ∃ X : ByteArray, (⟨t0.toArray⟩ : ByteArray) = X := ⟨_, rfl⟩
  have HX : Hid (X.data.toList = t0) := Lib.hid (by rw [← hX])
  have hXs : X.size ≤ 2000001 := by rw [← hX, mk_size]; omega
  rw [hX] at hx
  have hq1 : ¬ 9223372036854775807 < X.size + 1 := by omega
  replace hx := Lib.hid hx
  replace hmt := Lib.hid hmt
  clear hr hk hs hc1 hc2 hT hF hX hl0
  obtain ⟨z0, z1, _, _, _⟩ := id hz
  go_enter Tryz.func14, Tryz.ntmps14
  go_wp2_with fail
  refine hx.out.mono ?_
  rintro e w2 ⟨rfl, hb2⟩
  obtain ⟨w1, hW⟩ : ∃ W, w.alloc (.cells #[.string p, .string v, .slice a n cap, .slice a2 m cap2, .bool bk] 37) = W := ⟨_, rfl⟩
  rw [hW] at hb2 hB hz
  clear hW z0 z1
  have hB2 := hb2
  obtain ⟨pre, hpre⟩ : ∃ q, mtL (p.data.toList, v.data.toList) = q := ⟨_, rfl⟩
  have hY : (X ++ (⟨#[10]⟩ : ByteArray)).data.toList = pre := by rw [← hpre, app_by, HM.out, HX.out]
  have hl2 : pre.length ≤ 2000002 := by rw [← hY, ← size_eq, app_size]; show _ + 1 ≤ _; omega
  rw [hpre] at HT
  have HY := Lib.hid hY
  clear hb2 hx HM hpre hY
  go_wp2_with fail
  go_loopw [3, 4] (fun s i wr => ∃ (k : Nat) (Y : ByteArray), k ≤ n ∧ i = .int .i64 k ∧ s = .string Y ∧ Hid (Y.data.toList = pre ++ mtLs ((mdF n P V).take k)) ∧ Below w1.heap.size w1 wr) (fun _ i _ => n - (intOf i).toNat)
  case atStart => exact ⟨0, _, Nat.zero_le _, rfl, rfl, Lib.hid (by rw [HY.out, List.take_zero]; simp [mtLs]), hB2⟩
  case round =>
    obtain ⟨k, Y, hk, rfl, rfl, HYk, hBr⟩ := hrel
    obtain ⟨y0, y1, y2, y3, y4⟩ := hz.below hBr
    by_cases hlt : k < n
    · have hki : (k : Int) < (n : Int) := by omega
      obtain ⟨b1, o1, ea, d0, d1⟩ := HC1.out k hlt
      have hps := mdF_at_len HS.out.rs hlt
      subst ea
      replace d0 := Below.cell_some hBr (Below.cell_some hB d0)
      replace d1 := Below.cell_some hBr (Below.cell_some hB d1)
      have hx := hmt.out (P k) (V k) wr (by omega) (by omega)
      have hl0 := mdText_len ((P k).data.toList, (V k).data.toList)
      rw [show mdText ((P k).data.toList, (V k).data.toList) = modText (P k).data.toList (V k).data.toList from rfl] at hl0
      simp only [← size_eq] at hl0
      have HM := Lib.hid (show mtL ((P k).data.toList, (V k).data.toList) = modText (P k).data.toList (V k).data.toList ++ [10] from rfl)
      generalize modText (P k).data.toList (V k).data.toList = t1 at hx hl0 HM
      obtain ⟨Z, hZ⟩ : ∃ Z : ByteArray, (⟨t1.toArray⟩ : ByteArray) = Z := ⟨_, rfl⟩
      have HZ : Hid (Z.data.toList = t1) := Lib.hid (by rw [← hZ])
      have hZs : Z.size ≤ 2000001 := by rw [← hZ, mk_size]; omega
      rw [hZ] at hx
      have hsl := HS.out.mt k
      have hYs : Y.size ≤ 100000000000 := by rw [size_eq, HYk.out, List.length_append]; omega
      have hq2 : ¬ 9223372036854775807 < Y.size + Z.size := by omega
      have hq3 : ¬ 9223372036854775807 < Y.size + Z.size + 1 := by omega
      have HSU : Hid ((Y ++ Z ++ (⟨#[10]⟩ : ByteArray)).data.toList = pre ++ mtLs ((mdF n P V).take (k + 1))) := Lib.hid (by
        rw [mtF_succ hlt, app_by, app_by, HYk.out, HZ.out, HM.out]; simp)
      replace hx := Lib.hid hx
      clear hsl hZ hl0 HM hq1
      go_wp2_with fail
      refine hx.out.mono ?_
      rintro e w4 ⟨rfl, hb4⟩
      have hB4 := below_step hBr hb4
      clear hx hb4 d0 d1 y0 y1 y2 y3 y4
      go_wp2_with fail
      go_roundw
      case rel => exact ⟨k + 1, _, by omega, by go_num, rfl, HSU, hB4⟩
      case measure => simp [intOf]; omega
    · obtain rfl : k = n := by omega
      rw [mdF_take_all] at HYk
      have hki : ¬ (k : Int) < (k : Int) := by omega
      have hsl := HS.out.mt k
      rw [mdF_take_all] at hsl
      generalize mtLs (mdF k P V) = Rt at HYk HT hsl
      clear hlt hk HY hB2
      go_wp2_with fail
      clear y0 y1 y2 y3 y4
      have hB6 := hBr
      have HY6 := HYk
      clear hBr HYk
      generalize Y = Y6 at *
      go_loopw [3, 5] (fun s i wr => ∃ (j : Nat) (Y : ByteArray), j ≤ m ∧ i = .int .i64 j ∧ s = .string Y ∧ Hid (Y.data.toList = pre ++ Rt ++ pkLs ((lstF m L).take j)) ∧ Below w1.heap.size w1 wr) (fun _ i _ => m - (intOf i).toNat)
      case atStart => exact ⟨0, _, Nat.zero_le _, rfl, rfl, Lib.hid (by rw [HY6.out, List.take_zero]; simp [pkLs]), hB6⟩
      case round =>
        obtain ⟨j, Y, hj, rfl, rfl, HYk, hBr⟩ := hrel
        obtain ⟨y0, y1, y2, y3, y4⟩ := hz.below hBr
        by_cases hlt : j < m
        · have hki : (j : Int) < (m : Int) := by omega
          obtain ⟨b1, o1, ea, d0⟩ := HC2.out j hlt
          have hps := lstF_at_len HS.out.ks hlt
          subst ea
          replace d0 := Below.cell_some hBr (Below.cell_some hB d0)
          have hsp := HS.out.pk j
          have hYs : Y.size ≤ 100000000000 := by rw [size_eq, HYk.out, List.length_append, List.length_append]; omega
          have hq2 : ¬ 9223372036854775807 < Y.size + 1 := by omega
          have hq3 : ¬ 9223372036854775807 < Y.size + 1 + (L j).size := by omega
          have hq4 : ¬ 9223372036854775807 < Y.size + 1 + (L j).size + 1 := by omega
          have HSU : Hid ((Y ++ (⟨#[47]⟩ : ByteArray) ++ L j ++ (⟨#[10]⟩ : ByteArray)).data.toList = pre ++ Rt ++ pkLs ((lstF m L).take (j + 1))) := Lib.hid (by
            rw [pkF_succ hlt, app_by, app_by, app_by, HYk.out]; simp [pkL])
          clear hsp hq1 hsl
          go_wp2_with fail
          go_roundw
          case rel => exact ⟨j + 1, _, by omega, by go_num, rfl, HSU, hBr⟩
          case measure => simp [intOf]; omega
        · obtain rfl : j = m := by omega
          have hki : ¬ (j : Int) < (j : Int) := by omega
          have hsp := HS.out.pk j
          rw [List.take_of_length_le (by rw [lstF_length]; exact Nat.le_refl _)] at HYk hsp
          generalize pkLs (lstF j L) = Kt at HYk HT hsp
          have hYs : Y.size ≤ 100000000000 := by rw [size_eq, HYk.out, List.length_append, List.length_append]; omega
          cases bk with
          | true =>
            have hTT : (Y ++ (⟨#[45]⟩ : ByteArray)).data.toList = T := by rw [app_by, HYk.out, HT.out]; simp
            have hq2 : ¬ 9223372036854775807 < Y.size + 1 := by omega
            have hcr := refCrc_calls (Y ++ (⟨#[45]⟩ : ByteArray)) wr (by rw [app_size]; show _ + 1 ≤ _; omega)
            rw [hTT, ← HF.out] at hcr
            replace hcr := Lib.hid hcr
            clear hsp hsl hTT hlt hj
            go_wp2_with fail
            refine hcr.out.mono ?_
            rintro e w' ⟨rfl, rfl⟩
            go_wp2_with fail
            go_ret
            exact ⟨rfl, below_step hB hBr⟩
          | false =>
            have hTT : Y.data.toList = T := by rw [HYk.out, HT.out]; simp
            have hcr := refCrc_calls Y wr (by omega)
            rw [hTT, ← HF.out] at hcr
            replace hcr := Lib.hid hcr
            clear hsp hsl hTT hlt hj
            go_wp2_with fail
            refine hcr.out.mono ?_
            rintro e w' ⟨rfl, rfl⟩
            go_wp2_with fail
            go_ret
            exact ⟨rfl, below_step hB hBr⟩
end Go.Proofs.Pw

namespace Go.Proofs.Pw
open Go.RowKit
open Go.Lib hiding intOf
set_option maxHeartbeats 1000000 in
set_option maxRecDepth 100000 in
theorem findOf_in (a : Option Addr) (n cap : Nat) (P V : Nat → ByteArray) (R : Nat → List Md) (K : Nat → List Str) (B : Nat → Bool) (Rv Kv : Nat → Value) (p v : ByteArray) (w : World) (h : EntsIn w a n cap P V R K B Rv Kv) (hl : n ≤ 1000000) :
    Calls Tryz.prog 59 #[.slice a n cap, .agg #[.string p, .string v]] w fun e w' => e = .returned (.int .i64 (findE (enF n P V R K B) (p.data.toList, v.data.toList))) ∧ Below w.heap.size w w' := by
  have hB := below_alloc w (.cells #[.string p, .string v] 29)
  obtain ⟨z0, z1, _⟩ := box2_alloc w (.string p) (.string v) 29
  have H := Lib.hid (h.below hB)
  have hg := Tryz.md_guard
  clear h
  go_enter Tryz.func59, Tryz.ntmps59
  go_wp2_with fail
  generalize hw1 : w.alloc (.cells #[.string p, .string v] 29) = w1 at *
  clear hw1
  go_loopw [5] (fun i wr => ∃ k : Nat, k ≤ n ∧ i = .int .i64 k ∧ Below w1.heap.size w1 wr ∧ Hid (∀ j, j < k → ((P j).data.toList, (V j).data.toList) ≠ (p.data.toList, v.data.toList))) (fun i _ => n - (intOf i).toNat)
  case atStart => exact ⟨0, Nat.zero_le _, rfl, Below.refl _ _, Lib.hid (fun j hj => absurd hj (Nat.not_lt_zero _))⟩
  case round =>
    obtain ⟨k, hk, rfl, hBk, HA⟩ := hrel
    have hBw := below_step hB hBk
    by_cases hlt : k < n
    · have hkn : (k : Int) < (n : Int) := by omega
      obtain ⟨b1, o1, ea, hcell⟩ := H.out.at_ k hlt
      have c0 := Below.cell_some hBk hcell.c0
      have c1 := Below.cell_some hBk hcell.c1
      have y0 := Below.cell_some hBk z0
      have y1 := Below.cell_some hBk z1
      subst ea
      have he := md_eql (P k) (V k) p v
      by_cases hm : ((P k).data.toList, (V k).data.toList) = (p.data.toList, v.data.toList)
      · have hd : decide (P k = p ∧ V k = v) = true := decide_eq_true (bytes_pair.1 hm)
        simp only [hd] at he
        have HF : Hid (findE (enF n P V R K B) (p.data.toList, v.data.toList) = k) := Lib.hid (findI_hit (enF_get n P V R K B k hlt) (decide_eq_true hm) (fun j y hj hy => by
          rw [enF_get n P V R K B j (by omega)] at hy
          cases hy
          exact decide_eq_false (HA.out j hj)))
        clear hm hcell hd
        go_wp2_with fail
        have kqc0 := fun d os => cell_patch (d := d) (os := os) c0
        have kqc1 := fun d os => cell_patch (d := d) (os := os) c1
        have kqy0 := fun d os => cell_patch (d := d) (os := os) y0
        have kqy1 := fun d os => cell_patch (d := d) (os := os) y1
        refine wp_region_quiet_patch (by kernel_rfl) (by kernel_rfl) ?_
        repeat (go_big_quiet_step (fail))
        refine wpQuiet_nil ?_
        intro _ hw'
        obtain ⟨⟨dq, osq⟩, hw''⟩ := hw'
        subst hw''
        clear kqc0 kqc1 kqy0 kqy1
        have hb := below_patch wr dq osq
        replace hBw := below_step hBw hb
        clear hb
        generalize patch wr dq osq = wq1 at hBw ⊢
        go_wp2_with fail
        go_ret
        rw [HF.out]
        exact ⟨rfl, hBw⟩
      · have hd : decide (P k = p ∧ V k = v) = false := decide_eq_false (fun h => hm (bytes_pair.2 h))
        simp only [hd] at he
        have HN : Hid (∀ j, j < k + 1 → ((P j).data.toList, (V j).data.toList) ≠ (p.data.toList, v.data.toList)) := Lib.hid (fun j hj => by
          by_cases e : j = k
          · subst e; exact hm
          · exact HA.out j (by omega))
        clear hm hcell hd
        go_wp2_with fail
        have kqc0 := fun d os => cell_patch (d := d) (os := os) c0
        have kqc1 := fun d os => cell_patch (d := d) (os := os) c1
        have kqy0 := fun d os => cell_patch (d := d) (os := os) y0
        have kqy1 := fun d os => cell_patch (d := d) (os := os) y1
        refine wp_region_quiet_patch (by kernel_rfl) (by kernel_rfl) ?_
        repeat (go_big_quiet_step (fail))
        refine wpQuiet_nil ?_
        intro _ hw'
        obtain ⟨⟨dq, osq⟩, hw''⟩ := hw'
        subst hw''
        clear kqc0 kqc1 kqy0 kqy1
        have hb := below_patch wr dq osq
        replace hBk := below_step hBk hb
        clear hb
        generalize patch wr dq osq = wq1 at hBk ⊢
        go_wp2_with fail
        go_roundw
        case rel => exact ⟨k + 1, by omega, by go_num, hBk, HN⟩
        case measure => simp [intOf]; omega
    · obtain rfl : n = k := by omega
      have HF : Hid (findE (enF n P V R K B) (p.data.toList, v.data.toList) = -1) := Lib.hid (findI_none (fun j y hy => by
        have hj : j < n := by have := (List.getElem?_eq_some_iff.1 hy).1; rwa [enF_length] at this
        rw [enF_get n P V R K B j hj] at hy
        cases hy
        exact decide_eq_false (HA.out j hj)))
      go_wp2_with fail
      go_ret
      rw [HF.out]
      exact ⟨rfl, hBw⟩
end Go.Proofs.Pw

namespace Go.Proofs.Pw
open Go.RowKit
open Go.Lib hiding intOf
set_option maxHeartbeats 4000000 in
set_option maxRecDepth 100000 in
theorem selFault_in (a : Option Addr) (n cap : Nat) (P V : Nat → ByteArray) (R : Nat → List Md) (K : Nat → List Str) (B : Nat → Bool) (Rv Kv : Nat → Value) (rv : Value) (roots : List Md) (w : World) (h : EntsIn w a n cap P V R K B Rv Kv) (hr : ModsAt w rv roots) (hl : n ≤ 1000000) (hl2 : roots.length ≤ 1000000) :
    Calls Tryz.prog 58 #[.slice a n cap, rv] w fun e w' => e = .returned (fltV (rootsErr (enF n P V R K B) roots)) ∧ Below w.heap.size w w' := by
  obtain ⟨a2, m, cap2, Q, U, rfl, rfl, hmc, hcap2, hc2⟩ := hr
  rw [mdF_length] at hl2
  have hB := below_alloc w (.cells #[.int .i64 0, .int .i64 0] 46)
  have hz := box2_alloc w (.int .i64 0) (.int .i64 0) 46
  have HFE : Hid (rootsErr (enF n P V R K B) (mdF m Q U) = firstE (rootE (enF n P V R K B) (mdF m Q U)) m) := Lib.hid (by unfold rootsErr; rw [mdF_length])
  have hfo := fun (p v : ByteArray) (W : World) (hb : Below w.heap.size w W) => findOf_in a n cap P V R K B Rv Kv p v W (h.below hb) hl
  have HL := Lib.hid hl
  replace hc2 := Lib.hid hc2
  replace hfo := Lib.hid hfo
  clear h hl
  go_enter Tryz.func58, Tryz.ntmps58
  go_wp2_with fail
  generalize w.alloc (.cells #[.int .i64 0, .int .i64 0] 46) = w1 at *
  go_loopw [5] (fun i wr => ∃ k : Nat, k ≤ m ∧ i = .int .i64 k ∧ Below w1.heap.size w1 wr ∧ Hid (∀ j, j < k → rootE (enF n P V R K B) (mdF m Q U) j = 0)) (fun i _ => m - (intOf i).toNat)
  case atStart => exact ⟨0, Nat.zero_le _, rfl, Below.refl _ _, Lib.hid (fun j hj => absurd hj (Nat.not_lt_zero _))⟩
  case round =>
    obtain ⟨k, hk, rfl, hBk, HA⟩ := hrel
    have hBw := below_step hB hBk
    have hzk := hz.below hBk
    by_cases hlt : k < m
    · have hkn : (k : Int) < (m : Int) := by omega
      obtain ⟨b1, o1, ea, c0, c1⟩ := hc2.out k hlt
      replace c0 := Below.cell_some hBw c0
      replace c1 := Below.cell_some hBw c1
      subst ea
      have hR : rootE (enF n P V R K B) (mdF m Q U) k = if findE (enF n P V R K B) ((Q k).data.toList, (U k).data.toList) < 0 then 5 else 0 := by
        unfold rootE
        rw [mdAt_mdF hlt]
      have hf := hfo.out (Q k) (U k) wr hBw
      obtain ⟨x, hx⟩ : ∃ x, findE (enF n P V R K B) ((Q k).data.toList, (U k).data.toList) = x := ⟨_, rfl⟩
      rw [hx] at hR hf
      by_cases h0 : x < 0
      · rw [if_pos h0] at hR
        have HF : Hid (rootsErr (enF n P V R K B) (mdF m Q U) = (5, (k : Int))) := Lib.hid (by rw [HFE.out, firstE_hit (by rw [hR]; decide) HA.out hlt, hR])
        replace hf := Lib.hid hf
        clear hx hR
        go_wp2_with fail
        refine hf.out.mono ?_
        rintro e w2 ⟨rfl, hb⟩
        have hB2 := below_step hBw hb
        obtain ⟨z0, z1, zf⟩ := hzk.below hb
        clear hb hf c0 c1
        go_wp2_with fail
        refine bodyPost_ret (v := fltV (5, (k : Int))) (by simp [results, Tryz.results58, fltV, go_sem, *]) rfl ?_
        rw [HF.out]
        exact ⟨rfl, (hB2.setCell (p := ⟨w.heap.size, 0, none⟩) (Nat.le_refl _) _).setCell (p := ⟨w.heap.size, 1, none⟩) (Nat.le_refl _) _⟩
      · rw [if_neg h0] at hR
        have HN : Hid (∀ j, j < k + 1 → rootE (enF n P V R K B) (mdF m Q U) j = 0) := Lib.hid (fun j hj => by
          by_cases e : j = k
          · subst e; exact hR
          · exact HA.out j (by omega))
        have hq : decide (x < 0) = false := decide_eq_false h0
        replace hf := Lib.hid hf
        clear hx hR h0
        go_wp2_with fail
        refine hf.out.mono ?_
        rintro e w2 ⟨rfl, hb⟩
        replace hBk := below_step hBk hb
        clear hb hf c0 c1
        go_wp2_with fail
        go_roundw
        case rel => exact ⟨k + 1, by omega, by go_num, hBk, HN⟩
        case measure => simp [intOf]; omega
    · obtain rfl : m = k := by omega
      have HF : Hid (rootsErr (enF n P V R K B) (mdF m Q U) = (0, -1)) := Lib.hid (by rw [HFE.out, firstE_none HA.out])
      have hfi := fun W => refFine_calls W
      unfold fltV at hfi
      replace hfi := Lib.hid hfi
      go_wp2_with fail
      refine (hfi.out _).mono ?_
      rintro e w2 ⟨rfl, hb⟩
      have hB2 := below_step hBw hb
      obtain ⟨z0, z1, zf⟩ := hzk.below hb
      clear hb hfi
      go_wp2_with fail
      refine bodyPost_ret (v := fltV (0, -1)) (by simp [results, Tryz.results58, fltV, go_sem, *]) rfl ?_
      rw [HF.out]
      exact ⟨rfl, (hB2.setCell (p := ⟨w.heap.size, 0, none⟩) (Nat.le_refl _) _).setCell (p := ⟨w.heap.size, 1, none⟩) (Nat.le_refl _) _⟩
end Go.Proofs.Pw
