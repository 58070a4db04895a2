/- VerOrder: its walk. -/
import Derived.Test.YtaelindfneoajaaGreatDoorVerSort
import Derived.Test.YtaelindfneoajaaGreatDoorRefSort
import Derived.Test.YtaelindfneoajaaGreatDoorVerTxt
import Derived.Test.YtaelindfneoajaaGreatDoorVerText
import Derived.Test.YtaelindfneoajaaGreatDoorRefT
import Derived.Test.YtaelindfneoajaaGreatDoorVerHead
import Derived.Test.YtaelindfneoajaaGreatDoorVoMath
import Derived.Test.YtaelindfneoajaaGreatDoorPatch
namespace Go.Proofs.Pw
open Go.RowKit
open Go.Lib hiding intOf

theorem strTs_mkL (L : Nat → ByteArray) (k : Nat) : strTs ((List.range k).map L) = lstF k L := by simp [strTs, lstF]
theorem top_len {l : List Str} {t : Str} {b : Nat} (h : TopOf l t) (hl : ∀ x ∈ l, x.length ≤ b) : t.length ≤ b := by
  rcases h with ⟨_, rfl⟩ | ⟨h, _, _⟩
  · exact Nat.zero_le _
  · exact hl t h

theorem cntOf_le (x : Str) (l : List Str) : cntOf x l ≤ l.length := by unfold cntOf; exact List.length_filter_le _ _

set_option maxRecDepth 100000 in
set_option maxHeartbeats 4000000 in
theorem verOrder_calls (ks : List Nat) (A : Nat → Addr) (v : Value) (l : List Str) (w : World) (hE : EnvP ks A w) (hS : StrsAt w v l) :
    Calls Tryz.prog 7 #[v] w fun e w' => e = .returned (.bool true) ∧ Below w.heap.size w w' := by
  obtain ⟨i0, hi, hz0, hz1, hz2⟩ := info_parts Tryz.infoString
  obtain ⟨p, n, cap, L, rfl, rfl, hnc, hcap, hcl⟩ := hS
  have HC := Lib.hid hcl
  clear hcl
  have hvd := versed_calls ks A w hE
  replace hvd := Lib.hid hvd
  by_cases h8 : 12 < n
  ·
    go_enter Tryz.func7, Tryz.ntmps7
    go_wp2_with fail
    refine hvd.out.mono ?_
    rintro e w1 ⟨rfl, hb1⟩
    have h8' : (12 : Int) < (n : Int) := by omega
    go_wp2_with fail
    go_ret
    exact ⟨rfl, hb1⟩
  · have h8' : ¬ (12 : Int) < (n : Int) := by omega
    go_enter Tryz.func7, Tryz.ntmps7
    go_wp2_with fail
    refine hvd.out.mono ?_
    rintro e w1 ⟨rfl, hb1⟩
    have hE1 := hE.below hb1
    go_wp2_with fail
    go_loopw [4, 5] (fun o i wr => ∃ k : Nat, k ≤ n ∧ i = .int .i64 k ∧ wr.ownsRow w1.heap.size 9 1 o k (strVs ((List.range k).map L)) ∧ Below w1.heap.size w1 wr ∧ Hid (∀ j, j < k → (L j).size ≤ 80)) (fun _ i _ => n - (intOf i).toNat)
    case atStart => exact ⟨0, Nat.zero_le _, rfl, World.ownsRow_nil _ _ _ _, Below.refl _ _, Lib.hid (fun j hj => absurd hj (Nat.not_lt_zero _))⟩
    case round =>
      obtain ⟨k, hk, rfl, hown, hbr, HA⟩ := hrel
      have hbw := below_step hb1 hbr
      by_cases hlt : k < n
      · obtain ⟨b1, o1, rfl, hck⟩ := HC.out k hlt
        replace hck := Below.cell_some hbw hck
        by_cases h20 : 80 < (L k).size
        · have h20' : (80 : Int) < ((L k).size : Int) := by omega
          go_wp2_with fail
          go_ret
          exact ⟨rfl, hbw⟩
        · have h20' : ¬ (80 : Int) < ((L k).size : Int) := by omega
          have HA2 : Hid (∀ j, j < k + 1 → (L j).size ≤ 80) := Lib.hid (fun j hj => by
            by_cases e : j = k
            · subst e; omega
            · exact HA.out j (by omega))
          clear h20
          go_wp2_with (at_builtin; refine wpList_append_own _ rfl _ _ 22 rfl w1.heap.size 9 i0 (.string ⟨#[]⟩) 1 16 Tryz.underlying22 hi hz0 hz1 hz2 rfl (by decide) _ _ _ rfl (hown.alloc _) ⟨wr.heap.size, 0, none⟩ 1 1 [.string (L k)] rfl rfl (cell_one_new _ _ _) (fun x hx => by simp at hx; subst hx; rfl) (by unfold maxLen; omega) (by omega) (by have := hbr.size; simp; omega) ?_; intro v' w2 hown1 hgrow1 _)
          go_roundw
          case rel =>
            refine ⟨k + 1, by omega, by go_num, ?_, ?_, HA2⟩
            · rw [List.range_succ, List.map_append, List.map_singleton, ← strVs_snoc]; exact hown1
            · exact (hbr.alloc hbr.size _).grown hgrow1 (by have := hbr.size; simp; omega) (fun q hq => (hown.lt q hq).1)
          case measure => simp [intOf]; omega
      · obtain rfl : k = n := by omega
        have hSo : StrsAt wr _ (strTs ((List.range k).map L)) := strsAt_own (base := w1.heap.size) (e := 9) (by rw [List.length_map, List.length_range]; exact hown)
        rw [strTs_mkL] at hSo
        have hSi : StrsAt wr (.slice p k cap) (lstF k L) := ⟨p, k, cap, L, rfl, rfl, hnc, hcap, fun j hj => let ⟨b1, o1, e, h⟩ := HC.out j hj; ⟨b1, o1, e, Below.cell_some hbw h⟩⟩
        have hls : ∀ x ∈ lstF k L, x.length ≤ 80 := fun x hx => by
          obtain ⟨j, hj, rfl⟩ := lstF_mem.1 hx
          rw [← size_eq]
          exact HA.out j hj
        have hln : (lstF k L).length ≤ 12 := by rw [lstF_length]; omega
        have hso := fun o (hS : StrsAt wr o (lstF k L)) => verSort_calls ks A o (lstF k L) wr (hE.below hbw) hS (by omega) (fun x hx => Nat.le_trans (hls x hx) (by decide))
        have HSO := Lib.hid (hso _ hSo)
        have HLS := Lib.hid hls
        have hB := hbw
        have hEr := hE.below hbw
        clear hso hSo hown hls hbr hbw hE1 hb1 hE hvd
        go_wp2_with fail
        refine HSO.out.mono ?_
        rintro e w2 ⟨⟨v6, rfl, hS6⟩, hb⟩
        replace hB := below_step hB hb
        replace hEr := hEr.below hb
        replace hSi := hSi.below hb
        clear hb
        obtain ⟨a6, m, c6, M, rfl, hM, h6c, h6m, hc6⟩ := id hS6
        have HM := Lib.hid hM
        have HRI : Hid (Rises verCmp (lstF m M) ∧ ∀ x ∈ lstF m M, verErr x = 0) := Lib.hid (by rw [← hM]; exact ⟨vsort_rises _, vsort_right⟩)
        have HMS : Hid (∀ j, j < m → (M j).size ≤ 80) := Lib.hid (fun j hj => by
          have : (M j).data.toList ∈ vsort (lstF k L) := by rw [hM]; exact lstF_mem.2 ⟨j, hj, rfl⟩
          rw [size_eq]
          exact HLS.out _ ((vsort_mem _ _).1 this).1)
        have HC6 := Lib.hid hc6
        clear hM hc6 HSO
        go_wp2_with fail
        go_loopw [7, 8] (fun t i wr => ∃ (j : Nat) (T : Str), j ≤ k ∧ i = .int .i64 j ∧ t = .string ⟨T.toArray⟩ ∧ T.length ≤ 80 ∧ Below w2.heap.size w2 wr ∧ Hid (TopOf ((lstF k L).take j) T)) (fun _ i _ => k - (intOf i).toNat)
        case atStart => exact ⟨0, [], Nat.zero_le _, rfl, rfl, Nat.zero_le _, Below.refl _ _, Lib.hid top_nil⟩
        case round =>
          obtain ⟨j, T, hj, rfl, rfl, hT, hb, HT⟩ := hrel
          have hB2 := hb
          have hB0 := hB
          have hE0 := hEr
          replace hB := below_step hB hb
          replace hEr := hEr.below hb
          clear hb
          by_cases hlt2 : j < k
          · obtain ⟨b1, o1, rfl, c1⟩ := HC.out j hlt2
            replace c1 := Below.cell_some hB c1
            have hsj : (L j).size ≤ 80 := by rw [size_eq]; exact HLS.out _ (lstF_mem.2 ⟨j, hlt2, rfl⟩)
            have hTs : (⟨T.toArray⟩ : ByteArray).size ≤ 1000000000 := by show T.length ≤ _; omega
            have hck := fun W hW => verCheck_calls ks A (L j) W hW (by omega)
            have htk : (lstF k L).take (j + 1) = (lstF k L).take j ++ [(L j).data.toList] := by rw [List.take_add_one, lstF_get k L j hlt2]; rfl
            have hmem : (L j).data.toList ∈ lstF k L := lstF_mem.2 ⟨j, hlt2, rfl⟩
            by_cases h0 : verErr (L j).data.toList = 0
            · have HT2 : Hid (TopOf ((lstF k L).take (j + 1)) (verMax T (L j).data.toList)) := Lib.hid (by rw [htk]; exact top_good HT.out h0)
              have hmx := fun W hW => verMax_calls ks A ⟨T.toArray⟩ (L j) W hW hTs (by omega)
              rw [show (⟨T.toArray⟩ : ByteArray).data.toList = T from rfl] at hmx
              have hT2 := top_len HT2.out (b := 80) (fun x hx => HLS.out x (List.mem_of_mem_take hx))
              generalize verMax T (L j).data.toList = T2 at HT2 hmx hT2
              have hone : Hid (cntOf (L j).data.toList (lstF m M) = 1) := Lib.hid (by rw [← HM.out]; exact vsort_once hmem h0)
              rw [h0, errV_zero] at hck
              replace hck := Lib.hid hck
              replace hmx := Lib.hid hmx
              clear h0 htk hmem hTs
              go_wp2_with fail
              refine (hck.out _ hEr).mono ?_
              rintro e w1 ⟨rfl, hb⟩
              replace hB := below_step hB hb
              replace hB2 := below_step hB2 hb
              replace hEr := hEr.below hb
              replace c1 := Below.cell_some hb c1
              clear hb
              go_wp2_with fail
              refine (hmx.out _ hEr).mono ?_
              rintro e w3 ⟨rfl, hb⟩
              replace hB := below_step hB hb
              replace hB2 := below_step hB2 hb
              replace hEr := hEr.below hb
              replace c1 := Below.cell_some hb c1
              clear hb
              go_wp2_with fail
              clear hB0 hE0
              go_loopw [9, 10] (fun c i wr => ∃ q : Nat, q ≤ m ∧ i = .int .i64 q ∧ c = .int .i64 (cntOf (L j).data.toList ((lstF m M).take q) : Nat) ∧ Below w3.heap.size w3 wr) (fun _ i _ => m - (intOf i).toNat)
              case atStart => exact ⟨0, Nat.zero_le _, rfl, rfl, Below.refl _ _⟩
              case round =>
                obtain ⟨q, hq, rfl, rfl, hb⟩ := hrel
                have hb3 := hb
                replace hB := below_step hB hb
                replace hB2 := below_step hB2 hb
                replace hEr := hEr.below hb
                replace c1 := Below.cell_some hb c1
                clear hb
                by_cases hlt3 : q < m
                · obtain ⟨b2, o2, rfl, c2⟩ := HC6.out q hlt3
                  replace c2 := Below.cell_some hB2 c2
                  have hcs : cntOf (L j).data.toList ((lstF m M).take (q + 1)) = cntOf (L j).data.toList ((lstF m M).take q) + if (M q).data.toList = (L j).data.toList then 1 else 0 := by
                    rw [List.take_add_one, lstF_get m M q hlt3]
                    exact cntOf_snoc _ _ _
                  have hcl : cntOf (L j).data.toList ((lstF m M).take q) ≤ q := Nat.le_trans (cntOf_le _ _) (by rw [List.length_take]; omega)
                  by_cases he : (M q).data.toList = (L j).data.toList
                  · rw [if_pos he] at hcs
                    have hcs2 : Value.int .i64 ((cntOf (L j).data.toList ((lstF m M).take q) : Nat) + 1) = .int .i64 (cntOf (L j).data.toList ((lstF m M).take (q + 1)) : Nat) := by rw [hcs]; rfl
                    rw [bytes_ext.1 he] at c2
                    generalize cntOf (L j).data.toList ((lstF m M).take q) = y at hcl hcs2 ⊢
                    have HCS := Lib.hid hcs2
                    clear he hcs hcs2
                    go_wp2_with fail
                    go_region
                    all_goals
                      go_wp2_with fail
                      go_roundw
                      case rel => exact ⟨q + 1, by omega, by go_num, HCS.out, hb3.drew⟩
                      case measure => simp [intOf]; omega
                  · rw [if_neg he] at hcs
                    have HCS : Hid (Value.int .i64 (cntOf (L j).data.toList ((lstF m M).take q) : Nat) = .int .i64 (cntOf (L j).data.toList ((lstF m M).take (q + 1)) : Nat)) := Lib.hid (by rw [hcs]; rfl)
                    have he1 : ((M q).toList == (L j).toList) = false := by rw [toList_data, toList_data]; exact beq_eq_false_iff_ne.2 he
                    have he2 : M q ≠ L j := fun e => he (by rw [e])
                    generalize cntOf (L j).data.toList ((lstF m M).take q) = y at hcl HCS ⊢
                    clear he hcs
                    go_wp2_with fail
                    go_region
                    all_goals
                      go_wp2_with fail
                      go_roundw
                      case rel => exact ⟨q + 1, by omega, by go_num, HCS.out, hb3.drew⟩
                      case measure => simp [intOf]; omega
                · obtain rfl : q = m := by omega
                  have hcq : cntOf (L j).data.toList ((lstF q M).take q) = 1 := by rw [List.take_of_length_le (by rw [lstF_length]; exact Nat.le_refl _)]; exact hone.out
                  rw [hcq]
                  clear hcq
                  go_wp2_with fail
                  go_roundw
                  case rel => exact ⟨j + 1, T2, by omega, by go_num, rfl, hT2, hB2, HT2⟩
                  case measure => simp [intOf]; omega
            · have HT2 : Hid (TopOf ((lstF k L).take (j + 1)) T) := Lib.hid (by rw [htk]; exact top_bad HT.out h0)
              rw [errV_pos A h0] at hck
              replace hck := Lib.hid hck
              clear h0 htk hmem hTs
              go_wp2_with fail
              refine (hck.out _ hEr).mono ?_
              rintro e w1 ⟨rfl, hb⟩
              replace hB := below_step hB hb
              replace hB2 := below_step hB2 hb
              replace hEr := hEr.below hb
              replace c1 := Below.cell_some hb c1
              clear hb
              go_wp2_with fail
              go_roundw
              case rel => exact ⟨j + 1, T, by omega, by go_num, rfl, hT, hB2, HT2⟩
              case measure => simp [intOf]; omega
          · obtain rfl : j = k := by omega
            have HTop : Hid (TopOf (lstF j L) T) := Lib.hid (by have := HT.out; rwa [List.take_of_length_le (by rw [lstF_length]; exact Nat.le_refl _)] at this)
            clear HT hB0 hE0
            generalize wr = w4 at hB hB2 hEr ⊢
            go_wp2_with fail
            go_loopw [11] (fun i wr => ∃ a : Nat, a ≤ m ∧ i = .int .i64 a ∧ Below w4.heap.size w4 wr) (fun i _ => m - (intOf i).toNat)
            case atStart => exact ⟨0, Nat.zero_le _, rfl, Below.refl _ _⟩
            case round =>
              obtain ⟨a, ha, rfl, hb⟩ := hrel
              have hB4 := hb
              have hB5 := below_step hB2 hb
              have hE5 := hEr.below hb
              clear hb
              generalize wr = w5 at hB4 hB5 hE5 ⊢
              by_cases hlt4 : a < m
              · go_wp2_with fail
                go_loopw [12] (fun i wr => ∃ b : Nat, b ≤ m ∧ i = .int .i64 b ∧ Below w5.heap.size w5 wr) (fun i _ => m - (intOf i).toNat)
                case atStart => exact ⟨0, Nat.zero_le _, rfl, Below.refl _ _⟩
                case round =>
                  obtain ⟨b, hbm, rfl, hb⟩ := hrel
                  have hB6 := hb
                  have hB7 := below_step hB5 hb
                  have hE6 := hE5.below hb
                  clear hb
                  by_cases hlt5 : b < m
                  · obtain ⟨b2, o2, e1, c1⟩ := HC6.out a hlt4
                    obtain ⟨b3, o3, e2, c2⟩ := HC6.out b hlt5
                    replace c1 := Below.cell_some hB7 c1
                    replace c2 := Below.cell_some hB7 c2
                    have s1 := HMS.out a hlt4
                    have s2 := HMS.out b hlt5
                    have hls := fun W hW => verLess_calls ks A (M a) (M b) W hW (by omega) (by omega)
                    rw [less_table HRI.out.1 HRI.out.2 hlt4 hlt5] at hls
                    rw [e1] at e2
                    injection e2 with e2
                    injection e2 with e2 e3
                    subst e1 e2 e3
                    generalize M a = x at c1 hls
                    generalize M b = y at c2 hls
                    have k1 := fun d os => cell_patch (d := d) (os := os) c1
                    have k2 := fun d os => cell_patch (d := d) (os := os) c2
                    have kE := Lib.hid (fun d os => hE6.below (below_patch wr d os))
                    by_cases hab : a < b
                    · have hab' : (a : Int) < (b : Int) := by omega
                      rw [decide_eq_true hab] at hls
                      replace hls := Lib.hid hls
                      clear hab c1 c2
                      go_wp2_with fail
                      refine wp_region_quiet_patch (by kernel_rfl) (by kernel_rfl) ?_
                      repeat (quiet_step ((go_at_call 31; with_reducible exact Calls.patch_of (hls.out _ (kE.out _ _)))))
                      refine wpQuiet_nil ?_
                      intro _ hw'
                      obtain ⟨⟨dq, osq⟩, hw''⟩ := hw'
                      subst hw''
                      have hb := below_patch wr dq osq
                      replace hB6 := below_step hB6 hb
                      clear hb
                      generalize patch wr dq osq = w6 at hB6 ⊢
                      go_wp2_with fail
                      go_roundw
                      case rel => exact ⟨b + 1, by omega, by go_num, hB6⟩
                      case measure => simp [intOf]; omega
                    · have hab' : ¬ (a : Int) < (b : Int) := by omega
                      rw [decide_eq_false hab] at hls
                      replace hls := Lib.hid hls
                      clear hab c1 c2
                      go_wp2_with fail
                      refine wp_region_quiet_patch (by kernel_rfl) (by kernel_rfl) ?_
                      repeat (quiet_step ((go_at_call 31; with_reducible exact Calls.patch_of (hls.out _ (kE.out _ _)))))
                      refine wpQuiet_nil ?_
                      intro _ hw'
                      obtain ⟨⟨dq, osq⟩, hw''⟩ := hw'
                      subst hw''
                      have hb := below_patch wr dq osq
                      replace hB6 := below_step hB6 hb
                      clear hb
                      generalize patch wr dq osq = w6 at hB6 ⊢
                      go_wp2_with fail
                      go_roundw
                      case rel => exact ⟨b + 1, by omega, by go_num, hB6⟩
                      case measure => simp [intOf]; omega
                  · obtain rfl : b = m := by omega
                    go_wp2_with fail
                    go_roundw
                    case rel => exact ⟨a + 1, by omega, by go_num, below_step hB4 hB6⟩
                    case measure => simp [intOf]; omega
              · obtain rfl : a = m := by omega
                replace hB := below_step hB hB4
                have hsv := sortVers_calls (.slice p j cap) (lstF j L) w5 (hSi.below hB5) (by omega) (fun x hx => Nat.le_trans (HLS.out x hx) (by decide))
                have hS7 := hS6.below hB5
                replace hsv := Lib.hid hsv
                go_wp2_with fail
                refine hsv.out.mono ?_
                rintro e w6 ⟨⟨v7, rfl, hS8⟩, hb⟩
                have hsm := refSame_calls _ _ _ _ w6 (hS7.below hb) hS8
                rw [decide_eq_true rfl] at hsm
                replace hB := below_step hB hb
                replace hB5 := below_step hB5 hb
                obtain ⟨a8, n8, c8, L8, rfl, _, _, _, _⟩ := id hS8
                replace hsm := Lib.hid hsm
                clear hb hS8 hS7 hsv
                by_cases hm0 : a = 0
                · subst hm0
                  obtain rfl : T = [] := top_none HTop.out HM.out
                  go_wp2_with fail
                  refine hsm.out.mono ?_
                  rintro e w7 ⟨rfl, hb⟩
                  go_wp2_with fail
                  go_ret
                  exact ⟨rfl, below_step hB hb⟩
                · obtain ⟨a, rfl⟩ : ∃ x, a = x + 1 := ⟨a - 1, by omega⟩
                  have hlast := top_last HTop.out HM.out (by omega)
                  rw [Nat.add_sub_cancel] at hlast
                  obtain ⟨b2, o2, rfl, c1⟩ := HC6.out a (by omega)
                  replace c1 := Below.cell_some hB5 c1
                  have hx : M a = ⟨T.toArray⟩ := by rw [← hlast]
                  rw [hx] at c1
                  clear hx hlast
                  have hza : ((a + 1 : Nat) : Int) - 1 = (a : Int) := by omega
                  go_wp2_with fail
                  refine hsm.out.mono ?_
                  rintro e w7 ⟨rfl, hb⟩
                  replace c1 := Below.cell_some hb c1
                  go_wp2_with fail
                  go_ret
                  exact ⟨rfl, below_step hB hb⟩
end Go.Proofs.Pw
