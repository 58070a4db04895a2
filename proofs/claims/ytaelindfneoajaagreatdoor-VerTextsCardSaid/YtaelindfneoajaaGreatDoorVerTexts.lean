/- VerTexts: its walk. -/
import Derived.Test.YtaelindfneoajaaGreatDoorRefW
namespace Go.Proofs.Pw
open Go.RowKit
open Go.Lib hiding intOf

def rowL (L : Nat → ByteArray) (k : Nat) : List ByteArray := (List.range k).map L
theorem rowL_length (L k) : (rowL L k).length = k := by simp [rowL]
theorem rowL_succ (L k) : rowL L (k + 1) = rowL L k ++ [L k] := by simp [rowL, List.range_succ]
theorem rowL_strTs (L k) : strTs (rowL L k) = lstF k L := by simp [rowL, strTs, lstF]
theorem verFmt_len {x0 x1 x2 : Int} {pre : List Str} (h0 : -9223372036854775808 ≤ x0 ∧ x0 ≤ 9223372036854775807) (h1 : -9223372036854775808 ≤ x1 ∧ x1 ≤ 9223372036854775807) (h2 : -9223372036854775808 ≤ x2 ∧ x2 ≤ 9223372036854775807) (hn : pre.length ≤ 100) (hp : ∀ x ∈ pre, x.length ≤ 1000) : (verFmt x0 x1 x2 pre).length ≤ 200000 := by
  have a0 := itoa_len h0.1 h0.2
  have a1 := itoa_len h1.1 h1.2
  have a2 := itoa_len h2.1 h2.2
  have aj := join_len_le 1000 pre hp
  have := Nat.mul_le_mul_right (1000 + 1) hn
  unfold verFmt verFmtS
  split
  · simp; omega
  · simp; omega

set_option maxRecDepth 100000 in
set_option maxHeartbeats 2000000 in
/-- VerTexts -/
theorem verTexts_calls (ks : List Nat) (A : Nat → Addr) (a b c : Int) (v : Value) (l : List Str) (w : World) (hE : EnvP ks A w) (ha : -9223372036854775808 ≤ a ∧ a ≤ 9223372036854775807) (hb : -9223372036854775808 ≤ b ∧ b ≤ 9223372036854775807) (hc : -9223372036854775808 ≤ c ∧ c ≤ 9223372036854775807) (hS : StrsAt w v l) :
    Calls Tryz.prog 3 #[.int .i64 a, .int .i64 b, .int .i64 c, v] w fun e w' => e = .returned (.bool true) ∧ Below w.heap.size w w' := by
  obtain ⟨i0, hi, hz0, hz1, hz2⟩ := info_parts Tryz.infoString
  obtain ⟨p, n, cap, L, rfl, rfl, hnc, hcap, hcl⟩ := hS
  have HC := Lib.hid hcl
  clear hcl
  by_cases h8 : 8 < n
  · go_enter Tryz.func3, Tryz.ntmps3
    go_wp2_with fail
    refine (versed_calls ks A w hE).mono ?_
    rintro e w1 ⟨rfl, hb1⟩
    have h8' : (8 : Int) < (n : Int) := by omega
    go_wp2_with fail
    go_ret
    exact ⟨rfl, hb1⟩
  · have h8' : ¬ (8 : Int) < (n : Int) := by omega
    go_enter Tryz.func3, Tryz.ntmps3
    go_wp2_with fail
    refine (versed_calls ks A w hE).mono ?_
    rintro e w1 ⟨rfl, hb1⟩
    have hE1 := hE.below hb1
    go_wp2_with fail
    go_loopw [10, 11] (fun o i wr => ∃ k : Nat, k ≤ n ∧ i = .int .i64 k ∧ wr.ownsRow w1.heap.size 9 1 o k (strVs (rowL L k)) ∧ Below w1.heap.size w1 wr ∧ Hid (∀ j, j < k → (L j).size ≤ 20)) (fun _ i _ => n - (intOf i).toNat)
    case atStart => exact ⟨0, Nat.zero_le _, rfl, World.ownsRow_nil _ _ _ _, Below.refl _ _, Lib.hid (fun j hj => absurd hj (Nat.not_lt_zero _))⟩
    case round =>
      obtain ⟨k, hk, rfl, hown, hbr, HA⟩ := hrel
      have hbw := below_step hb1 hbr
      by_cases hlt : k < n
      · obtain ⟨b1, o1, rfl, hck⟩ := HC.out k hlt
        replace hck := Below.cell_some hbw hck
        by_cases h20 : 20 < (L k).size
        · have h20' : (20 : Int) < ((L k).size : Int) := by omega
          go_wp2_with fail
          go_ret
          exact ⟨rfl, hbw⟩
        · have h20' : ¬ (20 : Int) < ((L k).size : Int) := by omega
          have HA2 : Hid (∀ j, j < k + 1 → (L j).size ≤ 20) := Lib.hid (fun j hj => by
            by_cases e : j = k
            · subst e; omega
            · exact HA.out j (by omega))
          clear h20
          go_wp2_with (at_builtin; refine wpList_append_own _ rfl _ _ 22 rfl w1.heap.size 9 i0 (.string ⟨#[]⟩) 1 16 Tryz.underlying22 hi hz0 hz1 hz2 rfl (by decide) _ _ _ rfl (hown.alloc _) ⟨wr.heap.size, 0, none⟩ 1 1 [.string (L k)] rfl rfl (cell_one_new _ _ _) (fun x hx => by simp at hx; subst hx; rfl) (by unfold maxLen; omega) (by omega) (by have := hbr.size; simp; omega) ?_; intro v' w2 hown1 hgrow1 _)
          go_roundw
          case rel =>
            refine ⟨k + 1, by omega, by go_num, ?_, ?_, HA2⟩
            · rw [rowL_succ, ← strVs_snoc]; exact hown1
            · exact (hbr.alloc hbr.size _).grown hgrow1 (by have := hbr.size; simp; omega) (fun q hq => (hown.lt q hq).1)
          case measure => simp [intOf]; omega
      · obtain rfl : k = n := by omega
        have hSo : StrsAt wr _ (strTs (rowL L k)) := strsAt_own (base := w1.heap.size) (e := 9) (by rw [rowL_length]; exact hown)
        rw [rowL_strTs] at hSo
        have hSi : StrsAt wr (.slice p k cap) (lstF k L) := ⟨p, k, cap, L, rfl, rfl, hnc, hcap, fun j hj => let ⟨b1, o1, e, h⟩ := HC.out j hj; ⟨b1, o1, e, Below.cell_some hbw h⟩⟩
        have hln : (lstF k L).length ≤ 100 := by rw [lstF_length]; omega
        have hps : ∀ x ∈ lstF k L, x.length ≤ 1000 := fun x hx => by
          simp only [lstF, List.mem_map, List.mem_range] at hx
          obtain ⟨j, hj, rfl⟩ := hx
          rw [← size_eq]
          have := HA.out j hj
          omega
        have hEr := hE.below hbw
        generalize lstF k L = pre at hSo hSi hln hps
        have HPS := Lib.hid hps
        have hfl := verFmt_len ha hb hc hln hps
        have hbad := @verFmt_bad a b c pre
        have htx : verText a b c pre = if verErr (verFmt a b c pre) = 0 ∧ verPre (verFmt a b c pre) = pre then verFmt a b c pre else [] := rfl
        have hcall := fun o (hS : StrsAt wr o pre) => verText_calls ks A a b c o pre wr hEr ha hb hc hS hln hps
        generalize verText a b c pre = T at htx hcall
        have HB := Lib.hid hbad
        have HT := Lib.hid htx
        have HCT := Lib.hid hcall
        obtain ⟨q, n', cap', L', rfl, hL', _, _, _⟩ := id hSo
        clear hps hbad htx hcall hL' HC HA hown
        go_wp2_with fail
        refine (HCT.out _ hSo).mono ?_
        rintro e w3 ⟨rfl, hb3⟩
        clear HCT
        have hb3w := below_step hbw hb3
        have hSi3 := hSi.below hb3
        clear hSo hSi hE1 hb1 hbr hbw hEr hE
        by_cases hr : 0 ≤ a ∧ a ≤ 999999 ∧ 0 ≤ b ∧ b ≤ 999999 ∧ 0 ≤ c ∧ c ≤ 999999
        · obtain ⟨r1, r2, r3, r4, r5, r6⟩ := hr
          obtain ⟨x0, rfl⟩ : ∃ x : Nat, a = x := ⟨a.toNat, by omega⟩
          obtain ⟨x1, rfl⟩ : ∃ x : Nat, b = x := ⟨b.toNat, by omega⟩
          obtain ⟨x2, rfl⟩ : ∃ x : Nat, c = x := ⟨c.toNat, by omega⟩
          have hcv := refVerText_calls x0 x1 x2 (.slice p k cap) pre w3 (by omega) (by omega) (by omega) hSi3 hln HPS.out
          clear r1 r3 r5 ha hb hc HB
          generalize verFmt (x0 : Int) (x1 : Int) (x2 : Int) pre = F at hfl HT hcv
          have hvo := fun W => refVerOf_calls ⟨F.toArray⟩ W (by show F.length ≤ _; omega)
          have HVO := Lib.hid hvo
          clear hvo
          go_wp2_with fail
          refine hcv.mono ?_
          rintro e w4 ⟨rfl, hb4⟩
          clear hcv
          go_wp2_with fail
          refine (HVO.out w4).mono ?_
          rintro e w5 ⟨⟨v5, rfl, hS5⟩, hb5⟩
          obtain ⟨a5, n5, cap5, L5, rfl, hL5, _, _, _⟩ := id hS5
          have hb5w := below_step hb3w (below_step hb4 hb5)
          clear HVO hL5
          generalize verNum F 0 = y0
          generalize verNum F 1 = y1
          generalize verNum F 2 = y2
          by_cases h1 : verErr F = 0
          · rw [h1]
            have hbE := below_alloc w5 (.cells #[.int .i64 (y0 : Nat), .int .i64 (y1 : Nat), .int .i64 (y2 : Nat), .slice a5 n5 cap5] 30)
            have hSm := refSame_calls (.slice a5 n5 cap5) (.slice p k cap) (verPre F) pre _ (hS5.below hbE) (hSi3.below (below_step (below_step hb4 hb5) hbE))
            have hb6w := below_step hb5w hbE
            by_cases h2 : verPre F = pre
            · obtain rfl : T = F := by rw [HT.out, if_pos ⟨h1, h2⟩]
              rw [decide_eq_true h2] at hSm
              clear h1 h2 HT hbE hS5 hb4 hb5
              go_wp2_with fail
              refine hSm.mono ?_
              rintro e w7 ⟨rfl, hb7⟩
              have hb7w := below_step hb6w hb7
              clear hSm
              go_wp2_with fail
              go_ret
              exact ⟨rfl, hb7w⟩
            · obtain rfl : T = [] := by rw [HT.out, if_neg (fun h => h2 h.2)]
              rw [decide_eq_false h2] at hSm
              clear h1 h2 HT hbE hS5 hb4 hb5
              go_wp2_with fail
              refine hSm.mono ?_
              rintro e w7 ⟨rfl, hb7⟩
              have hb7w := below_step hb6w hb7
              clear hSm
              go_wp2_with fail
              go_ret
              exact ⟨rfl, hb7w⟩
          · obtain rfl : T = [] := by rw [HT.out, if_neg (fun h => h1 h.1)]
            have h1' : (0 : Int) < (verErr F : Int) := by omega
            generalize verErr F = ev at h1'
            have hb6w := hb5w.alloc hb5w.size (.cells #[.int .i64 (y0 : Nat), .int .i64 (y1 : Nat), .int .i64 (y2 : Nat), .slice a5 n5 cap5] 30)
            clear h1 HT hS5 hb4 hb5
            go_wp2_with fail
            go_ret
            exact ⟨rfl, hb6w⟩
        · obtain rfl : T = [] := by rw [HT.out, if_neg (fun h => HB.out hr h.1)]
          clear HT HB hSi3 hb3
          by_cases q1 : 0 ≤ a
          · by_cases q2 : a ≤ 999999
            · by_cases q3 : 0 ≤ b
              · by_cases q4 : b ≤ 999999
                · by_cases q5 : 0 ≤ c
                  · by_cases q6 : c ≤ 999999
                    · exact absurd ⟨q1, q2, q3, q4, q5, q6⟩ hr
                    · clear hr
                      go_wp2_with fail
                      go_ret
                      exact ⟨rfl, hb3w⟩
                  · clear hr
                    go_wp2_with fail
                    go_ret
                    exact ⟨rfl, hb3w⟩
                · clear hr
                  go_wp2_with fail
                  go_ret
                  exact ⟨rfl, hb3w⟩
              · clear hr
                go_wp2_with fail
                go_ret
                exact ⟨rfl, hb3w⟩
            · clear hr
              go_wp2_with fail
              go_ret
              exact ⟨rfl, hb3w⟩
          · clear hr
            go_wp2_with fail
            go_ret
            exact ⟨rfl, hb3w⟩
end Go.Proofs.Pw
