/- ver.Text: its walk. Conditions: EnvP; at most 100 parts of at most 1000 bytes. -/
import Derived.Test.YtaelindfneoajaaGreatDoorVerCmp
import Derived.Test.YtaelindfneoajaaGreatDoorRefB
import Derived.Test.YtaelindfneoajaaGreatDoorBuild
import Derived.Shelf.SlSortCmp.QuietGrown
import Derived.Lib.AppendIntMem
import Derived.Deep.CutRange
import Derived.Deep.CutBlock
namespace Go.Proofs.Pw
open Go.RowKit
open Go.Lib hiding intOf
open Go.Sort (grow)

/-- slices.Equal at texts -/
theorem equalStrs_calls (v u : Value) (l m : List Str) (w : World) (h : StrsAt w v l) (g : StrsAt w u m) :
    Calls Tryz.prog 78 #[v, u] w fun e w' => e = .returned (.bool (decide (l = m))) ∧ Below w.heap.size w w' := by
  obtain ⟨a, n, cap, L, rfl, rfl, hn, hcap, hc⟩ := h
  obtain ⟨a', n', cap', M, rfl, rfl, hn', hcap', hc'⟩ := g
  by_cases hnn : n = n'
  · subst hnn
    have H1 := Lib.hid hc
    have H2 := Lib.hid hc'
    clear hc hc'
    go_enter Tryz.func78, Tryz.ntmps78
    go_wp2_with fail
    go_loopw [13] (fun i wr => ∃ k : Nat, k ≤ n ∧ i = .int .i64 k ∧ Below w.heap.size w wr ∧ Hid (∀ j, j < k → (L j).data.toList = (M j).data.toList)) (fun i _ => n - (intOf i).toNat)
    case atStart => exact ⟨0, by omega, rfl, Below.refl _ _, Lib.hid (fun j hj => absurd hj (Nat.not_lt_zero _))⟩
    case round =>
      obtain ⟨k, hk, rfl, hb, HA⟩ := hrel
      by_cases hlt : k < n
      · obtain ⟨b1, o1, rfl, d1⟩ := H1.out k hlt
        obtain ⟨b2, o2, rfl, d2⟩ := H2.out k hlt
        replace d1 := Below.cell_some hb d1
        replace d2 := Below.cell_some hb d2
        by_cases he : (L k).data.toList = (M k).data.toList
        · have HE := Lib.hid he
          have he2 := bytes_ext.1 he
          rw [he2] at d1
          clear he he2
          go_wp2_with fail
          go_region
          all_goals
            go_wp2_with fail
            go_roundw
            case rel =>
              refine ⟨k + 1, by omega, by go_num, hb.drew, Lib.hid (fun j hj => ?_)⟩
              by_cases e : j = k
              · subst e; exact HE.out
              · exact HA.out j (by omega)
            case measure => simp [intOf]; omega
        · have HF : Hid (decide (lstF n L = lstF n M) = false) := Lib.hid (decide_eq_false (fun e => he (lstF_ext.1 e k hlt)))
          have he1 : ((L k).toList == (M k).toList) = false := by rw [toList_data, toList_data]; exact beq_eq_false_iff_ne.2 he
          have he2 : L k ≠ M k := fun e => he (by rw [e])
          have he3 : (L k).toList ≠ (M k).toList := by rw [toList_data, toList_data]; exact he
          clear he
          go_wp2_with fail
          go_region
          all_goals
            go_wp2_with fail
            go_ret
            rw [HF.out]
            exact ⟨rfl, hb.drew⟩
      · obtain rfl : k = n := by omega
        have HF : Hid (decide (lstF k L = lstF k M) = true) := Lib.hid (decide_eq_true (lstF_ext.2 HA.out))
        go_wp2_with fail
        go_ret
        rw [HF.out]
        exact ⟨rfl, hb⟩
  · have HF : Hid (decide (lstF n L = lstF n' M) = false) := Lib.hid (decide_eq_false (fun e => hnn (by have := congrArg List.length e; rwa [lstF_length, lstF_length] at this)))
    have hnn2 : ((n : Int) == (n' : Int)) = false := beq_eq_false_iff_ne.2 (by omega)
    clear hc hc' hnn
    go_enter Tryz.func78, Tryz.ntmps78
    go_wp2_with fail
    go_ret
    rw [HF.out]
    exact ⟨rfl, Below.refl _ _⟩

/-- strings.Join -/
theorem join_calls (v : Value) (l : List Str) (sep : ByteArray) (w : World) (h : StrsAt w v l) (hlen : (join l sep.data.toList).length ≤ 1000000) (hl : l.length ≤ 1000000) :
    Calls Tryz.prog 77 #[v, .string sep] w fun e w' => e = .returned (.string ⟨(join l sep.data.toList).toArray⟩) ∧ Below w.heap.size w w' := by
  obtain ⟨a, n, cap, L, rfl, rfl, hn, hcap, hc⟩ := h
  rcases Nat.eq_zero_or_pos n with rfl | h0
  · refine (Any.strings_Join_none laysJoin extraB a cap sep w).mono ?_
    rintro e w' ⟨rfl, rfl⟩
    exact ⟨rfl, Below.refl _ _⟩
  · obtain ⟨b, o, rfl, hc0⟩ := hc 0 h0
    have hxs : (((List.range n).map L).map (·.data.toList)) = lstF n L := by simp [lstF]
    have hj := Any.strings_Join laysJoin extraB b o cap ((List.range n).map L) sep w (fun j x hx => by
      simp only [List.getElem?_map, List.getElem?_range] at hx
      by_cases hjn : j < n
      · obtain ⟨b', o', e, h2⟩ := hc j hjn
        injection e with e; injection e with e1 e2 _
        subst e1; subst e2
        simp [hjn] at hx
        rw [h2, hx]
      · simp [hjn] at hx) (lt_of_cell hc0) (by rw [lstF_length] at hl; simp; omega) (by simp; exact hn) (by rw [hxs]; omega)
    rw [hxs] at hj
    simp only [List.length_map, List.length_range] at hj
    exact hj

theorem decDigits_len : ∀ (k u : Nat), 1 ≤ k → u < 10 ^ k → (decDigits u).length ≤ k
  | 0, _, h, _ => by omega
  | k + 1, u, _, h => by
    rw [decDigits]
    split
    · simp
    · rename_i h10
      have hk : 1 ≤ k := by
        rcases Nat.eq_zero_or_pos k with rfl | hk
        · simp at h; omega
        · exact hk
      have := decDigits_len k (u / 10) hk (by rw [Nat.pow_succ] at h; omega)
      simp only [List.length_append, List.length_singleton]
      omega
theorem itoa_len {x : Int} (h0 : -9223372036854775808 ≤ x) (h1 : x ≤ 9223372036854775807) : (itoa x).length ≤ 20 := by
  unfold itoa
  split
  · have := decDigits_len 19 x.natAbs (by omega) (by omega)
    simp only [List.length_cons]; omega
  · have := decDigits_len 19 x.toNat (by omega) (by omega)
    omega
theorem lens_le (K : Nat) : ∀ l : List Str, (∀ x ∈ l, x.length ≤ K) → lens l ≤ l.length * K
  | [], _ => by simp [lens]
  | x :: r, h => by
    have h1 := lens_le K r (fun y hy => h y (List.mem_cons_of_mem _ hy))
    have h2 := h x (List.mem_cons_self ..)
    simp only [lens, List.map_cons, List.sum_cons, List.length_cons] at h1 ⊢
    rw [Nat.add_mul]; omega
theorem join_len_le (K : Nat) (l : List Str) (h : ∀ x ∈ l, x.length ≤ K) : (join l [46]).length ≤ l.length * (K + 1) := by
  cases l with
  | nil => simp [join_nil]
  | cons x r =>
    rw [join_length]
    have := lens_le K (x :: r) h
    simp only [List.length_cons, List.length_nil] at *
    rw [Nat.mul_add]; omega

theorem itoaG (x : Int) (w : World) (h0 : -9223372036854775808 ≤ x) (h1 : x ≤ 9223372036854775807) (ht : Lib.TabIs Tryz.prog w "internal/strconv.uint64pow10" .u64 Lib.pow10Tab) (n : Nat) (os : Array Obj) :
    Calls Tryz.prog 76 #[.int .i64 x] (grow (w.drewN n) os) fun e w'' => e = .returned (.string ⟨(itoa x).toArray⟩) ∧ ∃ q os', w'' = grow ((grow (w.drewN n) os).drewN q) os' :=
  Tryz.strconv_Itoa x h0 h1 _ (var?_below ht (below_grow w.heap.size w (Nat.le_refl _) n os))

set_option maxHeartbeats 1000000 in
theorem verText_calls (ks : List Nat) (A : Nat → Addr) (x0 x1 x2 : Int) (v : Value) (pre : List Str) (w : World) (hE : EnvP ks A w) (b0 : -9223372036854775808 ≤ x0 ∧ x0 ≤ 9223372036854775807) (b1 : -9223372036854775808 ≤ x1 ∧ x1 ≤ 9223372036854775807) (b2 : -9223372036854775808 ≤ x2 ∧ x2 ≤ 9223372036854775807)
    (hS : StrsAt w v pre) (hn : pre.length ≤ 100) (hp : ∀ x ∈ pre, x.length ≤ 1000) :
    Calls Tryz.prog 13 #[.agg #[.int .i64 x0, .int .i64 x1, .int .i64 x2, v]] w fun e w' => e = .returned (.string ⟨(verText x0 x1 x2 pre).toArray⟩) ∧ Below w.heap.size w w' := by
  obtain ⟨a, n, cap, L, rfl, rfl, hnc, hcap, hc⟩ := hS
  have mixed : Tryz.prog.follows .mixedOrders = true := by kernel_rfl
  have hbA := below_alloc w (.cells #[.int .i64 x0, .int .i64 x1, .int .i64 x2, .slice a n cap] 26)
  have hzA := box4_alloc w (.int .i64 x0) (.int .i64 x1) (.int .i64 x2) (.slice a n cap) 26
  have hEA := hE.below hbA
  have hl0 := itoa_len b0.1 b0.2
  have hl1 := itoa_len b1.1 b1.2
  have hl2 := itoa_len b2.1 b2.2
  have hI0 := Lib.hid (itoaG x0 (w.alloc (.cells #[.int .i64 x0, .int .i64 x1, .int .i64 x2, .slice a n cap] 26)) b0.1 b0.2 hEA.pow10)
  have hI1 := Lib.hid (itoaG x1 (w.alloc (.cells #[.int .i64 x0, .int .i64 x1, .int .i64 x2, .slice a n cap] 26)) b1.1 b1.2 hEA.pow10)
  have hI2 := Lib.hid (itoaG x2 (w.alloc (.cells #[.int .i64 x0, .int .i64 x1, .int .i64 x2, .slice a n cap] 26)) b2.1 b2.2 hEA.pow10)
  have hR : verText x0 x1 x2 (lstF n L) = if verErr (verFmtS (itoa x0) (itoa x1) (itoa x2) (lstF n L)) = 0 ∧ verPre (verFmtS (itoa x0) (itoa x1) (itoa x2) (lstF n L)) = lstF n L then verFmtS (itoa x0) (itoa x1) (itoa x2) (lstF n L) else [] := rfl
  generalize verText x0 x1 x2 (lstF n L) = R at hR ⊢
  have hSP : StrsAt w (.slice a n cap) (lstF n L) := ⟨a, n, cap, L, rfl, rfl, hnc, hcap, hc⟩
  have hln : (lstF n L).length = n := lstF_length n L
  have hjl := join_len_le 1000 (lstF n L) hp
  have HC := Lib.hid hc
  have HLN := Lib.hid hln
  clear hc hp hln
  go_enter Tryz.func13, Tryz.ntmps13
  go_wp2_with fail
  generalize hwA : w.alloc (.cells #[.int .i64 x0, .int .i64 x1, .int .i64 x2, .slice a n cap] 26) = wA at *
  clear hwA
  have hlt : w.heap.size < wA.heap.size := lt_of_cell hzA.c0
  have g0 := fun m os => cell_grown (n := m) (os := os) hlt hzA.c0
  have g1 := fun m os => cell_grown (n := m) (os := os) hlt hzA.c1
  have g2 := fun m os => cell_grown (n := m) (os := os) hlt hzA.c2
  generalize lstF n L = pre at *
  generalize itoa x0 = I0 at *
  generalize itoa x1 = I1 at *
  generalize itoa x2 = I2 at *
  have n1 : ¬ 9223372036854775807 < 1 + I0.length := by omega
  have n2 : ¬ 9223372036854775807 < 1 + I0.length + 1 := by omega
  have n3 : ¬ 9223372036854775807 < 1 + I0.length + 1 + I1.length := by omega
  have n4 : ¬ 9223372036854775807 < 1 + I0.length + 1 + I1.length + 1 := by omega
  have n5 : ¬ 9223372036854775807 < 1 + I0.length + 1 + I1.length + 1 + I2.length := by omega
  go_quiet_grown (first | (go_at_call_of 76 (Value.int .i64 x0); exact Calls.grown_of (hI0.out _ _)) | (go_at_call_of 76 (Value.int .i64 x1); exact Calls.grown_of (hI1.out _ _)) | (go_at_call_of 76 (Value.int .i64 x2); exact Calls.grown_of (hI2.out _ _)))
  clear n1 n2 n3 n4 n5 hI0 hI1 hI2
  have HR := Lib.hid hR
  have hS : ((⟨#[118]⟩ : ByteArray) ++ ⟨I0.toArray⟩ ++ ⟨#[46]⟩ ++ ⟨I1.toArray⟩ ++ ⟨#[46]⟩ ++ ⟨I2.toArray⟩).data.toList = 118 :: (I0 ++ 46 :: (I1 ++ 46 :: I2)) := by simp
  have hSz : ((⟨#[118]⟩ : ByteArray) ++ ⟨I0.toArray⟩ ++ ⟨#[46]⟩ ++ ⟨I1.toArray⟩ ++ ⟨#[46]⟩ ++ ⟨I2.toArray⟩).size ≤ 1000 := by
    rw [size_eq, hS]; simp; omega
  generalize (⟨#[118]⟩ : ByteArray) ++ ⟨I0.toArray⟩ ++ ⟨#[46]⟩ ++ ⟨I1.toArray⟩ ++ ⟨#[46]⟩ ++ ⟨I2.toArray⟩ = S at hS hSz ⊢
  have HS := Lib.hid hS
  have hbB : Below wA.heap.size wA (grow (wA.drewN nq) osq) := below_grow _ _ (Nat.le_refl _) _ _
  have hzB := hzA.below hbB
  have hbw := below_step hbA hbB
  have hEB := hEA.below hbB
  have c3 := hzB.c3
  have hSPB := hSP.below hbw
  clear hR hS g0 g1 g2
  dsimp only
  generalize grow (wA.drewN nq) osq = wB at hbB hzB hbw hEB c3 hSPB ⊢
  clear hzA hEA hbB hbA hlt
  have hpn : Hid (pre = [] ↔ n = 0) := Lib.hid (by rw [← HLN.out]; exact List.length_eq_zero_iff.symm)
  go_upto_if 23 with fail
  go_cut [3] from 23 to 29 (fun s3 wx => ∃ F : ByteArray, s3 = .string F ∧ F.size ≤ 1000000 ∧ Hid (F.data.toList = verFmtS I0 I1 I2 pre) ∧ Below wB.heap.size wB wx)
  case first =>
    by_cases h0 : n = 0
    · have HF : Hid (S.data.toList = verFmtS I0 I1 I2 pre) := Lib.hid (by
        rw [HS.out, hpn.out.2 h0]
        unfold verFmtS
        rw [if_pos rfl, List.append_nil])
      have h0' : ((n : Nat) : Int) = 0 := by omega
      have hng : ¬ 0 < n := by omega
      clear h0 h0'
      go_wp2_with fail
      go_meet
      exact ⟨S, rfl, by omega, HF, Below.refl _ _⟩
    · have hnp : 0 < n := by omega
      have hnp' : (0 : Int) < (n : Int) := by omega
      have hne : pre ≠ [] := fun e => h0 (hpn.out.1 e)
      have hj := join_calls (.slice a n cap) pre ⟨#[46]⟩ wB hSPB (by show (join pre [46]).length ≤ _; have := Nat.mul_le_mul_right (1000 + 1) hn; omega) (by omega)
      have hjl2 : (join pre [46]).length ≤ 101000 := by have := Nat.mul_le_mul_right (1000 + 1) hn; omega
      rw [show (⟨#[46]⟩ : ByteArray).data.toList = [46] from rfl] at hj
      have hfm : verFmtS I0 I1 I2 pre = 118 :: (I0 ++ 46 :: (I1 ++ 46 :: I2)) ++ 45 :: join pre [46] := by unfold verFmtS; rw [if_neg hne]; simp
      generalize join pre [46] = J at hj hjl2 hfm
      have HFM := Lib.hid hfm
      have HJ := Lib.hid hj
      clear h0 hne hj hfm hjl
      go_wp2_with fail
      refine HJ.out.mono ?_
      rintro e w2 ⟨rfl, hb2⟩
      go_wp2_with fail
      go_meet
      refine ⟨_, rfl, ?_, Lib.hid ?_, hb2⟩
      · rw [ByteArray.size_append, ByteArray.size_append]
        show S.size + (1 + J.length) ≤ _
        omega
      · rw [HFM.out, ← HS.out]; simp
  case rest =>
    obtain ⟨F, rfl, hF, HF, hb2⟩ := hcut
    have hEC := hEB.below hb2
    have hzC := hzB.below hb2
    clear c3
    have c3 := hzC.c3
    rw [← HF.out] at HR
    have hbw2 := below_step hbw hb2
    go_wp2_with fail
    refine (verSplit_calls ks A F wc hEC (by omega)).mono ?_
    rintro e w3 ⟨hb3, v3, rfl, hS3⟩
    obtain ⟨a3, n3, cap3, L3, rfl, hL3, hn3, hcap3, hc3⟩ := id hS3
    have hbD := below_alloc w3 (.cells #[.int .i64 (verNum F.data.toList 0 : Nat), .int .i64 (verNum F.data.toList 1 : Nat), .int .i64 (verNum F.data.toList 2 : Nat), .slice a3 n3 cap3] 26)
    have d3 := ((hzC.below hb3).below hbD).c3
    have hbw3 := below_step hbw2 (below_step hb3 hbD)
    have hEq := equalStrs_calls (.slice a3 n3 cap3) (.slice a n cap) (verPre F.data.toList) pre _ (hS3.below hbD) ((hSPB.below hb2).below (below_step hb3 hbD))
    have HEq := Lib.hid hEq
    clear hEq hL3 hc3 hzC hEC hb2 hb3 hbD c3 hS3
    by_cases h1 : verErr F.data.toList = 0
    · rw [h1, errV_zero]
      by_cases h2 : verPre F.data.toList = pre
      · have HX : Hid (R = F.data.toList) := Lib.hid (by rw [HR.out, if_pos ⟨h1, h2⟩])
        have HEq2 := HEq.out
        rw [decide_eq_true h2] at HEq2
        clear h1 h2 HEq HR
        go_wp2_with fail
        refine HEq2.mono ?_
        rintro e w4 ⟨rfl, hb4⟩
        have hbw4 := below_step hbw3 hb4
        clear HEq2
        go_wp2_with fail
        go_ret
        rw [HX.out]
        exact ⟨rfl, hbw4⟩
      · have HX : Hid (R = []) := Lib.hid (by rw [HR.out, if_neg (fun h => h2 h.2)])
        have HEq2 := HEq.out
        rw [decide_eq_false h2] at HEq2
        clear h1 h2 HEq HR
        go_wp2_with fail
        refine HEq2.mono ?_
        rintro e w4 ⟨rfl, hb4⟩
        have hbw4 := below_step hbw3 hb4
        clear HEq2
        go_wp2_with fail
        go_ret
        rw [HX.out]
        exact ⟨rfl, hbw4⟩
    · have HX : Hid (R = []) := Lib.hid (by rw [HR.out, if_neg (fun h => h1 h.1)])
      rw [errV_pos A h1]
      clear h1 HEq HR
      go_wp2_with fail
      go_ret
      rw [HX.out]
      exact ⟨rfl, hbw3⟩
end Go.Proofs.Pw
