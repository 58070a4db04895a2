/- R.HeadOf, ver.Begins, R.DoesBegin. -/
import Derived.Test.YtaelindfneoajaaGreatDoorVerHead
import Derived.Test.YtaelindfneoajaaGreatDoorVerText
namespace Go.Proofs.Pw
open Go.RowKit
open Go.Lib hiding intOf

/-- slices.Equal at numbers -/
theorem equalInts_calls (v u : Value) (l m : List Nat) (w : World) (h : IntsAt w v l) (g : IntsAt w u m) :
    Calls Tryz.prog 106 #[v, u] w fun e w' => e = .returned (.bool (decide (l = m))) ∧ Below w.heap.size w w' := by
  obtain ⟨a, n, cap, L, rfl, rfl, hn, hcap, hc⟩ := h
  obtain ⟨a', n', cap', M, rfl, rfl, hn', hcap', hc'⟩ := g
  by_cases hnn : n = n'
  · subst hnn
    have H1 := Lib.hid hc
    have H2 := Lib.hid hc'
    clear hc hc'
    have hext : ((List.range n).map L = (List.range n).map M) ↔ ∀ j, j < n → L j = M j := by simp
    have HX := Lib.hid hext
    clear hext
    go_enter Tryz.func106, Tryz.ntmps106
    go_wp2_with fail
    go_loopw [13] (fun i wr => ∃ k : Nat, k ≤ n ∧ i = .int .i64 k ∧ Below w.heap.size w wr ∧ Hid (∀ j, j < k → L j = M j)) (fun i _ => n - (intOf i).toNat)
    case atStart => exact ⟨0, by omega, rfl, Below.refl _ _, Lib.hid (fun j hj => absurd hj (Nat.not_lt_zero _))⟩
    case round =>
      obtain ⟨k, hk, rfl, hb, HA⟩ := hrel
      by_cases hlt : k < n
      · obtain ⟨b1, o1, rfl, d1⟩ := H1.out k hlt
        obtain ⟨b2, o2, rfl, d2⟩ := H2.out k hlt
        replace d1 := Below.cell_some hb d1
        replace d2 := Below.cell_some hb d2
        by_cases he : L k = M k
        · have HE := Lib.hid he
          rw [he] at d1
          generalize M k = y at d1 d2
          clear he
          go_wp2_with fail
          go_region
          all_goals
            go_wp2_with fail
            go_roundw
            case rel =>
              refine ⟨k + 1, by omega, by go_num, hb.drew, Lib.hid (fun j hj => ?_)⟩
              by_cases e : j = k
              · subst e; exact HE.out
              · exact HA.out j (by omega)
            case measure => simp [intOf]; omega
        · have HF : Hid (decide ((List.range n).map L = (List.range n).map M) = false) := Lib.hid (decide_eq_false (fun e => he (HX.out.1 e k hlt)))
          have he1 : (((L k : Nat) : Int) == ((M k : Nat) : Int)) = false := beq_eq_false_iff_ne.2 (by omega)
          generalize L k = x at d1 he1
          generalize M k = y at d2 he1
          clear he
          go_wp2_with fail
          go_region
          all_goals
            go_wp2_with fail
            go_ret
            rw [HF.out]
            exact ⟨rfl, hb.drew⟩
      · obtain rfl : k = n := by omega
        have HF : Hid (decide ((List.range k).map L = (List.range k).map M) = true) := Lib.hid (decide_eq_true (HX.out.2 HA.out))
        go_wp2_with fail
        go_ret
        rw [HF.out]
        exact ⟨rfl, hb⟩
  · have HF : Hid (decide ((List.range n).map L = (List.range n').map M) = false) := Lib.hid (decide_eq_false (fun e => hnn (by have := congrArg List.length e; simpa using this)))
    have hnn2 : ((n : Int) == (n' : Int)) = false := beq_eq_false_iff_ne.2 (by omega)
    clear hc hc' hnn
    go_enter Tryz.func106, Tryz.ntmps106
    go_wp2_with fail
    go_ret
    rw [HF.out]
    exact ⟨rfl, Below.refl _ _⟩

/-- does a version begin so? -/
def verBegins (s h : Str) : Bool :=
  decide (verErr s = 0) && (decide (s = h) || (decide (headErr h = 0) && decide (headNums h = [verNum s 0, verNum s 1].take (headNums h).length)))

theorem nums_two {n : Nat} (L : Nat → Nat) (x y : Nat) (hn : n ≤ 2) : ((List.range n).map L = [x, y].take ((List.range n).map L).length) ↔ ∀ j, j < n → L j = if j = 0 then x else y := by
  obtain rfl | rfl | rfl : n = 0 ∨ n = 1 ∨ n = 2 := by omega
  · simp
  · simp
  · simp [List.range_succ]
    constructor
    · rintro ⟨h1, h2⟩ j hj
      obtain rfl | rfl : j = 0 ∨ j = 1 := by omega
      · simpa using h1
      · simpa using h2
    · intro h
      exact ⟨by simpa using h 0 (by omega), by simpa using h 1 (by omega)⟩

set_option maxRecDepth 100000 in
set_option maxHeartbeats 1000000 in
/-- ver.Begins -/
theorem verBegins_calls (ks : List Nat) (A : Nat → Addr) (s h : ByteArray) (w : World) (hE : EnvP ks A w) (hs : s.size ≤ 1000000000) (hh : h.size ≤ 1000000000) :
    Calls Tryz.prog 34 #[.string s, .string h] w fun e w' => e = .returned (.bool (verBegins s.data.toList h.data.toList)) ∧ Below w.heap.size w w' := by
  have hm : verBegins s.data.toList h.data.toList = (decide (verErr s.data.toList = 0) && (decide (s.data.toList = h.data.toList) || (decide (headErr h.data.toList = 0) && decide (headNums h.data.toList = [verNum s.data.toList 0, verNum s.data.toList 1].take (headNums h.data.toList).length)))) := rfl
  generalize verBegins s.data.toList h.data.toList = R at hm ⊢
  have HM := Lib.hid hm
  clear hm
  go_enter Tryz.func34, Tryz.ntmps34
  go_wp2_with fail
  refine (verSplit_calls ks A s w hE hs).mono ?_
  rintro e w1 ⟨hb1, v, rfl, a, n, cap, L, rfl, _, _, _, _⟩
  have hbA := below_alloc w1 (.cells #[.int .i64 (verNum s.data.toList 0 : Nat), .int .i64 (verNum s.data.toList 1 : Nat), .int .i64 (verNum s.data.toList 2 : Nat), .slice a n cap] 26)
  have hzA := box4_alloc w1 (.int .i64 (verNum s.data.toList 0 : Nat)) (.int .i64 (verNum s.data.toList 1 : Nat)) (.int .i64 (verNum s.data.toList 2 : Nat)) (.slice a n cap) 26
  have hb1A := below_step hb1 hbA
  have hE1 := (hE.below hb1).below hbA
  generalize verNum s.data.toList 0 = x0 at *
  generalize verNum s.data.toList 1 = x1 at *
  generalize verNum s.data.toList 2 = x2 at *
  by_cases h1 : verErr s.data.toList = 0
  · rw [h1, errV_zero]
    by_cases h2 : s.data.toList = h.data.toList
    · have HR : Hid (R = true) := Lib.hid (by rw [HM.out, decide_eq_true h1, decide_eq_true h2]; rfl)
      obtain rfl := bytes_ext.1 h2
      clear h1 h2
      go_wp2_with fail
      go_ret
      rw [HR.out]
      exact ⟨rfl, hb1A⟩
    · have hq1 : (s.toList == h.toList) = false := by rw [toList_data, toList_data]; exact beq_eq_false_iff_ne.2 h2
      have hq2 : s ≠ h := fun e => h2 (by rw [e])
      have HR : Hid (R = (decide (headErr h.data.toList = 0) && decide (headNums h.data.toList = [x0, x1].take (headNums h.data.toList).length))) := Lib.hid (by rw [HM.out, decide_eq_true h1, decide_eq_false h2]; rfl)
      have hl2 := headNums_len h.data.toList
      have hcall := verHead_calls ks A h _ hE1 hh
      generalize headErr h.data.toList = he at hcall HR
      generalize headNums h.data.toList = hn at hcall HR hl2
      have HCall := Lib.hid hcall
      clear h1 h2 hcall HM
      go_wp2_with fail
      refine HCall.out.mono ?_
      rintro e w3 ⟨⟨vh, rfl, hI⟩, hb3⟩
      obtain ⟨a2, n2, cap2, L2, rfl, rfl, hn2, hcap2, hc2⟩ := id hI
      rw [List.length_map, List.length_range] at hl2
      clear HCall
      by_cases h0 : he = 0
      · subst h0
        rw [errV_zero]
        have hz3 := hzA.below hb3
        have c0 := hz3.c0
        have c1 := hz3.c1
        have HR2 : Hid (R = decide ((List.range n2).map L2 = [x0, x1].take ((List.range n2).map L2).length)) := Lib.hid (by rw [HR.out]; rfl)
        have hI3 : IntsAt (w3.alloc (.cells #[.int .i64 x0, .int .i64 x1] 3)) (.slice (some ⟨w3.heap.size, 0, none⟩) n2 2) ((List.range n2).map fun j => if j = 0 then x0 else x1) :=
          ⟨_, n2, 2, _, rfl, rfl, hl2, by decide, fun j hj => ⟨_, 0, rfl, by
            obtain rfl | rfl : j = 0 ∨ j = 1 := by omega
            all_goals simp⟩⟩
        have hbC := below_alloc w3 (.cells #[.int .i64 x0, .int .i64 x1] 3)
        have hEq := equalInts_calls _ _ _ _ _ (hI.below hbC) hI3
        have hiff : decide ((List.range n2).map L2 = (List.range n2).map fun j => if j = 0 then x0 else x1) = decide ((List.range n2).map L2 = [x0, x1].take ((List.range n2).map L2).length) := by
          congr 1
          rw [nums_two L2 x0 x1 hl2]
          simp
        rw [hiff, ← HR2.out] at hEq
        have HEq := Lib.hid hEq
        have hbw := below_step (below_step hb1A hb3) hbC
        have hl2' : (n2 : Int) ≤ 2 := by omega
        clear hEq hiff HR2 hc2 HR hI hI3 hz3 hzA hbC
        go_wp2_with fail
        refine HEq.out.mono ?_
        rintro e w5 ⟨rfl, hb5⟩
        have hb5w := below_step hbw hb5
        clear HEq
        go_wp2_with fail
        go_ret
        exact ⟨rfl, hb5w⟩
      · have HR2 : Hid (R = false) := Lib.hid (by rw [HR.out, decide_eq_false h0]; rfl)
        rw [errV_pos A h0]
        have hbw := below_step hb1A hb3
        clear h0 HR hc2
        go_wp2_with fail
        go_ret
        rw [HR2.out]
        exact ⟨rfl, hbw⟩
  · have HR : Hid (R = false) := Lib.hid (by rw [HM.out, decide_eq_false h1]; rfl)
    rw [errV_pos A h1]
    clear h1
    go_wp2_with fail
    go_ret
    rw [HR.out]
    exact ⟨rfl, hb1A⟩

set_option maxRecDepth 100000 in
set_option maxHeartbeats 1000000 in
/-- R.DoesBegin -/
theorem doesBegin_calls (s h : ByteArray) (w : World) (hs : s.size ≤ 1000000000) (hh : h.size ≤ 1000000000) :
    Calls Tryz.prog 30 #[.string s, .string h] w fun e w' => e = .returned (.bool (verBegins s.data.toList h.data.toList)) ∧ Below w.heap.size w w' := by
  have hm : verBegins s.data.toList h.data.toList = (decide (verErr s.data.toList = 0) && (decide (s.data.toList = h.data.toList) || (decide (headErr h.data.toList = 0) && decide (headNums h.data.toList = [verNum s.data.toList 0, verNum s.data.toList 1].take (headNums h.data.toList).length)))) := rfl
  generalize verBegins s.data.toList h.data.toList = R at hm ⊢
  have HM := Lib.hid hm
  clear hm
  go_enter Tryz.func30, Tryz.ntmps30
  go_wp2_with fail
  refine (refVerOf_calls s w hs).mono ?_
  rintro e w1 ⟨⟨v, rfl, a, n, cap, L, rfl, _, _, _, _⟩, hb1⟩
  have hbA := below_alloc w1 (.cells #[.int .i64 (verNum s.data.toList 0 : Nat), .int .i64 (verNum s.data.toList 1 : Nat), .int .i64 (verNum s.data.toList 2 : Nat), .slice a n cap] 30)
  have hzA := numsAt_alloc w1 s.data.toList (.slice a n cap) 30
  have hb1A := below_step hb1 hbA
  by_cases h1 : verErr s.data.toList = 0
  · rw [h1]
    by_cases h2 : s.data.toList = h.data.toList
    · have HR : Hid (R = true) := Lib.hid (by rw [HM.out, decide_eq_true h1, decide_eq_true h2]; rfl)
      obtain rfl := bytes_ext.1 h2
      clear h1 h2
      go_wp2_with fail
      go_ret
      rw [HR.out]
      exact ⟨rfl, hb1A⟩
    · have hq1 : (s.toList == h.toList) = false := by rw [toList_data, toList_data]; exact beq_eq_false_iff_ne.2 h2
      have hq2 : s ≠ h := fun e => h2 (by rw [e])
      have HR : Hid (R = (decide (headErr h.data.toList = 0) && decide (headNums h.data.toList = [verNum s.data.toList 0, verNum s.data.toList 1].take (headNums h.data.toList).length))) := Lib.hid (by rw [HM.out, decide_eq_true h1, decide_eq_false h2]; rfl)
      have hl2 := headNums_len h.data.toList
      have hcall := fun W => headOf_calls h W hh
      generalize headErr h.data.toList = he at hcall HR
      generalize headNums h.data.toList = hn at hcall HR hl2
      have HCall := Lib.hid hcall
      clear h1 h2 hcall HM
      go_wp2_with fail
      refine (HCall.out _).mono ?_
      rintro e w3 ⟨⟨vh, rfl, hI⟩, hb3⟩
      obtain ⟨a2, n2, cap2, L2, rfl, rfl, hn2, hcap2, hc2⟩ := id hI
      rw [List.length_map, List.length_range] at hl2
      have hbw := below_step hb1A hb3
      clear HCall
      by_cases h0 : he = 0
      · subst h0
        have HR2 : Hid (R = decide ((List.range n2).map L2 = [verNum s.data.toList 0, verNum s.data.toList 1].take ((List.range n2).map L2).length)) := Lib.hid (by rw [HR.out]; rfl)
        have hiff := nums_two L2 (verNum s.data.toList 0) (verNum s.data.toList 1) hl2
        have HIF := Lib.hid hiff
        have HC2 := Lib.hid hc2
        have hz3 := hzA.below hb3
        clear hiff hc2 HR hI
        go_wp2_with fail
        go_loopw [8] (fun i wr => ∃ k : Nat, k ≤ n2 ∧ i = .int .i64 k ∧ Below w3.heap.size w3 wr ∧ Hid (∀ j, j < k → L2 j = if j = 0 then verNum s.data.toList 0 else verNum s.data.toList 1)) (fun i _ => n2 - (intOf i).toNat)
        case atStart => exact ⟨0, Nat.zero_le _, rfl, Below.refl _ _, Lib.hid (fun j hj => absurd hj (Nat.not_lt_zero _))⟩
        case round =>
          obtain ⟨k, hk, rfl, hbr, HA⟩ := hrel
          have hbrw := below_step hbw hbr
          by_cases hlt : k < n2
          · obtain ⟨b1, o1, rfl, d1⟩ := HC2.out k hlt
            replace d1 := Below.cell_some hbr d1
            have d2 := (hz3.below hbr).c k (by omega)
            have hk3 : k < 3 := by omega
            have hvk : verNum s.data.toList k = if k = 0 then verNum s.data.toList 0 else verNum s.data.toList 1 := by
              obtain rfl | rfl : k = 0 ∨ k = 1 := by omega
              all_goals rfl
            by_cases he : L2 k = verNum s.data.toList k
            · have HN : Hid (∀ j, j < k + 1 → L2 j = if j = 0 then verNum s.data.toList 0 else verNum s.data.toList 1) := Lib.hid (fun j hj => by
                by_cases e : j = k
                · subst e; rw [he, ← hvk]
                · exact HA.out j (by omega))
              rw [he] at d1
              generalize verNum s.data.toList k = y at d1 d2
              clear he hvk
              go_wp2_with fail
              go_region
              all_goals
                go_wp2_with fail
                go_roundw
                case rel => exact ⟨k + 1, by omega, by go_num, hbr.drew, HN⟩
                case measure => simp [intOf]; omega
            · have HF : Hid (R = false) := Lib.hid (by
                rw [HR2.out]
                apply decide_eq_false
                intro e
                exact he (by rw [HIF.out.1 e k hlt, ← hvk]))
              have he1 : (((L2 k : Nat) : Int) == ((verNum s.data.toList k : Nat) : Int)) = false := beq_eq_false_iff_ne.2 (by omega)
              generalize L2 k = x at d1 he1
              generalize verNum s.data.toList k = y at d2 he1
              clear he hvk
              go_wp2_with fail
              go_region
              all_goals
                go_wp2_with fail
                go_ret
                rw [HF.out]
                exact ⟨rfl, hbrw.drew⟩
          · obtain rfl : k = n2 := by omega
            have HF : Hid (R = true) := Lib.hid (by rw [HR2.out]; exact decide_eq_true (HIF.out.2 HA.out))
            go_wp2_with fail
            go_ret
            rw [HF.out]
            exact ⟨rfl, hbrw⟩
      · have HR2 : Hid (R = false) := Lib.hid (by rw [HR.out, decide_eq_false h0]; rfl)
        have h0' : (0 : Int) < (he : Int) := by omega
        clear h0 HR hc2
        go_wp2_with fail
        go_ret
        rw [HR2.out]
        exact ⟨rfl, hbw⟩
  · have HR : Hid (R = false) := Lib.hid (by rw [HM.out, decide_eq_false h1]; rfl)
    have h1' : (0 : Int) < (verErr s.data.toList : Int) := by omega
    generalize verErr s.data.toList = ev at h1'
    clear h1
    go_wp2_with fail
    go_ret
    rw [HR.out]
    exact ⟨rfl, hb1A⟩
end Go.Proofs.Pw
