/- St: walks and plain laws, joined: RefO VerHead Build VerText VerBeg QMath. Conditions: at each theorem. -/
import Derived.Test.YtglhgbcebpeomaaGreatDoorStf
import Derived.Test.YtglhgbcebpeomaaGreatDoorStg
import Derived.RegionTactic
import Derived.BigRegion
import Derived.Test.YtglhgbcebpeomaaGreatDoorShelf
import Derived.Test.YtglhgbcebpeomaaGreatDoorStb
import Derived.Shelf.Strings.BuilderK
import Derived.Shelf.Strings.OnBuilder
import Derived.Test.YtglhgbcebpeomaaGreatDoorStd
import Derived.Shelf.SlSortCmp.QuietGrown
import Derived.Lib.AppendIntMem
import Derived.Deep.CutRange
import Derived.Deep.CutBlock
import Derived.Test.YtglhgbcebpeomaaGreatDoorStc

namespace Go.Proofs.Pw
open Go.RowKit
open Go.Lib hiding intOf
def sgnB (x y : Bool) : Int := if x then -1 else if y then 1 else 0
theorem sgnB_int (a b : Int) : sgnB (decide (a < b)) (decide (b < a)) = sgn (a - b) := by
  unfold sgnB sgn
  by_cases h : a < b
  · simp [h]; omega
  · by_cases h2 : b < a
    · simp [h, h2]; omega
    · simp [h, h2]; omega
theorem sgnB_bytes (a b : Str) : sgnB (Op.bytesLess a b) (!Op.bytesLess a b && !(a == b)) = sgn (compareBytes a b) := by
  rw [bytesLess_iff]
  unfold sgnB sgn
  by_cases h : compareBytes a b < 0
  · simp [h]
  · by_cases h2 : 0 < compareBytes a b
    · have : ¬ a = b := fun e => by subst e; rw [compareBytes_ord.self] at h2; omega
      simp [h, h2, this]
    · have : a = b := compareBytes_zero (by omega)
      subst this
      simp [compareBytes_ord.self]
theorem sgn_zero' : sgn 0 = 0 := rfl
theorem sign_calls (x y : Bool) (w : World) :
    Calls Tryz.prog 277 #[.bool x, .bool y] w fun e w' => e = .returned (.int .i64 (sgnB x y)) ∧ w' = w := by
  cases x with
  | true =>
    go_enter Tryz.func277, Tryz.ntmps277
    go_wp2_with fail
    go_ret
    exact ⟨rfl, rfl⟩
  | false =>
    cases y with
    | true =>
      go_enter Tryz.func277, Tryz.ntmps277
      go_wp2_with fail
      go_ret
      exact ⟨rfl, rfl⟩
    | false =>
      go_enter Tryz.func277, Tryz.ntmps277
      go_wp2_with fail
      go_ret
      exact ⟨rfl, rfl⟩
theorem orderPart_calls (a b : ByteArray) (w : World) (ha : a.size ≤ 4000000000) (hb : b.size ≤ 4000000000) :
    Calls Tryz.prog 278 #[.string a, .string b] w fun e w' => e = .returned (.int .i64 (ordPart a.data.toList b.data.toList)) ∧ w' = w := by
  have hm : ordPart a.data.toList b.data.toList = if areDigits a.data.toList && areDigits b.data.toList then sgnB (decide (((numberOf a.data.toList).1 : Int) < (numberOf b.data.toList).1)) (decide (((numberOf b.data.toList).1 : Int) < (numberOf a.data.toList).1)) else if areDigits a.data.toList || areDigits b.data.toList then sgnB (areDigits a.data.toList) (areDigits b.data.toList) else sgnB (Op.bytesLess a.toList b.toList) (!Op.bytesLess a.toList b.toList && !(a.toList == b.toList)) := by
    rw [toList_data, toList_data, sgnB_bytes, sgnB_int]
    unfold ordPart
    cases areDigits a.data.toList <;> cases areDigits b.data.toList <;> rfl
  generalize ordPart a.data.toList b.data.toList = R at hm ⊢
  have h1 := fun W => refDigits_calls a W ha
  have h2 := fun W => refDigits_calls b W hb
  have h3 := fun W => refNumber_calls a W ha
  have h4 := fun W => refNumber_calls b W hb
  generalize areDigits a.data.toList = x at h1 hm
  generalize areDigits b.data.toList = y at h2 hm
  generalize (numberOf a.data.toList).1 = m at h3 hm
  generalize (numberOf b.data.toList).1 = n at h4 hm
  have HM := Lib.hid hm
  have H1 := Lib.hid h1
  have H2 := Lib.hid h2
  have H3 := Lib.hid h3
  have H4 := Lib.hid h4
  clear hm h1 h2 h3 h4
  go_enter Tryz.func278, Tryz.ntmps278
  go_wp2_with fail
  refine (H1.out w).mono ?_
  rintro e w1 ⟨rfl, rfl⟩
  go_wp2_with fail
  refine (H2.out w).mono ?_
  rintro e w1 ⟨rfl, rfl⟩
  cases x <;> cases y
  case false.false =>
    go_wp2_with fail
    refine (sign_calls _ _ w).mono ?_
    rintro e w1 ⟨rfl, rfl⟩
    go_wp2_with fail
    go_ret
    rw [HM.out]
    exact ⟨by simp, rfl⟩
  case true.true =>
    go_wp2_with fail
    refine (H3.out w).mono ?_
    rintro e w1 ⟨rfl, rfl⟩
    go_wp2_with fail
    refine (H4.out w).mono ?_
    rintro e w1 ⟨rfl, rfl⟩
    go_wp2_with fail
    refine (sign_calls _ _ w).mono ?_
    rintro e w1 ⟨rfl, rfl⟩
    go_wp2_with fail
    go_ret
    rw [HM.out]
    exact ⟨by simp, rfl⟩
  all_goals
    go_wp2_with fail
    refine (sign_calls _ _ w).mono ?_
    rintro e w1 ⟨rfl, rfl⟩
    go_wp2_with fail
    go_ret
    rw [HM.out]
    exact ⟨rfl, rfl⟩
theorem verNums_at {a b : Str} {k : Nat} (hk : k < 3) (h0 : ∀ j, j < k → verNum a j = verNum b j) (hne : verNum a k ≠ verNum b k) : verNums a b = (verNum a k : Int) - verNum b k := by
  unfold verNums orI
  obtain rfl | rfl | rfl : k = 0 ∨ k = 1 ∨ k = 2 := by omega
  · rw [if_neg (by omega)]
  · have := h0 0 (by omega)
    rw [if_pos (by omega), if_neg (by omega)]
  · have := h0 0 (by omega)
    have := h0 1 (by omega)
    rw [if_pos (by omega), if_pos (by omega)]
theorem verNums_same {a b : Str} (h0 : ∀ j, j < 3 → verNum a j = verNum b j) : verNums a b = 0 := by
  have := h0 0 (by omega)
  have := h0 1 (by omega)
  have := h0 2 (by omega)
  unfold verNums orI
  rw [if_pos (by omega), if_pos (by omega)]
  omega
theorem sgn_verKey {a b : Str} : sgn (verKey a b) = sgn (verCmp a b) := by
  have := verCmp_sign a b
  have h3 := verKey_ord.anti a b
  unfold sgn
  split <;> split <;> (try split) <;> (try split) <;> omega
theorem verKey_nums {a b : Str} (h : verNums a b ≠ 0) : verKey a b = verNums a b := by unfold verKey orI; rw [if_neg h]
theorem verKey_pre {a b : Str} (h : verNums a b = 0) : verKey a b = orI (preEnd a - preEnd b) (cmpList (verPre a) (verPre b)) := by unfold verKey; rw [h]; rfl
theorem sgnB_ne {x y : Nat} (h : x ≠ y) : sgnB (decide ((x : Int) < y)) true = sgn ((x : Int) - y) := by
  by_cases h1 : x < y
  · rw [sgn_neg (by omega)]
    simp [sgnB, h1]
  · rw [sgn_pos (by omega)]
    simp [sgnB, h1]
theorem ordEnd {a b : Str} {n1 n2 : Nat} {L1 L2 : Nat → ByteArray} (h : verNums a b = 0) (h1 : verPre a = lstF n1 L1) (h2 : verPre b = lstF n2 L2) :
    (n1 = 0 ∨ n2 = 0 → sgn (verKey a b) = sgnB (decide ((0 : Int) < n1)) (decide ((0 : Int) < n2))) ∧ (n1 ≠ 0 → n2 ≠ 0 → sgn (verKey a b) = sgn (cmpList (lstF n1 L1) (lstF n2 L2))) := by
  rw [verKey_pre h]
  unfold preEnd
  rw [h1, h2, lstF_length, lstF_length]
  refine ⟨fun h0 => ?_, fun q1 q2 => ?_⟩
  · by_cases q1 : n1 = 0
    · subst q1
      by_cases q2 : n2 = 0
      · subst q2; rfl
      · have hd : decide ((0 : Int) < n2) = true := decide_eq_true (by omega)
        rw [hd, if_pos rfl, if_neg q2]; rfl
    · obtain rfl : n2 = 0 := by omega
      have hd : decide ((0 : Int) < n1) = true := decide_eq_true (by omega)
      rw [hd, if_neg q1, if_pos rfl]; rfl
  · rw [if_neg q1, if_neg q2]; rfl
theorem cmpList_end1 {n m : Nat} {L M : Nat → ByteArray} {k : Nat} (h : k = n) (hm : k ≤ m) : sgn (cmpList ((lstF n L).drop k) ((lstF m M).drop k)) = sgnB (decide ((n : Int) < m)) (decide ((m : Int) < n)) := by
  subst h
  rw [List.drop_of_length_le (l := lstF k L) (by rw [lstF_length]; exact Nat.le_refl _)]
  by_cases h2 : k < m
  · rw [List.drop_eq_getElem_cons (by rw [lstF_length]; exact h2), decide_eq_true (show (k : Int) < m by omega)]; rfl
  · rw [List.drop_of_length_le (by rw [lstF_length]; omega), decide_eq_false (show ¬ (k : Int) < m by omega), decide_eq_false (show ¬ (m : Int) < k by omega)]; rfl
theorem cmpList_end2 {n m : Nat} {L M : Nat → ByteArray} {k : Nat} (h : k = m) (hm : k < n) : sgn (cmpList ((lstF n L).drop k) ((lstF m M).drop k)) = sgnB (decide ((n : Int) < m)) (decide ((m : Int) < n)) := by
  subst h
  rw [List.drop_of_length_le (l := lstF k M) (by rw [lstF_length]; exact Nat.le_refl _), List.drop_eq_getElem_cons (by rw [lstF_length]; exact hm), decide_eq_false (show ¬ (n : Int) < k by omega), decide_eq_true (show (k : Int) < n by omega)]; rfl
structure NumsAt (w : World) (b : Nat) (s : Str) (v3 : Value) : Prop where
  c : ∀ j, j < 3 → w.cell? ⟨b, j, none⟩ = some (.int .i64 (verNum s j : Nat))
  c3 : w.cell? ⟨b, 3, none⟩ = some v3
theorem NumsAt.below {w w' : World} {b : Nat} {s : Str} {v3 : Value} (h : NumsAt w b s v3) (hb : Below w.heap.size w w') : NumsAt w' b s v3 :=
  ⟨fun j hj => Below.cell_some hb (h.c j hj), Below.cell_some hb h.c3⟩
theorem numsAt_alloc (w : World) (s : Str) (v3 : Value) (t : TypeId) : NumsAt (w.alloc (.cells #[.int .i64 (verNum s 0 : Nat), .int .i64 (verNum s 1 : Nat), .int .i64 (verNum s 2 : Nat), v3] t)) w.heap.size s v3 :=
  ⟨fun j hj => by obtain rfl | rfl | rfl : j = 0 ∨ j = 1 ∨ j = 2 := by omega
                  all_goals simp, by simp⟩
set_option maxRecDepth 100000 in
set_option maxHeartbeats 1000000 in
theorem orderVer_calls (a b : ByteArray) (w : World) (ha : a.size ≤ 1000000000) (hb : b.size ≤ 1000000000) :
    Calls Tryz.prog 205 #[.string a, .string b] w fun e w' => e = .returned (.int .i64 (sgn (verCmp a.data.toList b.data.toList))) ∧ Below w.heap.size w w' := by
  have hR := sgn_verKey (a := a.data.toList) (b := b.data.toList)
  rw [← hR]
  clear hR
  have hs1 := verPre_small a.data.toList
  have hs2 := verPre_small b.data.toList
  go_enter Tryz.func205, Tryz.ntmps205
  go_wp2_with fail
  refine (refVerOf_calls a w ha).mono ?_
  rintro e w1 ⟨⟨va, rfl, a1, n1, cap1, L1, rfl, HL1, hn1, hn1', hc1⟩, hb1⟩
  have hbA := below_alloc w1 (.cells #[.int .i64 (verNum a.data.toList 0 : Nat), .int .i64 (verNum a.data.toList 1 : Nat), .int .i64 (verNum a.data.toList 2 : Nat), .slice a1 n1 cap1] 186)
  have hzA := numsAt_alloc w1 a.data.toList (.slice a1 n1 cap1) 186
  have hb1A := below_step hb1 hbA
  go_wp2_with fail
  refine (refVerOf_calls b _ hb).mono ?_
  rintro e w2 ⟨⟨vb, rfl, a2, n2, cap2, L2, rfl, HL2, hn2, hn2', hc2⟩, hb2⟩
  have hbB := below_alloc w2 (.cells #[.int .i64 (verNum b.data.toList 0 : Nat), .int .i64 (verNum b.data.toList 1 : Nat), .int .i64 (verNum b.data.toList 2 : Nat), .slice a2 n2 cap2] 186)
  have hzB := numsAt_alloc w2 b.data.toList (.slice a2 n2 cap2) 186
  have hzA2 := (hzA.below hb2).below hbB
  have hbw := below_step (below_step hb1A hb2) hbB
  have hc1' := fun j (hj : j < n1) => (let ⟨b, o, e, h2⟩ := hc1 j hj; ⟨b, o, e, Below.cell_some (below_step hbA (below_step hb2 hbB)) h2⟩ : ∃ b o, a1 = some ⟨b, o, none⟩ ∧ _)
  have hc2' := fun j (hj : j < n2) => (let ⟨b, o, e, h2⟩ := hc2 j hj; ⟨b, o, e, Below.cell_some hbB h2⟩ : ∃ b o, a2 = some ⟨b, o, none⟩ ∧ _)
  rw [HL1] at hs1
  rw [HL2] at hs2
  rw [lstF_length] at hs1 hs2
  have hL1 : ∀ j, j < n1 → (L1 j).size ≤ 4000000000 ∧ partErr (L1 j).data.toList = 0 := fun j hj => by
    have := hs1.2 _ (List.mem_of_getElem? (lstF_get n1 L1 j hj))
    exact ⟨by rw [size_eq]; omega, this.2⟩
  have hL2 : ∀ j, j < n2 → (L2 j).size ≤ 4000000000 ∧ partErr (L2 j).data.toList = 0 := fun j hj => by
    have := hs2.2 _ (List.mem_of_getElem? (lstF_get n2 L2 j hj))
    exact ⟨by rw [size_eq]; omega, this.2⟩
  have hm1 := hs1.1
  have hm2 := hs2.1
  have HPA := Lib.hid HL1
  have HPB := Lib.hid HL2
  have HC1 := Lib.hid hc1'
  have HC2 := Lib.hid hc2'
  have HS1 := Lib.hid hL1
  have HS2 := Lib.hid hL2
  clear hs1 hs2 hL1 hL2 hc1 hc2 hc1' hc2' HL1 HL2 hzA hb1 hbA hb1A
  go_wp2_with fail
  generalize hwB : w2.alloc (.cells #[.int .i64 (verNum b.data.toList 0 : Nat), .int .i64 (verNum b.data.toList 1 : Nat), .int .i64 (verNum b.data.toList 2 : Nat), .slice a2 n2 cap2] 186) = wB at *
  clear hwB
  go_loopw [9] (fun i wr => ∃ k : Nat, k ≤ 3 ∧ i = .int .i64 k ∧ Below wB.heap.size wB wr ∧ Hid (∀ j, j < k → verNum a.data.toList j = verNum b.data.toList j)) (fun i _ => 3 - (intOf i).toNat)
  case atStart => exact ⟨0, by omega, rfl, Below.refl _ _, Lib.hid (fun j hj => absurd hj (Nat.not_lt_zero _))⟩
  case round =>
    obtain ⟨k, hk, rfl, hbr, HA⟩ := hrel
    have hbrw := below_step hbw hbr
    by_cases hlt : k < 3
    · have d1 := (hzA2.below hbr).c k hlt
      have d2 := (hzB.below hbr).c k hlt
      by_cases he : verNum a.data.toList k = verNum b.data.toList k
      · have HN : Hid (∀ j, j < k + 1 → verNum a.data.toList j = verNum b.data.toList j) := Lib.hid (fun j hj => by
          by_cases e : j = k
          · subst e; exact he
          · exact HA.out j (by omega))
        rw [he] at d1
        generalize verNum b.data.toList k = x at d1 d2
        clear he
        go_wp2_with fail
        go_region
        all_goals
          go_wp2_with fail
          go_roundw
          case rel => exact ⟨k + 1, by omega, by go_num, hbr.drew, HN⟩
          case measure => simp [intOf]; omega
      · have hX : sgn (verKey a.data.toList b.data.toList) = sgnB (decide ((verNum a.data.toList k : Int) < verNum b.data.toList k)) true := by
          have h1 := verNums_at hlt HA.out he
          rw [verKey_nums (by rw [h1]; omega), h1, sgnB_ne he]
        have hne : ((verNum a.data.toList k : Int) == (verNum b.data.toList k : Int)) = false := beq_eq_false_iff_ne.2 (by omega)
        generalize verNum a.data.toList k = x at d1 hX hne
        generalize verNum b.data.toList k = y at d2 hX hne
        have HX := Lib.hid hX
        clear he hX
        go_wp2_with fail
        go_region
        go_wp2_with fail
        have e1 : wr.drew.cell? _ = _ := d1
        have e2 : wr.drew.cell? _ = _ := d2
        have hbd := Below.drew hbrw
        generalize wr.drew = wd at e1 e2 hbd ⊢
        clear d1 d2
        go_quiet ((go_at_call 277; exact Calls.quiet_of_same (sign_calls _ _ _)))
        go_wp2_with fail
        go_ret
        rw [HX.out]
        exact ⟨by simp, Below.drewN hbd _⟩
    · obtain rfl : k = 3 := by omega
      have hEnd := ordEnd (verNums_same HA.out) HPA.out HPB.out
      have p3 := (hzA2.below hbr).c3
      have q3 := (hzB.below hbr).c3
      have hE1 := Lib.hid hEnd.1
      have hE2 := Lib.hid hEnd.2
      clear hEnd HA
      by_cases p1 : n1 = 0
      · have HX := Lib.hid (hE1.out (.inl p1))
        have p1' : ((n1 : Int) == 0) = true := beq_iff_eq.2 (by omega)
        have p1'' : ¬ (0 : Int) < (n1 : Int) := by omega
        clear p1
        go_wp2_with fail
        refine (sign_calls _ _ _).mono ?_
        rintro e w5 ⟨rfl, rfl⟩
        go_wp2_with fail
        go_ret
        rw [HX.out]
        exact ⟨by simp, hbrw⟩
      · have p1' : ((n1 : Int) == 0) = false := beq_eq_false_iff_ne.2 (by omega)
        have p1'' : (0 : Int) < (n1 : Int) := by omega
        by_cases p2 : n2 = 0
        · have HX := Lib.hid (hE1.out (.inr p2))
          have p2' : ((n2 : Int) == 0) = true := beq_iff_eq.2 (by omega)
          have p2'' : ¬ (0 : Int) < (n2 : Int) := by omega
          clear p1 p2
          go_wp2_with fail
          refine (sign_calls _ _ _).mono ?_
          rintro e w5 ⟨rfl, rfl⟩
          go_wp2_with fail
          go_ret
          rw [HX.out]
          exact ⟨by simp, hbrw⟩
        · have HX := Lib.hid (hE2.out p1 p2)
          have p2' : ((n2 : Int) == 0) = false := beq_eq_false_iff_ne.2 (by omega)
          clear p1 p2 p1'' hE1 hE2
          obtain ⟨wo, hwo⟩ : ∃ wo : World, wo = wr := ⟨_, rfl⟩
          subst hwo
          go_wp2_with fail
          go_loopw [10, 11] (fun i _ wq => ∃ m : Nat, m ≤ n1 ∧ m ≤ n2 ∧ i = .int .i64 m ∧ Below wo.heap.size wo wq ∧ Hid (sgn (verKey a.data.toList b.data.toList) = sgn (cmpList ((lstF n1 L1).drop m) ((lstF n2 L2).drop m)))) (fun i _ _ => n1 - (intOf i).toNat)
          case atStart => exact ⟨0, by omega, by omega, rfl, Below.refl _ _, HX⟩
          case round =>
            obtain ⟨m, hm, hm', rfl, hbq, HC⟩ := hrel
            have hbqw := below_step hbrw hbq
            have hbqB := below_step hbr hbq
            replace p3 := Below.cell_some hbq p3
            replace q3 := Below.cell_some hbq q3
            by_cases hl1 : m < n1
            · by_cases hl2 : m < n2
              · obtain ⟨b1, o1, rfl, e1⟩ := HC1.out m hl1
                obtain ⟨b2, o2, rfl, e2⟩ := HC2.out m hl2
                replace e1 := Below.cell_some hbqB e1
                replace e2 := Below.cell_some hbqB e2
                have hcall := fun W => orderPart_calls (L1 m) (L2 m) W (HS1.out m hl1).1 (HS2.out m hl2).1
                rw [ordPart_eq (HS1.out m hl1).2 (HS2.out m hl2).2] at hcall
                have hst := cmpList_drop n1 n2 L1 L2 m hl1 hl2
                generalize cmpPart (L1 m).data.toList (L2 m).data.toList = c at hcall hst
                by_cases hc : c = 0
                · subst hc
                  rw [orI_zero] at hst
                  rw [sgn_zero'] at hcall
                  have HN : Hid (sgn (verKey a.data.toList b.data.toList) = sgn (cmpList ((lstF n1 L1).drop (m + 1)) ((lstF n2 L2).drop (m + 1)))) := Lib.hid (by rw [HC.out, hst])
                  have HCall := Lib.hid hcall
                  clear hst hcall
                  go_wp2_with fail
                  go_quiet ((go_at_call 278; exact Calls.quiet_of_same (HCall.out _)))
                  go_wp2_with fail
                  go_roundw
                  case rel => exact ⟨m + 1, by omega, by omega, by go_num, Below.drewN hbq _, HN⟩
                  case measure => simp [intOf]; omega
                · have hne : (sgn c == 0) = false := beq_eq_false_iff_ne.2 (fun e => hc (sgn_zero.1 e))
                  rw [orI_left hc] at hst
                  have HN : Hid (sgn (verKey a.data.toList b.data.toList) = sgn c) := Lib.hid (by rw [HC.out, hst])
                  generalize sgn c = sc at hcall hne HN
                  have HCall := Lib.hid hcall
                  clear hst hcall hc
                  go_wp2_with fail
                  go_quiet ((go_at_call 278; exact Calls.quiet_of_same (HCall.out _)))
                  go_wp2_with fail
                  go_ret
                  rw [HN.out]
                  exact ⟨rfl, Below.drewN hbqw _⟩
              · have HN : Hid (sgn (verKey a.data.toList b.data.toList) = sgnB (decide ((n1 : Int) < n2)) (decide ((n2 : Int) < n1))) := Lib.hid (by rw [HC.out, cmpList_end2 (by omega) hl1])
                go_wp2_with fail
                refine (sign_calls _ _ _).mono ?_
                rintro e w5 ⟨rfl, rfl⟩
                go_wp2_with fail
                go_ret
                rw [HN.out]
                exact ⟨by simp, hbqw⟩
            · have HN : Hid (sgn (verKey a.data.toList b.data.toList) = sgnB (decide ((n1 : Int) < n2)) (decide ((n2 : Int) < n1))) := Lib.hid (by rw [HC.out, cmpList_end1 (by omega) hm'])
              go_wp2_with fail
              refine (sign_calls _ _ _).mono ?_
              rintro e w5 ⟨rfl, rfl⟩
              go_wp2_with fail
              go_ret
              rw [HN.out]
              exact ⟨by simp, hbqw⟩
theorem isVer_calls (a : ByteArray) (w : World) (ha : a.size ≤ 1000000000) :
    Calls Tryz.prog 204 #[.string a] w fun e w' => e = .returned (.bool (decide (verErr a.data.toList = 0))) ∧ Below w.heap.size w w' := by
  go_enter Tryz.func204, Tryz.ntmps204
  go_wp2_with fail
  refine (refVerOf_calls a w ha).mono ?_
  rintro e w1 ⟨⟨va, rfl, a1, n1, cap1, L1, rfl, _, _, _, _⟩, hb1⟩
  by_cases h : verErr a.data.toList = 0
  · have HF := Lib.hid (decide_eq_true h)
    rw [h]
    clear h
    go_wp2_with fail
    go_ret
    rw [HF.out]
    exact ⟨rfl, hb1.alloc hb1.size _⟩
  · have h' : ((verErr a.data.toList : Int) == 0) = false := beq_eq_false_iff_ne.2 (by omega)
    have HF := Lib.hid (decide_eq_false h)
    clear h
    go_wp2_with fail
    go_ret
    rw [HF.out]
    exact ⟨rfl, hb1.alloc hb1.size _⟩
theorem isLess_calls (a b : ByteArray) (w : World) (ha : a.size ≤ 1000000000) (hb : b.size ≤ 1000000000) :
    Calls Tryz.prog 132 #[.string a, .string b] w fun e w' => e = .returned (.bool (verLess a.data.toList b.data.toList)) ∧ Below w.heap.size w w' := by
  have hm : verLess a.data.toList b.data.toList = (decide (verErr a.data.toList = 0) && (decide (verErr b.data.toList = 0) && decide (sgn (verCmp a.data.toList b.data.toList) < 0))) := by
    unfold verLess
    rw [Bool.eq_iff_iff]
    simp [sgn_lt]
  generalize verLess a.data.toList b.data.toList = R at hm ⊢
  have h1 := fun W => isVer_calls a W ha
  have h2 := fun W => isVer_calls b W hb
  have h3 := fun W => orderVer_calls a b W ha hb
  generalize decide (verErr a.data.toList = 0) = x at h1 hm
  generalize decide (verErr b.data.toList = 0) = y at h2 hm
  generalize sgn (verCmp a.data.toList b.data.toList) = c at h3 hm
  have HM := Lib.hid hm
  have H1 := Lib.hid h1
  have H2 := Lib.hid h2
  have H3 := Lib.hid h3
  clear hm h1 h2 h3
  go_enter Tryz.func132, Tryz.ntmps132
  go_wp2_with fail
  refine (H1.out w).mono ?_
  rintro e w1 ⟨rfl, hb1⟩
  go_wp2_with fail
  refine (H2.out w1).mono ?_
  rintro e w2 ⟨rfl, hb2⟩
  have hb12 := below_step hb1 hb2
  cases x <;> cases y
  case true.true =>
    go_wp2_with fail
    refine (H3.out w2).mono ?_
    rintro e w3 ⟨rfl, hb3⟩
    have hb13 := below_step hb12 hb3
    go_wp2_with fail
    go_ret
    rw [HM.out]
    exact ⟨by simp, hb13⟩
  all_goals
    go_wp2_with fail
    go_ret
    rw [HM.out]
    exact ⟨rfl, hb12⟩
end Go.Proofs.Pw

namespace Go.Proofs.Pw
open Go.RowKit
open Go.Lib hiding intOf
def IntsAt (w : World) (v : Value) (l : List Nat) : Prop :=
  ∃ a n cap, ∃ L : Nat → Nat, v = .slice a n cap ∧ l = (List.range n).map L ∧ n ≤ cap ∧ cap ≤ 9223372036854775807 ∧ ∀ j, j < n → ∃ b o, a = some ⟨b, o, none⟩ ∧ w.cell? ⟨b, o + j, none⟩ = some (.int .i64 (L j : Nat))
theorem IntsAt.below {w w' : World} {v : Value} {l : List Nat} (h : IntsAt w v l) (hb : Below w.heap.size w w') : IntsAt w' v l := by
  obtain ⟨a, n, cap, L, h1, h2, h3, h4, h5⟩ := h
  exact ⟨a, n, cap, L, h1, h2, h3, h4, fun j hj => let ⟨b, o, e1, e2⟩ := h5 j hj; ⟨b, o, e1, Below.cell_some hb e2⟩⟩
theorem IntsAt.nil (w : World) : IntsAt w (.slice none 0 0) [] := ⟨none, 0, 0, fun _ => 0, rfl, rfl, Nat.le_refl _, by decide, fun j hj => absurd hj (Nat.not_lt_zero _)⟩
end Go.Proofs.Pw

namespace Go.Proofs.Pw
open Go.RowKit
def renB : Go.Shelf.Ren := ⟨fun | 156 => 0 | 165 => 323 | 166 => 52 | 169 => 54 | 240 => 120 | 241 => 354 | 276 => 187 | 277 => 363 | n => n,
  fun | 0 => 0 | 3 => 3 | 4 => 4 | 9 => 9 | 20 => 20 | 37 => 98 | 70 => 97 | 72 => 100 | 75 => 41 | 80 => 104 | 164 => 239 | 5 => 5 | 31 => 35 | 76 => 101 | 127 => 175 | n => n, fun n => n⟩
theorem laysWS : Go.Proofs.Lays.n166 Tryz.prog renB := {
  mixed := by kernel_rfl
  f166 := Tryz.func52.trans (congrArg some (by kernel_rfl))
  f240 := Tryz.func120.trans (congrArg some (by kernel_rfl))
  f276 := Tryz.func187.trans (congrArg some (by kernel_rfl))
  t0 := Tryz.underlying0
  a0 := Tryz.isAgg0
  z0 := Tryz.sizeOf0
  v0 := Tryz.zeroValue0
  t3 := Tryz.underlying3
  a3 := Tryz.isAgg3
  z3 := Tryz.sizeOf3
  v3 := Tryz.zeroValue3
  t4 := Tryz.underlying4
  a4 := Tryz.isAgg4
  z4 := Tryz.sizeOf4
  v4 := Tryz.zeroValue4
  t9 := Tryz.underlying9
  a9 := Tryz.isAgg9
  z9 := Tryz.sizeOf9
  v9 := Tryz.zeroValue9
  t20 := Tryz.underlying20
  a20 := Tryz.isAgg20
  z20 := Tryz.sizeOf20
  v20 := Tryz.zeroValue20
  t37 := Tryz.underlying98
  a37 := Tryz.isAgg98
  z37 := Tryz.sizeOf98
  v37 := Tryz.zeroValue98
  t70 := Tryz.underlying97
  a70 := Tryz.isAgg97
  z70 := Tryz.sizeOf97
  v70 := Tryz.zeroValue97
  t72 := Tryz.underlying100
  a72 := Tryz.isAgg100
  z72 := Tryz.sizeOf100
  v72 := Tryz.zeroValue100
  t75 := Tryz.underlying41
  a75 := Tryz.isAgg41
  z75 := Tryz.sizeOf41
  v75 := Tryz.zeroValue41
  t164 := Tryz.underlying239
  a164 := Tryz.isAgg239
  z164 := Tryz.sizeOf239
  v164 := Tryz.zeroValue239 }
theorem extraB : Go.Proofs.Builder.Extra Tryz.prog renB := {
  sizeBuilder := by kernel_rfl
  liesBuilder := by kernel_rfl
  t5 := Tryz.underlying5
  a5 := Tryz.isAgg5
  z5 := Tryz.sizeOf5
  v5 := Tryz.zeroValue5
  infoByte := by kernel_rfl
  cellsByte := by kernel_rfl
  sizeByte := by kernel_rfl
  neB5 := by decide }
end Go.Proofs.Pw

namespace Go.Proofs.Pw
open Go.RowKit
open Go.Lib hiding intOf
open Go.Sort (grow)
end Go.Proofs.Pw

namespace Go.Proofs.Pw
open Go.RowKit
open Go.Lib hiding intOf
end Go.Proofs.Pw

namespace Go.Proofs.Pw
open Go.Lib hiding intOf
end Go.Proofs.Pw
