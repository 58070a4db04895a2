/- Po: walks and plain laws, joined: VerCmpD ModCmpD SortLayM SortM GrReach. Conditions: at each theorem. -/
import Derived.Test.YtglhgbcebpeomaaGreatDoorPom
import Derived.Test.YtglhgbcebpeomaaGreatDoorPoe
import Derived.Test.YtglhgbcebpeomaaGreatDoorPob
import Derived.Test.YtglhgbcebpeomaaGreatDoorPof
import Derived.Test.YtglhgbcebpeomaaGreatDoorProg
import Derived.Shelf.SlSortCmp.NoneTotal
import Derived.Test.YtglhgbcebpeomaaGreatDoorPoh
import Derived.Test.YtglhgbcebpeomaaGreatDoorPok
import Derived.Test.YtglhgbcebpeomaaGreatDoorPol

namespace Go.Proofs.Pw
open Go.RowKit
open Go.Lib hiding intOf
theorem cmpOrD (b n : Nat) (V : Nat → Int) (w : World) (hn : n ≤ 100) (hc : ∀ j, j < n → w.cell? ⟨b, j, none⟩ = some (.int .i64 (V j))) :
    Calls Tryz.prog 270 #[.slice (some ⟨b, 0, none⟩) n n] w fun e w' => e = .returned (.int .i64 (orN n V)) ∧ Bel w.heap.size w w' := by
  have HC := Lib.hid hc
  clear hc
  go_enter Tryz.func270, Tryz.ntmps270
  go_wp2_with fail
  go_loopw [8] (fun i wr => ∃ k : Nat, k ≤ n ∧ i = .int .i64 k ∧ Bel w.heap.size w wr ∧ Hid (∀ j, j < k → V j = 0)) (fun i _ => n - (intOf i).toNat)
  case atStart => exact ⟨0, by omega, rfl, Bel.refl _ _, Lib.hid (fun j hj => absurd hj (Nat.not_lt_zero _))⟩
  case round =>
    obtain ⟨k, hk, rfl, hbl, HA⟩ := hrel
    by_cases hlt : k < n
    · have hck := Below.cell_some hbl.b (HC.out k hlt)
      by_cases hv : V k = 0
      · have HV := Lib.hid hv
        rw [hv] at hck
        clear hv
        go_wp2_with fail
        go_roundw
        case rel =>
          refine ⟨k + 1, by omega, by go_num, hbl, Lib.hid (fun j hj => ?_)⟩
          by_cases e : j = k
          · subst e; exact HV.out
          · exact HA.out j (by omega)
        case measure => simp [intOf]; omega
      · have HV := Lib.hid hv
        have hv2 : (V k == 0) = false := beq_eq_false_iff_ne.2 hv
        have hres := Lib.hid (orN_hit V k HA.out hv n hlt)
        generalize V k = v at hck hv2 hres
        clear hv HV
        go_wp2_with fail
        go_ret
        rw [hres.out]
        exact ⟨rfl, hbl⟩
    · obtain rfl : k = n := by omega
      go_wp2_with fail
      go_ret
      rw [orN_none V k HA.out]
      exact ⟨rfl, hbl⟩
set_option maxHeartbeats 400000 in
theorem cmpPartD (a b : ByteArray) (w : World) (ha : a.size ≤ 1000000000) (hb : b.size ≤ 1000000000) :
    Calls Tryz.prog 272 #[.string a, .string b] w fun e w' => e = .returned (.int .i64 (cmpPart a.data.toList b.data.toList)) ∧ Bel w.heap.size w w' := by
  have hm : cmpPart a.data.toList b.data.toList = if areDigits a.data.toList && areDigits b.data.toList then orI ((a.size : Int) - b.size) (compareBytes a.data.toList b.data.toList) else if areDigits a.data.toList then -1 else if areDigits b.data.toList then 1 else compareBytes a.data.toList b.data.toList := by
    rw [size_eq, size_eq]; rfl
  generalize cmpPart a.data.toList b.data.toList = R at hm ⊢
  generalize hx : areDigits a.data.toList = x at hm
  generalize hy : areDigits b.data.toList = y at hm
  have HX := Lib.hid hx
  have HY := Lib.hid hy
  have hS := Tryz.strings_Compare a b
  generalize compareBytes a.data.toList b.data.toList = c at hm hS
  have HS := Lib.hid hS
  have HM := Lib.hid hm
  clear hx hy hm hS
  go_enter Tryz.func272, Tryz.ntmps272
  go_wp2_with fail
  refine (digitsD_calls a w (Nat.le_trans ha (by decide))).mono ?_
  rintro e w1 ⟨rfl, hb1⟩
  go_wp2_with fail
  refine (digitsD_calls b w1 (Nat.le_trans hb (by decide))).mono ?_
  rintro e w2 ⟨rfl, hb2⟩
  rw [HX.out, HY.out]
  have hb02 := bel_step hb1 hb2
  cases x <;> cases y
  case false.false =>
    go_wp2_with fail
    refine (HS.out w2).mono ?_
    rintro e w3 ⟨rfl, rfl⟩
    go_wp2_with fail
    go_ret
    rw [HM.out]
    exact ⟨rfl, hb02⟩
  case false.true =>
    go_wp2_with fail
    go_ret
    rw [HM.out]
    exact ⟨rfl, hb02⟩
  case true.false =>
    go_wp2_with fail
    go_ret
    rw [HM.out]
    exact ⟨rfl, hb02⟩
  case true.true =>
    go_wp2_with fail
    refine (HS.out w2).mono ?_
    rintro e w3 ⟨rfl, rfl⟩
    go_wp2_with fail
    refine (cmpOrD _ 2 (fun j => if j = 0 then (a.size : Int) - b.size else c) _ (by decide) ?_).mono ?_
    · intro j hj
      obtain rfl | rfl : j = 0 ∨ j = 1 := by omega
      all_goals simp
    rintro e w4 ⟨rfl, hb4⟩
    have ho : orN 2 (fun j => if j = 0 then (a.size : Int) - b.size else c) = orI ((a.size : Int) - b.size) c := by
      rw [orN_succ, orN_succ]
      show orI (orI 0 _) _ = _
      rw [orI_zero]
      rfl
    rw [ho]
    have hb05 := bel_step hb02 (bel_step (bel_alloc _ _) hb4)
    clear ho hb4
    go_wp2_with fail
    go_ret
    rw [HM.out]
    exact ⟨rfl, hb05⟩
set_option maxHeartbeats 400000 in
theorem cmpFuncD (a1 a2 : Option Addr) (n c1 m c2 : Nat) (L M : Nat → ByteArray) (w : World) (hn : n ≤ 1000000001) (hm : m ≤ 1000000001)
    (h1 : ∀ j, j < n → ∃ b o, a1 = some ⟨b, o, none⟩ ∧ w.cell? ⟨b, o + j, none⟩ = some (.string (L j))) (h2 : ∀ j, j < m → ∃ b o, a2 = some ⟨b, o, none⟩ ∧ w.cell? ⟨b, o + j, none⟩ = some (.string (M j)))
    (hL : ∀ j, j < n → (L j).size ≤ 1000000000) (hM : ∀ j, j < m → (M j).size ≤ 1000000000) :
    Calls Tryz.prog 271 #[.slice a1 n c1, .slice a2 m c2, .func (.func 272) #[] #[]] w fun e w' => e = .returned (.int .i64 (cmpList (lstF n L) (lstF m M))) ∧ Bel w.heap.size w w' := by
  have H1 := Lib.hid h1
  have H2 := Lib.hid h2
  have HL := Lib.hid hL
  have HM := Lib.hid hM
  clear h1 h2 hL hM
  go_enter Tryz.func271, Tryz.ntmps271
  go_wp2_with fail
  go_loopw [13] (fun i wr => ∃ k : Nat, k ≤ n ∧ k ≤ m ∧ i = .int .i64 k ∧ Bel w.heap.size w wr ∧ Hid (cmpList (lstF n L) (lstF m M) = cmpList ((lstF n L).drop k) ((lstF m M).drop k))) (fun i _ => n - (intOf i).toNat)
  case atStart => exact ⟨0, by omega, by omega, rfl, Bel.refl _ _, Lib.hid rfl⟩
  case round =>
    obtain ⟨k, hk, hkm, rfl, hbl, HA⟩ := hrel
    by_cases hlt : k < n
    · obtain ⟨b1, o1, rfl, d1⟩ := H1.out k hlt
      replace d1 := Below.cell_some hbl.b d1
      by_cases hlm : k < m
      · obtain ⟨b2, o2, rfl, d2⟩ := H2.out k hlm
        replace d2 := Below.cell_some hbl.b d2
        have hcall := cmpPartD (L k) (M k) wr (HL.out k hlt) (HM.out k hlm)
        have hst := cmpList_drop n m L M k hlt hlm
        generalize cmpPart (L k).data.toList (M k).data.toList = c at hcall hst
        by_cases hc : c = 0
        · rw [hc, orI_zero] at hst
          subst hc
          have HS := Lib.hid (HA.out.trans hst)
          clear hst
          go_wp2_with fail
          refine hcall.mono ?_
          rintro e w' ⟨rfl, hb2⟩
          go_wp2_with fail
          go_roundw
          case rel => exact ⟨k + 1, by omega, by omega, by go_num, bel_step hbl hb2, HS⟩
          case measure => simp [intOf]; omega
        · rw [orI_left hc] at hst
          have HS := Lib.hid (HA.out.trans hst)
          have hc2 : (c == 0) = false := beq_eq_false_iff_ne.2 hc
          clear hst hc
          go_wp2_with fail
          refine hcall.mono ?_
          rintro e w' ⟨rfl, hb2⟩
          go_wp2_with fail
          go_ret
          rw [HS.out]
          exact ⟨rfl, bel_step hbl hb2⟩
      · obtain rfl : k = m := by omega
        have HS : Hid (cmpList (lstF n L) (lstF k M) = 1) := by
          refine Lib.hid (HA.out.trans ?_)
          rw [List.drop_of_length_le (l := lstF k M) (by rw [lstF_length]; exact Nat.le_refl _), List.drop_eq_getElem_cons (by rw [lstF_length]; exact hlt)]
          rfl
        go_wp2_with fail
        go_ret
        rw [HS.out]
        exact ⟨rfl, hbl⟩
    · obtain rfl : k = n := by omega
      by_cases hlm : k < m
      · have HS : Hid (cmpList (lstF k L) (lstF m M) = -1) := by
          refine Lib.hid (HA.out.trans ?_)
          rw [List.drop_of_length_le (l := lstF k L) (by rw [lstF_length]; exact Nat.le_refl _), List.drop_eq_getElem_cons (by rw [lstF_length]; exact hlm)]
          rfl
        go_wp2_with fail
        go_ret
        rw [HS.out]
        exact ⟨rfl, hbl⟩
      · obtain rfl : k = m := by omega
        have HS : Hid (cmpList (lstF k L) (lstF k M) = 0) := by
          refine Lib.hid (HA.out.trans ?_)
          rw [List.drop_of_length_le (l := lstF k L) (by rw [lstF_length]; exact Nat.le_refl _), List.drop_of_length_le (l := lstF k M) (by rw [lstF_length]; exact Nat.le_refl _)]
          rfl
        go_wp2_with fail
        go_ret
        rw [HS.out]
        exact ⟨rfl, hbl⟩
set_option maxHeartbeats 1000000 in
theorem verCompareD (ks : List Nat) (A : Nat → Addr) (a b : ByteArray) (w : World) (hE : EnvP ks A w) (ha : a.size ≤ 1000000000) (hb : b.size ≤ 1000000000) (oka : verErr a.data.toList = 0) (okb : verErr b.data.toList = 0) :
    Calls Tryz.prog 197 #[.string a, .string b] w fun e w' => e = .returned (.int .i64 (verCmp a.data.toList b.data.toList)) ∧ Bel w.heap.size w w' := by
  have OKA := Lib.hid oka
  have OKB := Lib.hid okb
  clear oka okb
  have la0 := verNum_le a.data.toList 0
  have la1 := verNum_le a.data.toList 1
  have la2 := verNum_le a.data.toList 2
  have lb0 := verNum_le b.data.toList 0
  have lb1 := verNum_le b.data.toList 1
  have lb2 := verNum_le b.data.toList 2
  have hm : verCmp a.data.toList b.data.toList = (let n := orI ((verNum a.data.toList 0 : Int) - verNum b.data.toList 0) (orI ((verNum a.data.toList 1 : Int) - verNum b.data.toList 1) ((verNum a.data.toList 2 : Int) - verNum b.data.toList 2)); if n = 0 ∧ decide ((verPre a.data.toList).length = 0) ≠ decide ((verPre b.data.toList).length = 0) then ((verPre b.data.toList).length : Int) - (verPre a.data.toList).length else orI n (cmpList (verPre a.data.toList) (verPre b.data.toList))) := rfl
  generalize verCmp a.data.toList b.data.toList = R at hm ⊢
  have HM := Lib.hid hm
  clear hm
  go_enter Tryz.func197, Tryz.ntmps197
  go_wp2_with fail
  refine (verSplitD_calls ks A a w hE ha OKA.out).mono ?_
  rintro e w1 ⟨hb1, va, rfl, a1, n1, cap1, L1, rfl, HL1, hn1, hn1', hc1⟩
  go_wp2_with fail
  have hbA := bel_alloc w1 (.cells #[.int .i64 (verNum a.data.toList 0 : Nat), .int .i64 (verNum a.data.toList 1 : Nat), .int .i64 (verNum a.data.toList 2 : Nat), .slice a1 n1 cap1] 154)
  have hzA := box4_alloc w1 (.int .i64 (verNum a.data.toList 0 : Nat)) (.int .i64 (verNum a.data.toList 1 : Nat)) (.int .i64 (verNum a.data.toList 2 : Nat)) (.slice a1 n1 cap1) 154
  have hb1A := bel_step hb1 hbA
  refine (verSplitD_calls ks A b _ (hE.below hb1A.b) hb OKB.out).mono ?_
  rintro e w2 ⟨hb2, vb, rfl, a2, n2, cap2, L2, rfl, HL2, hn2, hn2', hc2⟩
  have hbB := bel_alloc w2 (.cells #[.int .i64 (verNum b.data.toList 0 : Nat), .int .i64 (verNum b.data.toList 1 : Nat), .int .i64 (verNum b.data.toList 2 : Nat), .slice a2 n2 cap2] 154)
  have hzB := box4_alloc w2 (.int .i64 (verNum b.data.toList 0 : Nat)) (.int .i64 (verNum b.data.toList 1 : Nat)) (.int .i64 (verNum b.data.toList 2 : Nat)) (.slice a2 n2 cap2) 154
  have hzA2 := (hzA.below hb2.b).below hbB.b
  have hb2B := bel_step (bel_step hb1A hb2) hbB
  obtain ⟨p0, p1, p2, p3, _⟩ := hzA2
  obtain ⟨q0, q1, q2, q3, _⟩ := hzB
  have hs1 := verPre_small a.data.toList
  have hs2 := verPre_small b.data.toList
  rw [HL1, lstF_length] at hs1
  rw [HL2, lstF_length] at hs2
  have hL1 : ∀ j, j < n1 → (L1 j).size ≤ 1000000000 := fun j hj => by
    have := (hs1.2 _ (List.mem_of_getElem? (lstF_get n1 L1 j hj))).1
    rw [size_eq]; omega
  have hL2 : ∀ j, j < n2 → (L2 j).size ≤ 1000000000 := fun j hj => by
    have := (hs2.2 _ (List.mem_of_getElem? (lstF_get n2 L2 j hj))).1
    rw [size_eq]; omega
  have hm1 := hs1.1
  have hm2 := hs2.1
  have hcf := fun (W : World) (h : Bel w1.heap.size w1 W) (h' : Bel w2.heap.size w2 W) => cmpFuncD a1 a2 n1 cap1 n2 cap2 L1 L2 W (by omega) (by omega)
    (fun j hj => let ⟨b, o, e, h2⟩ := hc1 j hj; ⟨b, o, e, Below.cell_some h.b h2⟩) (fun j hj => let ⟨b, o, e, h2⟩ := hc2 j hj; ⟨b, o, e, Below.cell_some h'.b h2⟩) hL1 hL2
  have HCF := Lib.hid hcf
  have HM2 : Hid (R = if orI ((verNum a.data.toList 0 : Int) - verNum b.data.toList 0) (orI ((verNum a.data.toList 1 : Int) - verNum b.data.toList 1) ((verNum a.data.toList 2 : Int) - verNum b.data.toList 2)) = 0 ∧ decide (n1 = 0) ≠ decide (n2 = 0) then (n2 : Int) - n1 else orI (orI ((verNum a.data.toList 0 : Int) - verNum b.data.toList 0) (orI ((verNum a.data.toList 1 : Int) - verNum b.data.toList 1) ((verNum a.data.toList 2 : Int) - verNum b.data.toList 2))) (cmpList (lstF n1 L1) (lstF n2 L2))) := Lib.hid (by
    rw [HM.out]
    show (if _ ∧ _ then _ else _) = _
    rw [HL1, HL2, lstF_length, lstF_length])
  clear hs1 hs2 hcf HM HL1 HL2 hL1 hL2 hc1 hc2 hzA hb1A
  generalize cmpList (lstF n1 L1) (lstF n2 L2) = cl at HCF HM2
  have hb12 : Bel w1.heap.size w1 w2 := bel_step hbA hb2
  have hpz : w1.heap.size < w2.heap.size := lt_of_cell (show w2.cell? ⟨w1.heap.size, 0, none⟩ = some _ from (box4_alloc w1 (.int .i64 (verNum a.data.toList 0 : Nat)) (.int .i64 (verNum a.data.toList 1 : Nat)) (.int .i64 (verNum a.data.toList 2 : Nat)) (.slice a1 n1 cap1) 154 |>.below hb2.b).c0)
  generalize verNum a.data.toList 0 = x0 at *
  generalize verNum a.data.toList 1 = x1 at *
  generalize verNum a.data.toList 2 = x2 at *
  generalize verNum b.data.toList 0 = y0 at *
  generalize verNum b.data.toList 1 = y1 at *
  generalize verNum b.data.toList 2 = y2 at *
  have hmn : ∀ n, n = orI ((x0 : Int) - y0) (orI ((x1 : Int) - y1) ((x2 : Int) - y2)) → -1000000 ≤ n ∧ n ≤ 1000000 := fun n e => by
    rw [e]; unfold orI; split <;> (try split) <;> omega
  go_wp2_with fail
  refine (cmpOrD (w2.heap.size + 1) 3 (fun j => if j = 0 then (x0 : Int) - y0 else if j = 1 then (x1 : Int) - y1 else (x2 : Int) - y2) _ (by decide) ?_).mono ?_
  · intro j hj
    obtain rfl | rfl | rfl : j = 0 ∨ j = 1 ∨ j = 2 := by omega
    all_goals simp
  rintro e w4 ⟨rfl, hb4⟩
  have ho : orN 3 (fun j => if j = 0 then (x0 : Int) - y0 else if j = 1 then (x1 : Int) - y1 else (x2 : Int) - y2) = orI ((x0 : Int) - y0) (orI ((x1 : Int) - y1) ((x2 : Int) - y2)) := by
    rw [orN_succ, orN_succ, orN_succ]
    show orI (orI (orI 0 _) _) _ = _
    rw [orI_zero]
    simp only [↓reduceIte]
    unfold orI
    by_cases h1 : (x0 : Int) - y0 = 0
    · simp [h1]
    · simp [h1]
  rw [ho]
  have hN := hmn _ rfl
  clear ho hmn
  generalize orI ((x0 : Int) - y0) (orI ((x1 : Int) - y1) ((x2 : Int) - y2)) = N at hN HM2 ⊢
  have hbC := bel_step (bel_alloc _ _) hb4
  have p3' := Below.cell_some hbC.b p3
  have q3' := Below.cell_some hbC.b q3
  have hbW := bel_step hb2B hbC
  have hb14 : Bel w1.heap.size w1 w4 := bel_step (bel_step hb12 hbB) hbC
  have hb24 : Bel w2.heap.size w2 w4 := bel_step hbB hbC
  clear p0 p1 p2 p3 q0 q1 q2 q3 la0 la1 la2 lb0 lb1 lb2 hb4 hbC hb2B hb12 hbB hb1 hb2 hbA hpz
  have go_on : Hid (R = orI N cl) → Hid (∀ W, Bel w1.heap.size w1 W → Bel w2.heap.size w2 W → Calls Tryz.prog 271 #[.slice a1 n1 cap1, .slice a2 n2 cap2, .func (.func 272) #[] #[]] W fun e w' => e = .returned (.int .i64 cl) ∧ Bel W.heap.size W w') := fun _ => HCF
  by_cases h0 : N = 0
  · subst h0
    by_cases h1 : n1 = 0
    · subst h1
      by_cases h2 : n2 = 0
      · subst h2
        have HR : Hid (R = orI 0 cl) := Lib.hid (by rw [HM2.out, if_neg (by simp)])
        clear go_on
        go_wp2_with fail
        refine (HCF.out _ hb14 hb24).mono ?_
        rintro e w5 ⟨rfl, hb5⟩
        go_wp2_with fail
        refine (cmpOrD _ 2 (fun j => if j = 0 then 0 else cl) _ (by decide) ?_).mono ?_
        · intro j hj
          obtain rfl | rfl : j = 0 ∨ j = 1 := by omega
          all_goals simp
        rintro e w6 ⟨rfl, hb6⟩
        have ho : orN 2 (fun j => if j = 0 then 0 else cl) = orI 0 cl := by
          rw [orN_succ, orN_succ]
          show orI (orI 0 _) _ = _
          rw [orI_zero]
          rfl
        rw [ho]
        have hbE := bel_step hbW (bel_step hb5 (bel_step (bel_alloc _ _) hb6))
        clear ho hb6 hb5
        go_wp2_with fail
        go_ret
        rw [HR.out]
        exact ⟨rfl, hbE⟩
      · have HR : Hid (R = (n2 : Int) - (0 : Nat)) := Lib.hid (by rw [HM2.out, if_pos ⟨rfl, by simp [h2]⟩])
        have h2' : ((n2 : Int) == 0) = false := beq_eq_false_iff_ne.2 (by omega)
        clear h2
        go_wp2_with fail
        go_ret
        rw [HR.out]
        exact ⟨by simp, hbW⟩
    · by_cases h2 : n2 = 0
      · subst h2
        have HR : Hid (R = ((0 : Nat) : Int) - n1) := Lib.hid (by rw [HM2.out, if_pos ⟨rfl, by simp [h1]⟩])
        have h1' : ((n1 : Int) == 0) = false := beq_eq_false_iff_ne.2 (by omega)
        clear h1
        go_wp2_with fail
        go_ret
        rw [HR.out]
        exact ⟨by simp, hbW⟩
      · have HR : Hid (R = orI 0 cl) := Lib.hid (by rw [HM2.out, if_neg (by simp [h1, h2])])
        have h1' : ((n1 : Int) == 0) = false := beq_eq_false_iff_ne.2 (by omega)
        have h2' : ((n2 : Int) == 0) = false := beq_eq_false_iff_ne.2 (by omega)
        clear go_on h1 h2
        go_wp2_with fail
        refine (HCF.out _ hb14 hb24).mono ?_
        rintro e w5 ⟨rfl, hb5⟩
        go_wp2_with fail
        refine (cmpOrD _ 2 (fun j => if j = 0 then 0 else cl) _ (by decide) ?_).mono ?_
        · intro j hj
          obtain rfl | rfl : j = 0 ∨ j = 1 := by omega
          all_goals simp
        rintro e w6 ⟨rfl, hb6⟩
        have ho : orN 2 (fun j => if j = 0 then 0 else cl) = orI 0 cl := by
          rw [orN_succ, orN_succ]
          show orI (orI 0 _) _ = _
          rw [orI_zero]
          rfl
        rw [ho]
        have hbE := bel_step hbW (bel_step hb5 (bel_step (bel_alloc _ _) hb6))
        clear ho hb6 hb5
        go_wp2_with fail
        go_ret
        rw [HR.out]
        exact ⟨rfl, hbE⟩
  · have HR : Hid (R = orI N cl) := Lib.hid (by rw [HM2.out, if_neg (fun h => h0 h.1)])
    have h0' : (N == 0) = false := beq_eq_false_iff_ne.2 h0
    clear h0 go_on
    go_wp2_with fail
    refine (HCF.out _ hb14 hb24).mono ?_
    rintro e w5 ⟨rfl, hb5⟩
    go_wp2_with fail
    refine (cmpOrD _ 2 (fun j => if j = 0 then N else cl) _ (by decide) ?_).mono ?_
    · intro j hj
      obtain rfl | rfl : j = 0 ∨ j = 1 := by omega
      all_goals simp
    rintro e w6 ⟨rfl, hb6⟩
    have ho : orN 2 (fun j => if j = 0 then N else cl) = orI N cl := by
      rw [orN_succ, orN_succ]
      show orI (orI 0 _) _ = _
      rw [orI_zero]
      rfl
    rw [ho]
    have hbE := bel_step hbW (bel_step hb5 (bel_step (bel_alloc _ _) hb6))
    clear ho hb6 hb5
    go_wp2_with fail
    go_ret
    rw [HR.out]
    exact ⟨rfl, hbE⟩
end Go.Proofs.Pw

namespace Go.Proofs.Pw
open Go.RowKit
open Go.Lib hiding intOf
theorem modCompareD (ks : List Nat) (A : Nat → Addr) (p v q u : ByteArray) (w : World) (hE : EnvP ks A w) (hv : v.size ≤ 1000000000) (hu : u.size ≤ 1000000000) (okv : verErr v.data.toList = 0) (oku : verErr u.data.toList = 0) :
    Calls Tryz.prog 140 #[.agg #[.string p, .string v], .agg #[.string q, .string u]] w fun e w' => e = .returned (.int .i64 (modCmp (p.data.toList, v.data.toList) (q.data.toList, u.data.toList))) ∧ Bel w.heap.size w w' := by
  have hb1 := bel_alloc w (.cells #[.string p, .string v] 29)
  have hb2 := bel_alloc (w.alloc (.cells #[.string p, .string v] 29)) (.cells #[.string q, .string u] 29)
  have hB := bel_step hb1 hb2
  obtain ⟨m0, m1, _⟩ := (box2_alloc w (.string p) (.string v) 29).below hb2.b
  obtain ⟨f0, f1, _⟩ := box2_alloc (w.alloc (.cells #[.string p, .string v] 29)) (.string q) (.string u) 29
  simp only [World.size_alloc] at f0 f1
  have hS := Tryz.strings_Compare p q
  have hC := verCompareD ks A v u ((w.alloc (.cells #[.string p, .string v] 29)).alloc (.cells #[.string q, .string u] 29)) (hE.below hB.b) hv hu okv oku
  have hm : modCmp (p.data.toList, v.data.toList) (q.data.toList, u.data.toList) = if p = q then verCmp v.data.toList u.data.toList else compareBytes p.data.toList q.data.toList := by
    unfold modCmp orI
    by_cases h : p = q
    · subst h
      rw [if_pos (compareBytes_ord.self _), if_pos rfl]
    · rw [if_neg (fun h2 => h (bytes_eq.1 (compareBytes_zero h2))), if_neg h]
  generalize compareBytes p.data.toList q.data.toList = x at hS hm
  generalize verCmp v.data.toList u.data.toList = y at hC hm
  replace hS := Lib.hid hS
  replace hC := Lib.hid hC
  clear hb1 hb2 hE okv oku
  by_cases h : p = q
  · rw [if_pos h] at hm
    have HM := Lib.hid hm
    subst h
    have h1 : (p.toList != p.toList) = false := by simp
    clear hm hS
    go_enter Tryz.func140, Tryz.ntmps140
    go_wp2_with fail
    refine hC.out.mono ?_
    rintro e w' ⟨rfl, hb⟩
    go_wp2_with fail
    go_ret
    rw [HM.out]
    exact ⟨rfl, bel_step hB hb⟩
  · rw [if_neg h] at hm
    have HM := Lib.hid hm
    have h1 : (p.toList != q.toList) = true := by rw [toList_data, toList_data]; exact bne_iff_ne.2 (fun e => h (bytes_eq.1 e))
    have h2 : p.toList ≠ q.toList := by rw [toList_data, toList_data]; exact fun e => h (bytes_eq.1 e)
    have h3 : (p.toList == q.toList) = false := beq_eq_false_iff_ne.2 h2
    clear hm hC
    go_enter Tryz.func140, Tryz.ntmps140
    go_wp2_with fail
    refine (hS.out _).mono ?_
    rintro e w' ⟨rfl, rfl⟩
    go_wp2_with fail
    go_ret
    rw [HM.out]
    exact ⟨rfl, hB⟩
end Go.Proofs.Pw

namespace Go.Proofs.Pw
open Go.RowKit
def laysSortMR : Go.Shelf.Ren := ⟨fun | 6 => 139 | 14 => 212 | 15 => 142 | 20 => 236 | 21 => 289 | 22 => 290 | 23 => 291 | 24 => 292 | 25 => 293 | 26 => 294 | 27 => 295 | 28 => 223 | 29 => 224 | 46 => 336 | 47 => 298 | 48 => 299 | 49 => 337 | 50 => 338 | 57 => 357 | n => n,
  fun | 0 => 0 | 3 => 3 | 4 => 4 | 5 => 5 | 9 => 9 | 22 => 23 | 24 => 29 | 25 => 137 | 39 => 174 | 45 => 266 | 46 => 267 | 50 => 271 | 53 => 33 | 55 => 117 | 66 => 334 | 70 => 338 | 76 => 362 | 77 => 112 | n => n, fun n => n⟩
theorem laysSortM : Go.Proofs.SlLaysF0.n6 Tryz.prog laysSortMR := {
  mixed := by kernel_rfl
  f6 := ⟨Tryz.f139.name, by decide, Tryz.func139.trans (congrArg some (by kernel_rfl))⟩
  f14 := ⟨Tryz.f212.name, by decide, Tryz.func212.trans (congrArg some (by kernel_rfl))⟩
  f15 := Tryz.func142.trans (congrArg some (by kernel_rfl))
  f20 := ⟨Tryz.f236.name, by decide, Tryz.func236.trans (congrArg some (by kernel_rfl))⟩
  f21 := ⟨Tryz.f289.name, by decide, Tryz.func289.trans (congrArg some (by kernel_rfl))⟩
  f22 := ⟨Tryz.f290.name, by decide, Tryz.func290.trans (congrArg some (by kernel_rfl))⟩
  f23 := ⟨Tryz.f291.name, by decide, Tryz.func291.trans (congrArg some (by kernel_rfl))⟩
  f24 := ⟨Tryz.f292.name, by decide, Tryz.func292.trans (congrArg some (by kernel_rfl))⟩
  f25 := ⟨Tryz.f293.name, by decide, Tryz.func293.trans (congrArg some (by kernel_rfl))⟩
  f26 := ⟨Tryz.f294.name, by decide, Tryz.func294.trans (congrArg some (by kernel_rfl))⟩
  f27 := ⟨Tryz.f295.name, by decide, Tryz.func295.trans (congrArg some (by kernel_rfl))⟩
  f28 := Tryz.func223.trans (congrArg some (by kernel_rfl))
  f29 := Tryz.func224.trans (congrArg some (by kernel_rfl))
  f46 := ⟨Tryz.f336.name, by decide, Tryz.func336.trans (congrArg some (by kernel_rfl))⟩
  f47 := Tryz.func298.trans (congrArg some (by kernel_rfl))
  f48 := Tryz.func299.trans (congrArg some (by kernel_rfl))
  f49 := ⟨Tryz.f337.name, by decide, Tryz.func337.trans (congrArg some (by kernel_rfl))⟩
  f50 := ⟨Tryz.f338.name, by decide, Tryz.func338.trans (congrArg some (by kernel_rfl))⟩
  f57 := ⟨Tryz.f357.name, by decide, Tryz.func357.trans (congrArg some (by kernel_rfl))⟩
  t0 := Tryz.underlying0
  a0 := Tryz.isAgg0
  z0 := Tryz.sizeOf0
  v0 := Tryz.zeroValue0
  t3 := Tryz.underlying3
  a3 := Tryz.isAgg3
  z3 := Tryz.sizeOf3
  v3 := Tryz.zeroValue3
  t4 := Tryz.underlying4
  a4 := Tryz.isAgg4
  z4 := Tryz.sizeOf4
  v4 := Tryz.zeroValue4
  t5 := Tryz.underlying5
  a5 := Tryz.isAgg5
  z5 := Tryz.sizeOf5
  v5 := Tryz.zeroValue5
  t9 := Tryz.underlying9
  a9 := Tryz.isAgg9
  z9 := Tryz.sizeOf9
  v9 := Tryz.zeroValue9
  t22 := Tryz.underlying23
  a22 := Tryz.isAgg23
  z22 := Tryz.sizeOf23
  v22 := Tryz.zeroValue23
  t25 := Tryz.underlying137
  a25 := Tryz.isAgg137
  z25 := Tryz.sizeOf137
  v25 := Tryz.zeroValue137
  t39 := Tryz.underlying174
  a39 := Tryz.isAgg174
  z39 := Tryz.sizeOf174
  v39 := Tryz.zeroValue174
  t45 := Tryz.underlying266
  a45 := Tryz.isAgg266
  z45 := Tryz.sizeOf266
  v45 := Tryz.zeroValue266
  t46 := Tryz.underlying267
  a46 := Tryz.isAgg267
  z46 := Tryz.sizeOf267
  v46 := Tryz.zeroValue267
  t50 := Tryz.underlying271
  a50 := Tryz.isAgg271
  z50 := Tryz.sizeOf271
  v50 := Tryz.zeroValue271
  t53 := Tryz.underlying33
  a53 := Tryz.isAgg33
  z53 := Tryz.sizeOf33
  v53 := Tryz.zeroValue33
  t55 := Tryz.underlying117
  a55 := Tryz.isAgg117
  z55 := Tryz.sizeOf117
  v55 := Tryz.zeroValue117
  t66 := Tryz.underlying334
  a66 := Tryz.isAgg334
  z66 := Tryz.sizeOf334
  v66 := Tryz.zeroValue334
  t70 := Tryz.underlying338
  a70 := Tryz.isAgg338
  z70 := Tryz.sizeOf338
  v70 := Tryz.zeroValue338
  t76 := Tryz.underlying362
  a76 := Tryz.isAgg362
  z76 := Tryz.sizeOf362
  v76 := Tryz.zeroValue362
  t77 := Tryz.underlying112
  a77 := Tryz.isAgg112
  z77 := Tryz.sizeOf112
  v77 := Tryz.zeroValue112 }
end Go.Proofs.Pw

namespace Go.Proofs.Pw
open Go.RowKit
open Go.Proofs Go.Sort
open Go.Lib hiding intOf
def OkM (m : ByteArray × ByteArray) : Prop := verErr m.2.data.toList = 0 ∧ m.2.size ≤ 1000000000
abbrev RM := {m : ByteArray × ByteArray // OkM m}
instance : Inhabited RM := ⟨⟨(⟨#[]⟩, ⟨#[118, 48, 46, 48, 46, 48]⟩), by decide +kernel, by decide⟩⟩
def tRM (x : RM) : Md := (x.1.1.data.toList, x.1.2.data.toList)
def encRM (x : RM) : List Value := [.string x.1.1, .string x.1.2]
def cmpRM (x y : RM) : Int := modCmp (tRM x) (tRM y)
theorem swo_of {α : Type} {f : α → α → Int} (h : Ord3 f) : SWO (ltOf f) := by
  refine ⟨fun x => ?_, fun x y z h1 h2 => ?_, fun x y z h1 h2 => ?_⟩
  · unfold ltOf
    rw [h.self]; rfl
  · unfold ltOf at *
    rw [decide_eq_true_iff] at *
    have a1 := h.tr x y z (by omega) (by omega)
    rcases Int.lt_or_eq_of_le a1 with a2 | a2
    · exact a2
    · exfalso
      have a3 := h.zero a2
      have a4 := h.tr z x y (by omega) (by omega)
      have a5 := (h.anti y z).1 h2
      omega
  · unfold ltOf at *
    rw [decide_eq_false_iff_not] at *
    intro h3
    have b1 := (h.anti x z).1 h3
    have b2 := h.anti y x
    have b3 := h.anti z y
    have b4 := h.anti x y
    have b5 := h.anti y z
    have := h.tr z y x (by omega) (by omega)
    omega
theorem cmpRM_ord : Ord3 cmpRM := modCmp_ord.comap tRM
theorem encRM_len (x : RM) : (encRM x).length = 2 := rfl
theorem encRM_one (x : RM) : ∀ v ∈ encRM x, v.oneCell' = true := by
  intro v hv
  simp [encRM] at hv
  rcases hv with rfl | rfl <;> rfl
theorem below_sortWK {B : Nat} {w0 w : World} (h : Below B w0 w) (hB : B ≤ w0.heap.size) {blk : Nat} (hb : B ≤ blk) (off m : Nat) (d : Array RM) (os : Array Obj) : Below B w0 (sortWorldK encRM 2 w blk off m d os) := by
  have hBs := h.size
  refine h.trans ⟨rfl, rfl, rfl, ?_, fun k hk => ?_⟩
  · simp [sortWorldK, grow, putRowK, putRow, mapBlock, Sort.ahead]
  · simp only [sortWorldK, grow, putRowK, putRow, mapBlock, Sort.ahead]
    by_cases hk2 : k < w.heap.size
    · rw [Array.getElem?_append_left (by simpa using hk2), Array.getElem?_modify, if_neg (by omega)]
    · exact absurd (Nat.lt_of_lt_of_le hk (Nat.le_trans hB hBs)) hk2
theorem map_subM {P : ByteArray × ByteArray → Prop} : ∀ (l : List (ByteArray × ByteArray)), (∀ x ∈ l, P x) → ∃ m : List {s : ByteArray × ByteArray // P s}, m.map (·.1) = l
  | [], _ => ⟨[], rfl⟩
  | a :: r, h => by
    obtain ⟨m, hm⟩ := map_subM r (fun x hx => h x (by simp [hx]))
    exact ⟨⟨a, h a (by simp)⟩ :: m, by simp [hm]⟩
theorem modsAt_holds {w : World} {g cap : Nat} {d : Array RM} (h : HoldsK encRM 2 w g 0 d) (hc : d.size ≤ cap) (hm : cap ≤ 9223372036854775807) : ModsAt w (.slice (some ⟨g, 0, none⟩) d.size cap) (d.toList.map tRM) := by
  refine ⟨some ⟨g, 0, none⟩, d.size, cap, fun i => (d[i]!).1.1, fun i => (d[i]!).1.2, rfl, ?_, hc, hm, fun j hj => ?_⟩
  · apply List.ext_getElem?
    intro i
    by_cases hi : i < d.size
    · rw [mdF_get _ _ _ i hi, List.getElem?_map, List.getElem?_eq_getElem (by simpa using hi)]
      rw [getElem!_pos d i hi]
      simp [tRM]
    · rw [List.getElem?_eq_none (by simpa using hi), List.getElem?_eq_none (by rw [mdF_length]; omega)]
  · have h0 := (h.cell hj (show 0 < 2 by decide)).1
    have h1 := (h.cell hj (show 1 < 2 by decide)).1
    exact ⟨g, 0, rfl, by simpa [encRM] using h0, by simpa [encRM] using h1⟩
theorem holds_own {w : World} {base e g cap : Nat} {L : List (ByteArray × ByteArray)} {d : Array RM} (hd : d.toList.map (·.1) = L) (h : w.ownsRow base e 2 (.slice (some ⟨g, 0, none⟩) L.length cap) L.length (mdVs L)) : HoldsK encRM 2 w g 0 d := by
  have hs : d.size = L.length := by rw [← hd]; simp
  rcases h.2 with ⟨h2, _⟩ | ⟨g', c', cur, e1, _, hg, hn, _, hcs, ht⟩
  · cases h2
  · injection e1 with e1 _ e2
    injection e1 with e1
    injection e1 with e1
    subst e1 e2
    intro j hj
    rw [size_flatK] at hj
    have hjl : j < (mdVs L).length := by rw [mdVs_length]; omega
    have hcur : j < cur.size := by rw [hcs]; omega
    have e3 : cur[j]? = (mdVs L)[j]? := by
      rw [← ht, List.getElem?_take, if_pos (by omega)]
      simp
    rw [get_flatK _ _ _ _ hj]
    have e4 : (mdVs L)[j]? = some ((encRM d[j / 2]!)[j % 2]!) := by
      have hget : L[j / 2]? = some (d[j / 2]!).1 := by
        have h2 : j / 2 < d.size := by omega
        rw [← hd, List.getElem?_map, List.getElem?_eq_getElem (by simpa using h2), getElem!_pos d _ h2]
        simp
      obtain ⟨q0, q1⟩ := mdVs_get hget
      rcases Nat.mod_two_eq_zero_or_one j with h2 | h2
      · rw [show j / 2 * 2 = j by omega] at q0
        rw [q0, h2]; rfl
      · rw [show j / 2 * 2 + 1 = j by omega] at q1
        rw [q1, h2]; rfl
    refine ⟨?_, ?_⟩
    · rw [Nat.zero_add, cell_of_row w g j cur e (0, 0) hg, e3, e4]; rfl
    · simp [World.frozen?, hg]
theorem sortM_calls (ks : List Nat) (A : Nat → Addr) (w0 w : World) (hE : EnvP ks A w0) (base : Nat) (x : Value) (L : List (ByteArray × ByteArray)) (hB : Below w0.heap.size w0 w) (hb : w0.heap.size ≤ base) (ho : w.ownsRow base 29 2 x L.length (mdVs L)) (hL : ∀ m ∈ L, OkM m) (hsz : L.length ≤ 1000000) :
    Calls Tryz.prog 139 #[x, .func (.func 140) #[] #[]] w fun e w' => e = .returned (.tuple #[]) ∧ (∃ l' : List Md, ModsAt w' x l' ∧ l'.Perm (mdTs L) ∧ l'.Pairwise fun a b => modCmp a b ≤ 0) ∧ Below w0.heap.size w0 w' := by
  rcases ho.2 with ⟨rfl, h0⟩ | ⟨g, cap, cur, rfl, hbg, hg, hn, hm, hcs, ht⟩
  · have : L = [] := List.eq_nil_of_length_eq_zero h0
    subst this
    refine (AnyF.slices_SortFunc_none laysSortM none 0 _ w).mono ?_
    rintro e w' ⟨rfl, rfl⟩
    exact ⟨rfl, ⟨[], ModsAt.nil _, List.Perm.refl _, List.Pairwise.nil⟩, hB⟩
  · obtain ⟨m, hd⟩ := map_subM L hL
    have hd' : (m.toArray).toList.map (·.1) = L := by simpa using hd
    have hH := holds_own (d := m.toArray) hd' ho
    have hms : m.toArray.size = L.length := by rw [← hd]; simp
    have hgw : g < w.heap.size := (Array.getElem?_eq_some_iff.1 hg).1
    have hcmp : CmpLays Tryz.prog 140 #[] encRM 2 cmpRM g 0 m.toArray.size w := by
      intro n os dk hs a b
      refine (modCompareD ks A a.1.1 a.1.2 b.1.1 b.1.2 _ (hE.below (below_sortWK hB (Nat.le_refl _) (by omega) 0 n dk os)) a.2.2 b.2.2 a.2.1 b.2.1).mono ?_
      rintro e w' ⟨rfl, hb⟩
      exact ⟨rfl, hb.grown⟩
    have h := AnyQ.slices_SortFunc laysSortM 2 Tryz.isAgg29 Tryz.sizeOf29 encRM encRM_len encRM_one cmpRM (swo_of cmpRM_ord) 140 #[] g 0 cap m.toArray w (Go.Proofs.enters_of Tryz.func140 (by kernel_rfl) rfl) hcmp hH hgw (by omega)
    rw [hms] at h
    refine h.mono ?_
    rintro e w' ⟨rfl, d', n, os, hp, hs, rfl⟩
    obtain ⟨hp1, _, hp3⟩ := hp
    have hH2 : HoldsK encRM 2 (sortWorldK encRM 2 w g 0 n d' os) g 0 d' := holdsK_sortWorldK_c encRM 2 w g 0 m.toArray d' n os hH hgw hp1
    refine ⟨rfl, ⟨d'.toList.map tRM, ?_, ?_, ?_⟩, below_sortWK hB (Nat.le_refl _) (by omega) 0 n d' os⟩
    · have := modsAt_holds (cap := cap) hH2 (by omega) (by unfold maxLen at hm; exact hm)
      rw [hp1, hms] at this
      exact this
    · have hpm := hp3
      rw [Array.extract_eq_self_of_le (show d'.size ≤ L.length by omega), Array.extract_eq_self_of_le (show m.toArray.size ≤ L.length by omega)] at hpm
      rw [← hd]
      unfold mdTs
      rw [List.map_map]
      exact hpm.map tRM
    · rw [List.pairwise_map, List.pairwise_iff_getElem]
      intro i j hi hj hij
      have hj' : j < d'.size := by simpa using hj
      have h1 := hs i j (Nat.zero_le _) hij (by omega)
      unfold ltOf at h1
      rw [decide_eq_false_iff_not, getElem!_pos d' i (by omega), getElem!_pos d' j hj'] at h1
      have := cmpRM_ord.anti d'[i] d'[j]
      have := cmpRM_ord.anti d'[j] d'[i]
      show cmpRM d'.toList[i] d'.toList[j] ≤ 0
      rw [Array.getElem_toList, Array.getElem_toList]
      omega
end Go.Proofs.Pw

namespace Go.Proofs.Pw
open Go.RowKit
open Go.Lib hiding intOf
noncomputable def reachR (l : List En) (roots : List Md) : List Md := if (startErr l roots).1 = 0 then reachL l roots else []
theorem rises_le {l : List Md} (h : l.Pairwise fun a b => modCmp a b ≤ 0) (hn : l.Nodup) (hr : ∀ m ∈ l, mdErr m = 0) : Rises modCmp l := by
  unfold Rises
  have h2 := h.and hn
  refine List.Pairwise.imp_of_mem ?_ h2
  intro a b ha hb ⟨h3, h4⟩
  rcases Int.lt_or_eq_of_le h3 with h5 | h5
  · exact h5
  · exact absurd (modCmp_zero (hr a ha) (hr b hb) h5) h4
theorem RightI.small {l : List En} (h : RightI l) {e : En} (he : e ∈ l) : e.reqs.length ≤ 20 := by
  have h1 := h.reqs e he
  unfold reqsErr at h1
  by_cases h2 : 20 < e.reqs.length
  · rw [if_pos h2] at h1; cases h1
  · omega
theorem mdTs_keys (S : List (MB × MB)) : mdTs (S.map (·.1)) = (cameOf S).map (·.1) := by
  unfold mdTs cameOf
  rw [List.map_map, List.map_map]
  rfl
theorem came_ok {l : List En} {roots : List Md} {S : List (MB × MB)} (hG : RightG l roots) (hs : ShortI l) (hS : cameOf S = walkS l roots) : ∀ m ∈ S.map (·.1), OkM m := by
  intro m hm
  have h1 := cameOf_mem.2 hm
  rw [hS] at h1
  have h2 := (walkS_mem hG _).1 h1
  obtain ⟨e, he, e1⟩ := hG.entry h2
  have h3 := hs.mds e he
  rw [e1] at h3
  refine ⟨(modErr_zero (hG.right h2)).2, ?_⟩
  rw [size_eq]
  exact Nat.le_trans h3.2 (by decide)
theorem walk_sorted {l : List En} {roots l' : List Md} {S : List (MB × MB)} (hG : RightG l roots) (hS : cameOf S = walkS l roots) (hp : l'.Perm (mdTs (S.map (·.1)))) (hl : l'.Pairwise fun a b => modCmp a b ≤ 0) : l' = reachL l roots := by
  have hm : ∀ m, m ∈ l' ↔ Reached l roots m := fun m => by
    rw [hp.mem_iff, mdTs_keys, hS, walkS_mem hG]
  have hn : l'.Nodup := by
    rw [hp.nodup_iff, mdTs_keys, hS]
    exact (walkS_walked hG).nd
  exact hG.is (rises_le hl hn (fun m h => hG.right ((hm m).1 h))) hm
set_option maxHeartbeats 4000000 in
set_option maxRecDepth 100000 in
theorem grReach_in (ks : List Nat) (A : Nat → Addr) (hks : IdxKs ks) (a : Option Addr) (n cap : Nat) (P V : Nat → ByteArray) (R : Nat → List Md) (K : Nat → List Str) (Bk : Nat → Bool) (Rv Kv : Nat → Value) (rv : Value) (roots : List Md) (w : World) (hE : EnvP ks A w) (h : EntsIn w a n cap P V R K Bk Rv Kv) (hs : ShortI (enF n P V R K Bk)) (hr : ModsAt w rv roots) (hl : roots.length ≤ 100000) :
    Calls Tryz.prog 74 #[.slice a n cap, rv] w fun e w' => (∃ x ev, e = .returned (.tuple #[x, ev]) ∧ FaultAt A w' ev (startErr (enF n P V R K Bk) roots) ∧ ModsAt w' x (reachR (enF n P V R K Bk) roots)) ∧ Below w.heap.size w w' := by
  have hst := grStart_in ks A hks a n cap P V R K Bk Rv Kv rv roots w hE h hs hr (by omega)
  have H := Lib.hid h
  have HS := Lib.hid hs
  have HE := Lib.hid hE
  obtain ⟨ar, rn, rc, _, _, rfl, _⟩ := id hr
  have HR := Lib.hid hr
  replace hst := Lib.hid hst
  clear h hs hE hr
  go_enter Tryz.func74, Tryz.ntmps74
  go_wp2_with fail
  refine hst.out.mono ?_
  rintro e w1 ⟨⟨v, rfl, hv⟩, hB⟩
  clear hst
  rcases fault_form hv with ⟨h0, rfl⟩ | ⟨h0, ty, q, rfl⟩
  · have hG := rightG_of h0
    have hn : n ≤ 100 := by have := hG.idx.len; rwa [enF_length] at this
    have hRj : ∀ j, j < n → (R j).length ≤ 1000 := fun j hj => by
      have h2 := hG.idx.small (List.mem_of_getElem? (enF_get n P V R K Bk j hj))
      have h3 : (R j).length ≤ 20 := h2
      omega
    have hwk := grWalk_in a n cap P V R K Bk Rv Kv (.slice ar rn rc) roots w1 (H.out.below hB) (HR.out.below hB) hl (by omega) hRj hG
    have h00 := startErr_at h0
    have HG := Lib.hid hG
    have H0 := Lib.hid h00
    replace hwk := Lib.hid hwk
    clear hG h00 h0 hv hRj hn
    go_wp2_with fail
    refine hwk.out.mono ?_
    rintro e w2 ⟨⟨x, S, rfl, hGo, hS⟩, hb2⟩
    have hB2 := below_step hB hb2
    have hSl : (S.map (·.1)).length ≤ 1000000 := by
      have h1 := (walkS_walked HG.out).len HG.out
      rw [← hS, cameOf_length, enF_length] at h1
      have h2 := HG.out.idx.len
      rw [enF_length] at h2
      rw [List.length_map]; omega
    have hso := sortM_calls ks A w w2 HE.out (w1.heap.size + 3) x (S.map (·.1)) hB2 (by have := hB.size; omega) hGo.own (came_ok HG.out HS.out hS) hSl
    obtain ⟨ax, nx, cx, rfl⟩ := own_form hGo.own
    have HSS := Lib.hid hS
    replace hso := Lib.hid hso
    clear hwk hGo hS hSl
    go_wp2_with fail
    refine hso.out.mono ?_
    rintro e w3 ⟨rfl, ⟨l', hM, hp, hpw⟩, hB3⟩
    have HM := Lib.hid (And.intro hM (And.intro hp hpw))
    clear hM hp hpw
    go_wp2_with fail
    go_ret2
    refine ⟨⟨_, _, rfl, ?_, ?_⟩, hB3⟩
    · rw [H0.out]; exact .inl ⟨rfl, rfl, rfl⟩
    · unfold reachR
      rw [if_pos (by rw [H0.out]), ← walk_sorted HG.out HSS.out HM.out.2.1 HM.out.2.2]
      exact HM.out.1
  · have HV := Lib.hid hv
    have H0 := Lib.hid h0
    clear hv h0
    go_wp2_with fail
    go_ret2
    refine ⟨⟨_, _, rfl, HV.out, ?_⟩, hB⟩
    unfold reachR
    rw [if_neg H0.out]
    exact ModsAt.nil _
end Go.Proofs.Pw
