/- Pf: walks and plain laws, joined: VerCmpD ModCmpD SortLayM SortM GrReach OwnIdx. Conditions: at each theorem. -/
import Derived.Test.YtkfnhchlfojomaaGreatDoorPfo
import Derived.Test.YtkfnhchlfojomaaGreatDoorPfg
import Derived.Test.YtkfnhchlfojomaaGreatDoorPfb
import Derived.Test.YtkfnhchlfojomaaGreatDoorPfk
import Derived.Test.YtkfnhchlfojomaaGreatDoorProg
import Derived.Shelf.SlSortCmp.NoneTotal
import Derived.Test.YtkfnhchlfojomaaGreatDoorPfn
import Derived.Test.YtkfnhchlfojomaaGreatDoorPfl
import Derived.Test.YtkfnhchlfojomaaGreatDoorPfe

namespace Go.Proofs.Pw
open Go.RowKit
open Go.Lib hiding intOf
theorem cmpOrD (b n : Nat) (V : Nat → Int) (w : World) (hn : n ≤ 100) (hc : ∀ j, j < n → w.cell? ⟨b, j, none⟩ = some (.int .i64 (V j))) :
    Calls Tryz.prog 152 #[.slice (some ⟨b, 0, none⟩) n n] w fun e w' => e = .returned (.int .i64 (orN n V)) ∧ Bel w.heap.size w w' := by
  have HC := Lib.hid hc
  clear hc
  go_enter Tryz.func152, Tryz.ntmps152
  go_wp2_with fail
  go_loopw [8] (fun i wr => ∃ k : Nat, k ≤ n ∧ i = .int .i64 k ∧ Bel w.heap.size w wr ∧ Hid (∀ j, j < k → V j = 0)) (fun i _ => n - (intOf i).toNat)
  case atStart => exact ⟨0, by omega, rfl, Bel.refl _ _, Lib.hid (fun j hj => absurd hj (Nat.not_lt_zero _))⟩
  case round =>
    obtain ⟨k, hk, rfl, hbl, HA⟩ := hrel
    by_cases hlt : k < n
    · have hck := Below.cell_some hbl.b (HC.out k hlt)
      by_cases hv : V k = 0
      · have HV := Lib.hid hv
        rw [hv] at hck
        clear hv
        go_wp2_with fail
        go_roundw
        case rel =>
          refine ⟨k + 1, by omega, by go_num, hbl, Lib.hid (fun j hj => ?_)⟩
          by_cases e : j = k
          · subst e; exact HV.out
          · exact HA.out j (by omega)
        case measure => simp [intOf]; omega
      · have HV := Lib.hid hv
        have hv2 : (V k == 0) = false := beq_eq_false_iff_ne.2 hv
        have hres := Lib.hid (orN_hit V k HA.out hv n hlt)
        generalize V k = v at hck hv2 hres
        clear hv HV
        go_wp2_with fail
        go_ret
        rw [hres.out]
        exact ⟨rfl, hbl⟩
    · obtain rfl : k = n := by omega
      go_wp2_with fail
      go_ret
      rw [orN_none V k HA.out]
      exact ⟨rfl, hbl⟩
set_option maxHeartbeats 400000 in
theorem cmpPartD (a b : ByteArray) (w : World) (ha : a.size ≤ 1000000000) (hb : b.size ≤ 1000000000) :
    Calls Tryz.prog 154 #[.string a, .string b] w fun e w' => e = .returned (.int .i64 (cmpPart a.data.toList b.data.toList)) ∧ Bel w.heap.size w w' := by
  have hm : cmpPart a.data.toList b.data.toList = if areDigits a.data.toList && areDigits b.data.toList then orI ((a.size : Int) - b.size) (compareBytes a.data.toList b.data.toList) else if areDigits a.data.toList then -1 else if areDigits b.data.toList then 1 else compareBytes a.data.toList b.data.toList := by
    rw [size_eq, size_eq]; rfl
  generalize cmpPart a.data.toList b.data.toList = R at hm ⊢
  generalize hx : areDigits a.data.toList = x at hm
  generalize hy : areDigits b.data.toList = y at hm
  have HX := Lib.hid hx
  have HY := Lib.hid hy
  have hS := Tryz.strings_Compare a b
  generalize compareBytes a.data.toList b.data.toList = c at hm hS
  have HS := Lib.hid hS
  have HM := Lib.hid hm
  clear hx hy hm hS
  go_enter Tryz.func154, Tryz.ntmps154
  go_wp2_with fail
  refine (digitsD_calls a w (Nat.le_trans ha (by decide))).mono ?_
  rintro e w1 ⟨rfl, hb1⟩
  go_wp2_with fail
  refine (digitsD_calls b w1 (Nat.le_trans hb (by decide))).mono ?_
  rintro e w2 ⟨rfl, hb2⟩
  rw [HX.out, HY.out]
  have hb02 := bel_step hb1 hb2
  cases x <;> cases y
  case false.false =>
    go_wp2_with fail
    refine (HS.out w2).mono ?_
    rintro e w3 ⟨rfl, rfl⟩
    go_wp2_with fail
    go_ret
    rw [HM.out]
    exact ⟨rfl, hb02⟩
  case false.true =>
    go_wp2_with fail
    go_ret
    rw [HM.out]
    exact ⟨rfl, hb02⟩
  case true.false =>
    go_wp2_with fail
    go_ret
    rw [HM.out]
    exact ⟨rfl, hb02⟩
  case true.true =>
    go_wp2_with fail
    refine (HS.out w2).mono ?_
    rintro e w3 ⟨rfl, rfl⟩
    go_wp2_with fail
    refine (cmpOrD _ 2 (fun j => if j = 0 then (a.size : Int) - b.size else c) _ (by decide) ?_).mono ?_
    · intro j hj
      obtain rfl | rfl : j = 0 ∨ j = 1 := by omega
      all_goals simp
    rintro e w4 ⟨rfl, hb4⟩
    have ho : orN 2 (fun j => if j = 0 then (a.size : Int) - b.size else c) = orI ((a.size : Int) - b.size) c := by
      rw [orN_succ, orN_succ]
      show orI (orI 0 _) _ = _
      rw [orI_zero]
      rfl
    rw [ho]
    have hb05 := bel_step hb02 (bel_step (bel_alloc _ _) hb4)
    clear ho hb4
    go_wp2_with fail
    go_ret
    rw [HM.out]
    exact ⟨rfl, hb05⟩
set_option maxHeartbeats 400000 in
theorem cmpFuncD (a1 a2 : Option Addr) (n c1 m c2 : Nat) (L M : Nat → ByteArray) (w : World) (hn : n ≤ 1000000001) (hm : m ≤ 1000000001)
    (h1 : ∀ j, j < n → ∃ b o, a1 = some ⟨b, o, none⟩ ∧ w.cell? ⟨b, o + j, none⟩ = some (.string (L j))) (h2 : ∀ j, j < m → ∃ b o, a2 = some ⟨b, o, none⟩ ∧ w.cell? ⟨b, o + j, none⟩ = some (.string (M j)))
    (hL : ∀ j, j < n → (L j).size ≤ 1000000000) (hM : ∀ j, j < m → (M j).size ≤ 1000000000) :
    Calls Tryz.prog 153 #[.slice a1 n c1, .slice a2 m c2, .func (.func 154) #[] #[]] w fun e w' => e = .returned (.int .i64 (cmpList (lstF n L) (lstF m M))) ∧ Bel w.heap.size w w' := by
  have H1 := Lib.hid h1
  have H2 := Lib.hid h2
  have HL := Lib.hid hL
  have HM := Lib.hid hM
  clear h1 h2 hL hM
  go_enter Tryz.func153, Tryz.ntmps153
  go_wp2_with fail
  go_loopw [13] (fun i wr => ∃ k : Nat, k ≤ n ∧ k ≤ m ∧ i = .int .i64 k ∧ Bel w.heap.size w wr ∧ Hid (cmpList (lstF n L) (lstF m M) = cmpList ((lstF n L).drop k) ((lstF m M).drop k))) (fun i _ => n - (intOf i).toNat)
  case atStart => exact ⟨0, by omega, by omega, rfl, Bel.refl _ _, Lib.hid rfl⟩
  case round =>
    obtain ⟨k, hk, hkm, rfl, hbl, HA⟩ := hrel
    by_cases hlt : k < n
    · obtain ⟨b1, o1, rfl, d1⟩ := H1.out k hlt
      replace d1 := Below.cell_some hbl.b d1
      by_cases hlm : k < m
      · obtain ⟨b2, o2, rfl, d2⟩ := H2.out k hlm
        replace d2 := Below.cell_some hbl.b d2
        have hcall := cmpPartD (L k) (M k) wr (HL.out k hlt) (HM.out k hlm)
        have hst := cmpList_drop n m L M k hlt hlm
        generalize cmpPart (L k).data.toList (M k).data.toList = c at hcall hst
        by_cases hc : c = 0
        · rw [hc, orI_zero] at hst
          subst hc
          have HS := Lib.hid (HA.out.trans hst)
          clear hst
          go_wp2_with fail
          refine hcall.mono ?_
          rintro e w' ⟨rfl, hb2⟩
          go_wp2_with fail
          go_roundw
          case rel => exact ⟨k + 1, by omega, by omega, by go_num, bel_step hbl hb2, HS⟩
          case measure => simp [intOf]; omega
        · rw [orI_left hc] at hst
          have HS := Lib.hid (HA.out.trans hst)
          have hc2 : (c == 0) = false := beq_eq_false_iff_ne.2 hc
          clear hst hc
          go_wp2_with fail
          refine hcall.mono ?_
          rintro e w' ⟨rfl, hb2⟩
          go_wp2_with fail
          go_ret
          rw [HS.out]
          exact ⟨rfl, bel_step hbl hb2⟩
      · obtain rfl : k = m := by omega
        have HS : Hid (cmpList (lstF n L) (lstF k M) = 1) := by
          refine Lib.hid (HA.out.trans ?_)
          rw [List.drop_of_length_le (l := lstF k M) (by rw [lstF_length]; exact Nat.le_refl _), List.drop_eq_getElem_cons (by rw [lstF_length]; exact hlt)]
          rfl
        go_wp2_with fail
        go_ret
        rw [HS.out]
        exact ⟨rfl, hbl⟩
    · obtain rfl : k = n := by omega
      by_cases hlm : k < m
      · have HS : Hid (cmpList (lstF k L) (lstF m M) = -1) := by
          refine Lib.hid (HA.out.trans ?_)
          rw [List.drop_of_length_le (l := lstF k L) (by rw [lstF_length]; exact Nat.le_refl _), List.drop_eq_getElem_cons (by rw [lstF_length]; exact hlm)]
          rfl
        go_wp2_with fail
        go_ret
        rw [HS.out]
        exact ⟨rfl, hbl⟩
      · obtain rfl : k = m := by omega
        have HS : Hid (cmpList (lstF k L) (lstF k M) = 0) := by
          refine Lib.hid (HA.out.trans ?_)
          rw [List.drop_of_length_le (l := lstF k L) (by rw [lstF_length]; exact Nat.le_refl _), List.drop_of_length_le (l := lstF k M) (by rw [lstF_length]; exact Nat.le_refl _)]
          rfl
        go_wp2_with fail
        go_ret
        rw [HS.out]
        exact ⟨rfl, hbl⟩
set_option maxHeartbeats 1000000 in
theorem verCompareD (ks : List Nat) (A : Nat → Addr) (a b : ByteArray) (w : World) (hE : EnvP ks A w) (ha : a.size ≤ 1000000000) (hb : b.size ≤ 1000000000) (oka : verErr a.data.toList = 0) (okb : verErr b.data.toList = 0) :
    Calls Tryz.prog 92 #[.string a, .string b] w fun e w' => e = .returned (.int .i64 (verCmp a.data.toList b.data.toList)) ∧ Bel w.heap.size w w' := by
  have OKA := Lib.hid oka
  have OKB := Lib.hid okb
  clear oka okb
  have la0 := verNum_le a.data.toList 0
  have la1 := verNum_le a.data.toList 1
  have la2 := verNum_le a.data.toList 2
  have lb0 := verNum_le b.data.toList 0
  have lb1 := verNum_le b.data.toList 1
  have lb2 := verNum_le b.data.toList 2
  have hm : verCmp a.data.toList b.data.toList = (let n := orI ((verNum a.data.toList 0 : Int) - verNum b.data.toList 0) (orI ((verNum a.data.toList 1 : Int) - verNum b.data.toList 1) ((verNum a.data.toList 2 : Int) - verNum b.data.toList 2)); if n = 0 ∧ decide ((verPre a.data.toList).length = 0) ≠ decide ((verPre b.data.toList).length = 0) then ((verPre b.data.toList).length : Int) - (verPre a.data.toList).length else orI n (cmpList (verPre a.data.toList) (verPre b.data.toList))) := rfl
  generalize verCmp a.data.toList b.data.toList = R at hm ⊢
  have HM := Lib.hid hm
  clear hm
  go_enter Tryz.func92, Tryz.ntmps92
  go_wp2_with fail
  refine (verSplitD_calls ks A a w hE ha OKA.out).mono ?_
  rintro e w1 ⟨hb1, va, rfl, a1, n1, cap1, L1, rfl, HL1, hn1, hn1', hc1⟩
  go_wp2_with fail
  have hbA := bel_alloc w1 (.cells #[.int .i64 (verNum a.data.toList 0 : Nat), .int .i64 (verNum a.data.toList 1 : Nat), .int .i64 (verNum a.data.toList 2 : Nat), .slice a1 n1 cap1] 132)
  have hzA := box4_alloc w1 (.int .i64 (verNum a.data.toList 0 : Nat)) (.int .i64 (verNum a.data.toList 1 : Nat)) (.int .i64 (verNum a.data.toList 2 : Nat)) (.slice a1 n1 cap1) 132
  have hb1A := bel_step hb1 hbA
  refine (verSplitD_calls ks A b _ (hE.below hb1A.b) hb OKB.out).mono ?_
  rintro e w2 ⟨hb2, vb, rfl, a2, n2, cap2, L2, rfl, HL2, hn2, hn2', hc2⟩
  have hbB := bel_alloc w2 (.cells #[.int .i64 (verNum b.data.toList 0 : Nat), .int .i64 (verNum b.data.toList 1 : Nat), .int .i64 (verNum b.data.toList 2 : Nat), .slice a2 n2 cap2] 132)
  have hzB := box4_alloc w2 (.int .i64 (verNum b.data.toList 0 : Nat)) (.int .i64 (verNum b.data.toList 1 : Nat)) (.int .i64 (verNum b.data.toList 2 : Nat)) (.slice a2 n2 cap2) 132
  have hzA2 := (hzA.below hb2.b).below hbB.b
  have hb2B := bel_step (bel_step hb1A hb2) hbB
  obtain ⟨p0, p1, p2, p3, _⟩ := hzA2
  obtain ⟨q0, q1, q2, q3, _⟩ := hzB
  have hs1 := verPre_small a.data.toList
  have hs2 := verPre_small b.data.toList
  rw [HL1, lstF_length] at hs1
  rw [HL2, lstF_length] at hs2
  have hL1 : ∀ j, j < n1 → (L1 j).size ≤ 1000000000 := fun j hj => by
    have := (hs1.2 _ (List.mem_of_getElem? (lstF_get n1 L1 j hj))).1
    rw [size_eq]; omega
  have hL2 : ∀ j, j < n2 → (L2 j).size ≤ 1000000000 := fun j hj => by
    have := (hs2.2 _ (List.mem_of_getElem? (lstF_get n2 L2 j hj))).1
    rw [size_eq]; omega
  have hm1 := hs1.1
  have hm2 := hs2.1
  have hcf := fun (W : World) (h : Bel w1.heap.size w1 W) (h' : Bel w2.heap.size w2 W) => cmpFuncD a1 a2 n1 cap1 n2 cap2 L1 L2 W (by omega) (by omega)
    (fun j hj => let ⟨b, o, e, h2⟩ := hc1 j hj; ⟨b, o, e, Below.cell_some h.b h2⟩) (fun j hj => let ⟨b, o, e, h2⟩ := hc2 j hj; ⟨b, o, e, Below.cell_some h'.b h2⟩) hL1 hL2
  have HCF := Lib.hid hcf
  have HM2 : Hid (R = if orI ((verNum a.data.toList 0 : Int) - verNum b.data.toList 0) (orI ((verNum a.data.toList 1 : Int) - verNum b.data.toList 1) ((verNum a.data.toList 2 : Int) - verNum b.data.toList 2)) = 0 ∧ decide (n1 = 0) ≠ decide (n2 = 0) then (n2 : Int) - n1 else orI (orI ((verNum a.data.toList 0 : Int) - verNum b.data.toList 0) (orI ((verNum a.data.toList 1 : Int) - verNum b.data.toList 1) ((verNum a.data.toList 2 : Int) - verNum b.data.toList 2))) (cmpList (lstF n1 L1) (lstF n2 L2))) := Lib.hid (by
    rw [HM.out]
    show (if _ ∧ _ then _ else _) = _
    rw [HL1, HL2, lstF_length, lstF_length])
  clear hs1 hs2 hcf HM HL1 HL2 hL1 hL2 hc1 hc2 hzA hb1A
  generalize cmpList (lstF n1 L1) (lstF n2 L2) = cl at HCF HM2
  have hb12 : Bel w1.heap.size w1 w2 := bel_step hbA hb2
  have hpz : w1.heap.size < w2.heap.size := lt_of_cell (show w2.cell? ⟨w1.heap.size, 0, none⟩ = some _ from (box4_alloc w1 (.int .i64 (verNum a.data.toList 0 : Nat)) (.int .i64 (verNum a.data.toList 1 : Nat)) (.int .i64 (verNum a.data.toList 2 : Nat)) (.slice a1 n1 cap1) 132 |>.below hb2.b).c0)
  generalize verNum a.data.toList 0 = x0 at *
  generalize verNum a.data.toList 1 = x1 at *
  generalize verNum a.data.toList 2 = x2 at *
  generalize verNum b.data.toList 0 = y0 at *
  generalize verNum b.data.toList 1 = y1 at *
  generalize verNum b.data.toList 2 = y2 at *
  have hmn : ∀ n, n = orI ((x0 : Int) - y0) (orI ((x1 : Int) - y1) ((x2 : Int) - y2)) → -1000000 ≤ n ∧ n ≤ 1000000 := fun n e => by
    rw [e]; unfold orI; split <;> (try split) <;> omega
  go_wp2_with fail
  refine (cmpOrD (w2.heap.size + 1) 3 (fun j => if j = 0 then (x0 : Int) - y0 else if j = 1 then (x1 : Int) - y1 else (x2 : Int) - y2) _ (by decide) ?_).mono ?_
  · intro j hj
    obtain rfl | rfl | rfl : j = 0 ∨ j = 1 ∨ j = 2 := by omega
    all_goals simp
  rintro e w4 ⟨rfl, hb4⟩
  have ho : orN 3 (fun j => if j = 0 then (x0 : Int) - y0 else if j = 1 then (x1 : Int) - y1 else (x2 : Int) - y2) = orI ((x0 : Int) - y0) (orI ((x1 : Int) - y1) ((x2 : Int) - y2)) := by
    rw [orN_succ, orN_succ, orN_succ]
    show orI (orI (orI 0 _) _) _ = _
    rw [orI_zero]
    simp only [↓reduceIte]
    unfold orI
    by_cases h1 : (x0 : Int) - y0 = 0
    · simp [h1]
    · simp [h1]
  rw [ho]
  have hN := hmn _ rfl
  clear ho hmn
  generalize orI ((x0 : Int) - y0) (orI ((x1 : Int) - y1) ((x2 : Int) - y2)) = N at hN HM2 ⊢
  have hbC := bel_step (bel_alloc _ _) hb4
  have p3' := Below.cell_some hbC.b p3
  have q3' := Below.cell_some hbC.b q3
  have hbW := bel_step hb2B hbC
  have hb14 : Bel w1.heap.size w1 w4 := bel_step (bel_step hb12 hbB) hbC
  have hb24 : Bel w2.heap.size w2 w4 := bel_step hbB hbC
  clear p0 p1 p2 p3 q0 q1 q2 q3 la0 la1 la2 lb0 lb1 lb2 hb4 hbC hb2B hb12 hbB hb1 hb2 hbA hpz
  have go_on : Hid (R = orI N cl) → Hid (∀ W, Bel w1.heap.size w1 W → Bel w2.heap.size w2 W → Calls Tryz.prog 153 #[.slice a1 n1 cap1, .slice a2 n2 cap2, .func (.func 154) #[] #[]] W fun e w' => e = .returned (.int .i64 cl) ∧ Bel W.heap.size W w') := fun _ => HCF
  by_cases h0 : N = 0
  · subst h0
    by_cases h1 : n1 = 0
    · subst h1
      by_cases h2 : n2 = 0
      · subst h2
        have HR : Hid (R = orI 0 cl) := Lib.hid (by rw [HM2.out, if_neg (by simp)])
        clear go_on
        go_wp2_with fail
        refine (HCF.out _ hb14 hb24).mono ?_
        rintro e w5 ⟨rfl, hb5⟩
        go_wp2_with fail
        refine (cmpOrD _ 2 (fun j => if j = 0 then 0 else cl) _ (by decide) ?_).mono ?_
        · intro j hj
          obtain rfl | rfl : j = 0 ∨ j = 1 := by omega
          all_goals simp
        rintro e w6 ⟨rfl, hb6⟩
        have ho : orN 2 (fun j => if j = 0 then 0 else cl) = orI 0 cl := by
          rw [orN_succ, orN_succ]
          show orI (orI 0 _) _ = _
          rw [orI_zero]
          rfl
        rw [ho]
        have hbE := bel_step hbW (bel_step hb5 (bel_step (bel_alloc _ _) hb6))
        clear ho hb6 hb5
        go_wp2_with fail
        go_ret
        rw [HR.out]
        exact ⟨rfl, hbE⟩
      · have HR : Hid (R = (n2 : Int) - (0 : Nat)) := Lib.hid (by rw [HM2.out, if_pos ⟨rfl, by simp [h2]⟩])
        have h2' : ((n2 : Int) == 0) = false := beq_eq_false_iff_ne.2 (by omega)
        clear h2
        go_wp2_with fail
        go_ret
        rw [HR.out]
        exact ⟨by simp, hbW⟩
    · by_cases h2 : n2 = 0
      · subst h2
        have HR : Hid (R = ((0 : Nat) : Int) - n1) := Lib.hid (by rw [HM2.out, if_pos ⟨rfl, by simp [h1]⟩])
        have h1' : ((n1 : Int) == 0) = false := beq_eq_false_iff_ne.2 (by omega)
        clear h1
        go_wp2_with fail
        go_ret
        rw [HR.out]
        exact ⟨by simp, hbW⟩
      · have HR : Hid (R = orI 0 cl) := Lib.hid (by rw [HM2.out, if_neg (by simp [h1, h2])])
        have h1' : ((n1 : Int) == 0) = false := beq_eq_false_iff_ne.2 (by omega)
        have h2' : ((n2 : Int) == 0) = false := beq_eq_false_iff_ne.2 (by omega)
        clear go_on h1 h2
        go_wp2_with fail
        refine (HCF.out _ hb14 hb24).mono ?_
        rintro e w5 ⟨rfl, hb5⟩
        go_wp2_with fail
        refine (cmpOrD _ 2 (fun j => if j = 0 then 0 else cl) _ (by decide) ?_).mono ?_
        · intro j hj
          obtain rfl | rfl : j = 0 ∨ j = 1 := by omega
          all_goals simp
        rintro e w6 ⟨rfl, hb6⟩
        have ho : orN 2 (fun j => if j = 0 then 0 else cl) = orI 0 cl := by
          rw [orN_succ, orN_succ]
          show orI (orI 0 _) _ = _
          rw [orI_zero]
          rfl
        rw [ho]
        have hbE := bel_step hbW (bel_step hb5 (bel_step (bel_alloc _ _) hb6))
        clear ho hb6 hb5
        go_wp2_with fail
        go_ret
        rw [HR.out]
        exact ⟨rfl, hbE⟩
  · have HR : Hid (R = orI N cl) := Lib.hid (by rw [HM2.out, if_neg (fun h => h0 h.1)])
    have h0' : (N == 0) = false := beq_eq_false_iff_ne.2 h0
    clear h0 go_on
    go_wp2_with fail
    refine (HCF.out _ hb14 hb24).mono ?_
    rintro e w5 ⟨rfl, hb5⟩
    go_wp2_with fail
    refine (cmpOrD _ 2 (fun j => if j = 0 then N else cl) _ (by decide) ?_).mono ?_
    · intro j hj
      obtain rfl | rfl : j = 0 ∨ j = 1 := by omega
      all_goals simp
    rintro e w6 ⟨rfl, hb6⟩
    have ho : orN 2 (fun j => if j = 0 then N else cl) = orI N cl := by
      rw [orN_succ, orN_succ]
      show orI (orI 0 _) _ = _
      rw [orI_zero]
      rfl
    rw [ho]
    have hbE := bel_step hbW (bel_step hb5 (bel_step (bel_alloc _ _) hb6))
    clear ho hb6 hb5
    go_wp2_with fail
    go_ret
    rw [HR.out]
    exact ⟨rfl, hbE⟩
end Go.Proofs.Pw

namespace Go.Proofs.Pw
open Go.RowKit
open Go.Lib hiding intOf
end Go.Proofs.Pw

namespace Go.Proofs.Pw
open Go.RowKit
end Go.Proofs.Pw

namespace Go.Proofs.Pw
open Go.RowKit
open Go.Proofs Go.Sort
open Go.Lib hiding intOf
def OkM (m : ByteArray × ByteArray) : Prop := verErr m.2.data.toList = 0 ∧ m.2.size ≤ 1000000000
abbrev RM := {m : ByteArray × ByteArray // OkM m}
instance : Inhabited RM := ⟨⟨(⟨#[]⟩, ⟨#[118, 48, 46, 48, 46, 48]⟩), by decide +kernel, by decide⟩⟩
end Go.Proofs.Pw

namespace Go.Proofs.Pw
open Go.RowKit
open Go.Lib hiding intOf
theorem RightI.small {l : List En} (h : RightI l) {e : En} (he : e ∈ l) : e.reqs.length ≤ 20 := by
  have h1 := h.reqs e he
  unfold reqsErr at h1
  by_cases h2 : 20 < e.reqs.length
  · rw [if_pos h2] at h1; cases h1
  · omega
end Go.Proofs.Pw

namespace Go.Proofs.Pw
open Go.RowKit
open Go.Lib hiding intOf
set_option maxRecDepth 100000 in
theorem app_strs (w : World) (base : Nat) (hb : base ≤ w.heap.size) (v : Value) (l : List Str) (h : StrsAt w v l) (hl : l.length ≤ 1000000) :
    ∃ kv w', (Builtin.append_ #[35, 35] 35 #[.slice none 0 0, v]).run Tryz.prog w = .ok kv w' ∧ (∃ T, l = strTs T ∧ w'.ownsRow base 9 1 kv T.length (strVs T)) ∧ w.grownBy w' none := by
  obtain ⟨i0, hi, hz0, hz1, hz2⟩ := info_parts Tryz.infoString
  obtain ⟨a, n, cap, L, rfl, rfl, hnc, hcap, hc⟩ := h
  rw [lstF_length] at hl
  cases a with
  | none =>
    have hn0 : n = 0 := by
      rcases Nat.eq_zero_or_pos n with h | h
      · exact h
      · obtain ⟨b, o, e, _⟩ := hc 0 h
        cases e
    subst hn0
    exact ⟨_, w, run_append_nothing (P := Tryz.prog) w 35 35 35 9 i0 Tryz.underlying35 hi none 0 0 (Nat.le_refl _) (.slice none 0 cap) (Src.ofNil w Tryz.underlying35 cap), ⟨[], rfl, World.ownsRow_nil _ _ _ _⟩, World.grownBy.refl _ _⟩
  | some a =>
    have hnews : ∀ j u, (strVs ((List.range n).map L))[j]? = some u → w.cell? (a.add j) = some u := by
      intro j u hu
      have hj : j < n := by
        have := (List.getElem?_eq_some_iff.1 hu).1
        simpa [strVs] using this
      obtain ⟨b, o, e, h1⟩ := hc j hj
      injection e with e
      subst e
      have hu2 : u = .string (L j) := by
        simp [strVs, hj] at hu
        exact hu.symm
      rw [hu2, show (⟨b, o, none⟩ : Addr).add j = ⟨b, o + j, none⟩ from by unfold Addr.add; split <;> simp_all]
      exact h1
    obtain ⟨kv, w', h1, h2, h3, _⟩ := run_append_own (P := Tryz.prog) w base 35 35 9 i0 (.string ⟨#[]⟩) 1 16 Tryz.underlying35 hi hz0 hz1 hz2 rfl (by decide) (.slice none 0 0) 0 [] (World.ownsRow_nil _ _ _ _) a n cap (strVs ((List.range n).map L)) (by simp [strVs]) hnews (fun u hu => by
      simp [strVs] at hu
      obtain ⟨_, _, rfl⟩ := hu
      rfl) (by unfold maxLen; omega) (by omega) hb
    refine ⟨kv, w', h1, ⟨(List.range n).map L, by simp [strTs, lstF], ?_⟩, h3⟩
    simpa using h2
def ec (P V : Nat → ByteArray) (Rv Kv : Nat → Value) (B : Nat → Bool) (j : Nat) : List Value := [.string (P j), .string (V j), Rv j, Kv j, .bool (B j)]
def enVs (P V : Nat → ByteArray) (Rv Kv : Nat → Value) (B : Nat → Bool) (k : Nat) : List Value := (List.range k).flatMap (ec P V Rv Kv B)
theorem enVs_succ (P V Rv Kv B k) : enVs P V Rv Kv B (k + 1) = enVs P V Rv Kv B k ++ ec P V Rv Kv B k := by
  unfold enVs
  rw [List.range_succ, List.flatMap_append]
  simp
theorem enVs_length (P V Rv Kv B) : ∀ k, (enVs P V Rv Kv B k).length = k * 5
  | 0 => rfl
  | k + 1 => by rw [enVs_succ, List.length_append, enVs_length]; simp [ec]; omega
theorem enVs_get (P V Rv Kv B) : ∀ (k j c : Nat), j < k → c < 5 → (enVs P V Rv Kv B k)[j * 5 + c]? = (ec P V Rv Kv B j)[c]?
  | 0, j, c, h, _ => absurd h (Nat.not_lt_zero _)
  | k + 1, j, c, h, hc => by
    rw [enVs_succ]
    by_cases e : j = k
    · subst e
      rw [List.getElem?_append_right (by rw [enVs_length]; omega), enVs_length]
      congr 1; omega
    · rw [List.getElem?_append_left (by rw [enVs_length]; omega)]
      exact enVs_get P V Rv Kv B k j c (by omega) hc
theorem enVs_cong {P V : Nat → ByteArray} {Rv Kv Rv' Kv' : Nat → Value} {B : Nat → Bool} : ∀ {k : Nat}, (∀ j, j < k → Rv j = Rv' j ∧ Kv j = Kv' j) → enVs P V Rv Kv B k = enVs P V Rv' Kv' B k
  | 0, _ => rfl
  | k + 1, h => by
    rw [enVs_succ, enVs_succ, enVs_cong (k := k) (fun j hj => h j (by omega))]
    unfold ec
    rw [(h k (by omega)).1, (h k (by omega)).2]
structure RowsE (w : World) (base k : Nat) (R : Nat → List Md) (K : Nat → List Str) (Rv Kv : Nat → Value) : Prop where
  r : ∀ j, j < k → ∃ M, R j = mdTs M ∧ w.ownsRow base 29 2 (Rv j) M.length (mdVs M)
  s : ∀ j, j < k → ∃ T, K j = strTs T ∧ w.ownsRow base 9 1 (Kv j) T.length (strVs T)
theorem tag_apart {w : World} {b b' s s' m m' : Nat} {e e' : TypeId} {u o : Value} {xs ys : List Value} (h : w.ownsRow b e s u m xs) (h2 : w.ownsRow b' e' s' o m' ys) (hne : e ≠ e') : u.ownBlock = none ∨ u.ownBlock ≠ o.ownBlock := by
  refine apart_row fun g hg hu => ?_
  rcases h.2 with ⟨rfl, _⟩ | ⟨g1, c1, cur1, rfl, _, k1, _⟩
  · cases hu
  · rcases h2.2 with ⟨rfl, _⟩ | ⟨g2, c2, cur2, rfl, _, k2, _⟩
    · cases hg
    · have e1 : g1 = g := Option.some.inj hu
      have e2 : g2 = g := Option.some.inj hg
      subst e1 e2
      rw [k1] at k2
      injection k2 with k2
      injection k2 with _ k3 _
      exact hne k3
theorem entsAt_own {w : World} {base n : Nat} {e : TypeId} {v : Value} {P V : Nat → ByteArray} {R : Nat → List Md} {K : Nat → List Str} {B : Nat → Bool} {Rv Kv : Nat → Value} (h : w.ownsRow base e 5 v n (enVs P V Rv Kv B n)) (hr : RowsE w base n R K Rv Kv) : EntsAt w v (enF n P V R K B) := by
  have hR : ∀ j, j < n → ModsAt w (Rv j) (R j) := fun j hj => by
    obtain ⟨M, e1, h1⟩ := hr.r j hj
    rw [e1]; exact modsAt_own h1
  have hK : ∀ j, j < n → StrsAt w (Kv j) (K j) := fun j hj => by
    obtain ⟨T, e1, h1⟩ := hr.s j hj
    rw [e1]; exact strsAt_own h1
  rcases h.2 with ⟨rfl, h0⟩ | ⟨g, cap, cur, rfl, hb, hg, hn, hm, hs, ht⟩
  · subst h0
    exact EntsAt.nil w
  · refine ⟨some ⟨g, 0, none⟩, n, cap, P, V, R, K, B, Rv, Kv, rfl, rfl, hn, by unfold maxLen at hm; exact hm, fun j hj => ⟨g, 0, rfl, ?_⟩, hR, hK⟩
    have hcell : ∀ c u, c < 5 → (ec P V Rv Kv B j)[c]? = some u → w.cell? ⟨g, 0 + j * 5 + c, none⟩ = some u := fun c u hc hu => by
      rw [← enVs_get P V Rv Kv B n j c hj hc, ← ht, List.getElem?_take, if_pos (by omega)] at hu
      rw [Nat.zero_add, cell_of_row w g _ cur e (0, 0) hg]
      simpa using hu
    exact ⟨hcell 0 _ (by decide) rfl, hcell 1 _ (by decide) rfl, hcell 2 _ (by decide) rfl, hcell 3 _ (by decide) rfl, hcell 4 _ (by decide) rfl⟩
theorem EntsIn.forms2 {w : World} {a n cap P V R K B Rv Kv} (h : EntsIn w a n cap P V R K B Rv Kv) {j : Nat} (hj : j < n) : ∃ a1 n1 c1 a2 n2 c2, Rv j = .slice a1 n1 c1 ∧ Kv j = .slice a2 n2 c2 := by
  obtain ⟨a1, n1, c1, _, _, e1, _⟩ := h.reqs j hj
  obtain ⟨a2, n2, c2, _, e2, _⟩ := h.packs j hj
  exact ⟨_, _, _, _, _, _, e1, e2⟩
theorem Tryz.infoEnt : (Tryz.prog.info? 37).map (fun i => (i.zero, i.size, i.bytes)) = some (some (.agg #[.string ⟨#[]⟩, .string ⟨#[]⟩, .slice none 0 0, .slice none 0 0, .bool false]), 5, 88) := by kernel_rfl
theorem wpList_append_run {P : Program} {w : World} {ops : Array Oper} {rest : List Oper} {o : Oper} {a : Act} {Q : Exit → Act → World → Prop} (hgd : o.guard = none) (s x : Operand) (t : TypeId)
    (ho : o.op = .call { callee := .builtin .append, args := #[s, x], argTypes := #[t, t] }) (v y : Value) (hs : a.eval s = v) (hx : a.eval x = y) (v' : Value) (w' : World)
    (hr : (Builtin.append_ #[t, t] o.type #[v, y]).run P w = .ok v' w') (h : wpList P ops Q rest (a.put o.dst v') w') : wpList P ops Q (o :: rest) a w :=
  wpList_plain hgd fun _ hK => by
    unfold Oper.wp execOp
    simp only [ho, resolve, invoke, builtin, Sem.run_bind, Sem.run_pure, Result.andThen_ok, List.map_toArray, List.map_cons, List.map_nil, hs, hx, hr]
    exact hK _ _ h
theorem World.ownsRow.mono_base {w : World} {b b' e s m : Nat} {u : Value} {xs : List Value} (h : w.ownsRow b e s u m xs) (hb : b' ≤ b) : w.ownsRow b' e s u m xs := by
  refine ⟨h.1, ?_⟩
  rcases h.2 with h2 | ⟨g, c, cur, h1, h2, h3⟩
  · exact .inl h2
  · exact .inr ⟨g, c, cur, h1, Nat.le_trans hb h2, h3⟩
theorem grown_none {v : Value} : v.ownBlock = none ∨ v.ownBlock ≠ none := by
  cases v.ownBlock with
  | none => exact .inl rfl
  | some b => exact .inr (fun h => by cases h)
set_option maxHeartbeats 4000000 in
set_option maxRecDepth 100000 in
theorem ownIndex_calls (v : Value) (l : List En) (w : World) (h : EntsAt w v l) (hn : l.length ≤ 1000) (hl : ∀ e ∈ l, e.reqs.length ≤ 100000 ∧ e.packs.length ≤ 100000) :
    Calls Tryz.prog 13 #[v] w fun e w' => (∃ v', e = .returned v' ∧ EntsAt w' v' l) ∧ Below w.heap.size w w' := by
  obtain ⟨i0, hi, hz0, hz1, hz2⟩ := info_parts Tryz.infoEnt
  obtain ⟨a, n, cap, P, V, R, K, B, Rv, Kv, rfl, rfl, hin⟩ := h
  rw [enF_length] at hn
  have H := Lib.hid hin
  have HL : Hid (∀ j, j < n → (R j).length ≤ 100000 ∧ (K j).length ≤ 100000) := Lib.hid (fun j hj => hl _ (List.mem_of_getElem? (enF_get n P V R K B j hj)))
  clear hl hin
  go_enter Tryz.func13, Tryz.ntmps13
  go_wp2_with fail
  go_loopw [3, 4] (fun o i wr => ∃ (k : Nat) (Rv' Kv' : Nat → Value), k ≤ n ∧ i = .int .i64 k ∧ Hid (wr.ownsRow w.heap.size 37 5 o k (enVs P V Rv' Kv' B k)) ∧ Hid (RowsE wr w.heap.size k R K Rv' Kv') ∧ Below w.heap.size w wr) (fun _ i _ => n - (intOf i).toNat)
  case atStart => exact ⟨0, Rv, Kv, Nat.zero_le _, rfl, Lib.hid (World.ownsRow_nil _ _ _ _), Lib.hid ⟨fun j hj => absurd hj (Nat.not_lt_zero _), fun j hj => absurd hj (Nat.not_lt_zero _)⟩, Below.refl _ _⟩
  case round =>
    obtain ⟨k, Rv', Kv', hk, rfl, hO, hRows, hBr⟩ := hrel
    by_cases hlt : k < n
    · have hkn : (k : Int) < (n : Int) := by omega
      obtain ⟨b1, o1, ea, hcell⟩ := (H.out.below hBr).at_ k hlt
      obtain ⟨a1, n1, s1, aK, nK, cK, e1, e2⟩ := H.out.forms2 hlt
      have hM := (H.out.below hBr).reqs k hlt
      have hS := (H.out.below hBr).packs k hlt
      rw [e1, e2] at hcell
      rw [e1] at hM
      rw [e2] at hS
      subst ea
      obtain ⟨c0, c1, c2, c3, c4⟩ := hcell
      have hba := below_alloc wr (.cells #[.string (P k), .string (V k), .slice a1 n1 s1, .slice aK nK cK, .bool (B k)] 37)
      have x0 : (wr.alloc (.cells #[.string (P k), .string (V k), .slice a1 n1 s1, .slice aK nK cK, .bool (B k)] 37)).cell? ⟨wr.heap.size, 0, none⟩ = some (.string (P k)) := by simp
      have x1 : (wr.alloc (.cells #[.string (P k), .string (V k), .slice a1 n1 s1, .slice aK nK cK, .bool (B k)] 37)).cell? ⟨wr.heap.size, 1, none⟩ = some (.string (V k)) := by simp
      have x2 : (wr.alloc (.cells #[.string (P k), .string (V k), .slice a1 n1 s1, .slice aK nK cK, .bool (B k)] 37)).cell? ⟨wr.heap.size, 2, none⟩ = some (.slice a1 n1 s1) := by simp
      have x3 : (wr.alloc (.cells #[.string (P k), .string (V k), .slice a1 n1 s1, .slice aK nK cK, .bool (B k)] 37)).cell? ⟨wr.heap.size, 3, none⟩ = some (.slice aK nK cK) := by simp
      have x4 : (wr.alloc (.cells #[.string (P k), .string (V k), .slice a1 n1 s1, .slice aK nK cK, .bool (B k)] 37)).cell? ⟨wr.heap.size, 4, none⟩ = some (.bool (B k)) := by simp
      have xf : ∀ i, (wr.alloc (.cells #[.string (P k), .string (V k), .slice a1 n1 s1, .slice aK nK cK, .bool (B k)] 37)).frozen? ⟨wr.heap.size, i, none⟩ = false := fun i => by simp
      have hom := ownMods_calls (.slice a1 n1 s1) (R k) (wr.alloc (.cells #[.string (P k), .string (V k), .slice a1 n1 s1, .slice aK nK cK, .bool (B k)] 37)) (hM.below hba) (by have := (HL.out k hlt).1; omega)
      have hszN : (wr.alloc (.cells #[.string (P k), .string (V k), .slice a1 n1 s1, .slice aK nK cK, .bool (B k)] 37)).heap.size = wr.heap.size + 1 := by simp
      replace hom := Lib.hid hom
      clear hM e1 e2
      go_wp2_with fail
      generalize wr.alloc (.cells #[.string (P k), .string (V k), .slice a1 n1 s1, .slice aK nK cK, .bool (B k)] 37) = w1 at *
      refine hom.out.mono ?_
      rintro e w2 ⟨⟨v', rfl, _, M, hRM, hoM⟩, hb2⟩
      obtain ⟨aM, nM, cM, rfl⟩ := own_form hoM
      have hs1 := hba.size
      have hs2 := hb2.size
      have hNlt : wr.heap.size < w2.heap.size := by omega
      replace x0 := Below.cell_some hb2 x0
      replace x1 := Below.cell_some hb2 x1
      replace x2 := Below.cell_some hb2 x2
      replace x3 := Below.cell_some hb2 x3
      replace x4 := Below.cell_some hb2 x4
      replace xf := fun i => (hb2.frozen (p := ⟨wr.heap.size, i, none⟩) (show wr.heap.size < w1.heap.size by omega)).trans (xf i)
      have neM := own_ne (b := wr.heap.size) hoM (by omega)
      have hS3 : StrsAt (w2.setCell ⟨wr.heap.size, 2, none⟩ (.slice aM nM cM)) (.slice aK nK cK) (K k) := by
        obtain ⟨a', n', cap', L', q1, q2, q3, q4, q5⟩ := hS
        refine ⟨a', n', cap', L', q1, q2, q3, q4, fun j hj => ?_⟩
        obtain ⟨b, o, e, c⟩ := q5 j hj
        refine ⟨b, o, e, ?_⟩
        have : b < wr.heap.size := lt_of_cell c
        rw [set_blk _ (by omega)]
        exact Below.cell_some hb2 (Below.cell_some hba c)
      obtain ⟨kv, w4, hap, ⟨T, hKT, hoK⟩, hg4⟩ := app_strs (w2.setCell ⟨wr.heap.size, 2, none⟩ (.slice aM nM cM)) w2.heap.size (by simp) (.slice aK nK cK) (K k) hS3 (by have := (HL.out k hlt).2; omega)
      obtain ⟨aq, nq, cq, rfl⟩ := own_form hoK
      have neK := own_ne (b := wr.heap.size) hoK hNlt
      have hs4 := hg4.size
      have hs3 : (w2.setCell ⟨wr.heap.size, 2, none⟩ (.slice aM nM cM)).heap.size = w2.heap.size := by simp
      have hsome : ∀ k : Nat, some k ≠ (none : Option Nat) := fun k h => by cases h
      have u0 := hg4.cell ((set_off (.slice aM nM cM) (by decide)).trans x0) (hsome _)
      have u1 := hg4.cell ((set_off (.slice aM nM cM) (by decide)).trans x1) (hsome _)
      have u2 := hg4.cell (set_same (.slice aM nM cM) x2) (hsome _)
      have u3 := hg4.cell ((set_off (.slice aM nM cM) (by decide)).trans x3) (hsome _)
      have u4 := hg4.cell ((set_off (.slice aM nM cM) (by decide)).trans x4) (hsome _)
      have uf : ∀ i, w4.frozen? ⟨wr.heap.size, i, none⟩ = false := fun i => (hg4.frozen_far ⟨wr.heap.size, i, none⟩ (show wr.heap.size < _ by rw [hs3]; exact hNlt) (hsome _)).trans (by simp [xf i])
      have t0 := (set_off (w := w4) (b := wr.heap.size) (k := 3) (.slice aq nq cq) (by decide)).trans u0
      have t1 := (set_off (w := w4) (b := wr.heap.size) (k := 3) (.slice aq nq cq) (by decide)).trans u1
      have t2 := (set_off (w := w4) (b := wr.heap.size) (k := 3) (.slice aq nq cq) (by decide)).trans u2
      have t3 := set_same (.slice aq nq cq) u3
      have t4 := (set_off (w := w4) (b := wr.heap.size) (k := 3) (.slice aq nq cq) (by decide)).trans u4
      have chain : ∀ (b e s m : Nat) (u : Value) (xs : List Value), w2.ownsRow b e s u m xs → u.ownBlock ≠ some wr.heap.size → (w4.setCell ⟨wr.heap.size, 3, none⟩ (.slice aq nq cq)).ownsRow b e s u m xs := fun _ _ _ _ _ _ h hne => ownsRow_set ((ownsRow_set h hne _).kept hg4 grown_none) hne _
      have old : ∀ (b e s m : Nat) (u : Value) (xs : List Value), wr.ownsRow b e s u m xs → (w4.setCell ⟨wr.heap.size, 3, none⟩ (.slice aq nq cq)).ownsRow b e s u m xs := fun _ _ _ _ _ _ h => chain _ _ _ _ _ _ (ownsRow_kept (ownsRow_kept h hba) hb2) (fun e => by have := (h.lt _ e).2; omega)
      have hO5 := old _ _ _ _ _ _ hO.out
      have hoM5 := chain _ _ _ _ _ _ hoM neM
      have hoK5 := ownsRow_set (b := wr.heap.size) (j := 3) hoK neK (.slice aq nq cq)
      have hsz5 : (w4.setCell ⟨wr.heap.size, 3, none⟩ (.slice aq nq cq)).heap.size = w4.heap.size := by simp
      have hnew := World.news_of_block (cs := #[.string (P k), .string (V k), .slice aM nM cM, .slice aq nq cq, .bool (B k)]) (Go.Deep.blk_alloc_new (w4.setCell ⟨wr.heap.size, 3, none⟩ (.slice aq nq cq)) (.cells #[.string (P k), .string (V k), .slice aM nM cM, .slice aq nq cq, .bool (B k)] 37))
      rw [hsz5] at hnew
      have hB5 : Below w.heap.size w (w4.setCell ⟨wr.heap.size, 3, none⟩ (.slice aq nq cq)) := by
        have hsw := hBr.size
        have h1 : Below w.heap.size w w2 := hBr.trans ((below_step hba hb2).mono hsw)
        have h2 : Below w.heap.size w (w2.setCell ⟨wr.heap.size, 2, none⟩ (.slice aM nM cM)) := h1.setCell (p := ⟨wr.heap.size, 2, none⟩) hsw _
        exact (h2.grown hg4 (by rw [hs3]; omega) (fun k hk => by cases hk)).setCell (p := ⟨wr.heap.size, 3, none⟩) hsw _
      have hbase5 : w.heap.size ≤ w4.heap.size := by have := hB5.size; rw [hsz5] at this; exact this
      have z3 := (set_off (w := w2) (b := wr.heap.size) (k := 2) (.slice aM nM cM) (by decide)).trans x3
      have HR := Lib.hid (And.intro hRM hKT)
      have HO := Lib.hid (And.intro hO5 (And.intro hoM5 (And.intro hoK5 hnew)))
      have HOLD := Lib.hid old
      have HAP := Lib.hid hap
      clear hap hS3 hS hO hoM hoK hg4 hRM hKT hnew hO5 hoM5 hoK5 chain old x0 x1 x3 x4 hom hsome neM neK hba hb2 c0 c1 c2 c3 c4 u0 u1 u2 u4
      go_wp2_with (at_builtin; first | (refine wpList_append_run rfl _ _ 35 rfl _ _ rfl rfl _ _ HAP.out ?_) | (refine wpList_append_own _ rfl _ _ 22 rfl w.heap.size 37 i0 (.agg #[.string ⟨#[]⟩, .string ⟨#[]⟩, .slice none 0 0, .slice none 0 0, .bool false]) 5 88 Tryz.underlying22 hi hz0 hz1 hz2 rfl (by decide) _ _ _ rfl (HO.out.1.alloc _) ⟨w4.heap.size, 0, none⟩ 1 1 [.string (P k), .string (V k), .slice aM nM cM, .slice aq nq cq, .bool (B k)] rfl rfl HO.out.2.2.2 (by intro u hu; simp at hu; rcases hu with rfl | rfl | rfl | rfl | rfl <;> rfl) (by unfold maxLen; omega) (by omega) (by simp; omega) ?_; intro o' w6 hown6 hgrow6 _))
      go_roundw
      case rel =>
        have hkeep : ∀ (b e s m : Nat) (u : Value) (xs : List Value), (w4.setCell ⟨wr.heap.size, 3, none⟩ (.slice aq nq cq)).ownsRow b e s u m xs → e ≠ 37 → w6.ownsRow b e s u m xs := fun _ _ _ _ _ _ h hne =>
          (h.alloc _).kept hgrow6 (tag_apart (h.alloc (.cells #[.string (P k), .string (V k), .slice aM nM cM, .slice aq nq cq, .bool (B k)] 37)) (HO.out.1.alloc _) hne)
        refine ⟨k + 1, fun j => if j = k then .slice aM nM cM else Rv' j, fun j => if j = k then .slice aq nq cq else Kv' j, by omega, by go_num, Lib.hid ?_, Lib.hid ⟨fun j hj => ?_, fun j hj => ?_⟩, ?_⟩
        · have h1 : enVs P V (fun j => if j = k then .slice aM nM cM else Rv' j) (fun j => if j = k then .slice aq nq cq else Kv' j) B (k + 1) = enVs P V Rv' Kv' B k ++ [.string (P k), .string (V k), .slice aM nM cM, .slice aq nq cq, .bool (B k)] := by
            rw [enVs_succ, enVs_cong (Rv' := Rv') (Kv' := Kv') (fun j hj => ⟨if_neg (by omega), if_neg (by omega)⟩)]
            simp [ec]
          rw [h1]
          exact hown6
        · by_cases e : j = k
          · subst e
            refine ⟨M, HR.out.1, ?_⟩
            rw [if_pos rfl]
            exact (World.ownsRow.mono_base (hkeep _ _ _ _ _ _ HO.out.2.1 (by decide)) (by have := hBr.size; omega))
          · obtain ⟨M', q1, q2⟩ := hRows.out.r j (by omega)
            refine ⟨M', q1, ?_⟩
            rw [if_neg e]
            exact hkeep _ _ _ _ _ _ (HOLD.out _ _ _ _ _ _ q2) (by decide)
        · by_cases e : j = k
          · subst e
            refine ⟨T, HR.out.2, ?_⟩
            rw [if_pos rfl]
            exact (World.ownsRow.mono_base (hkeep _ _ _ _ _ _ HO.out.2.2.1 (by decide)) (by have := hBr.size; omega))
          · obtain ⟨M', q1, q2⟩ := hRows.out.s j (by omega)
            refine ⟨M', q1, ?_⟩
            rw [if_neg e]
            exact hkeep _ _ _ _ _ _ (HOLD.out _ _ _ _ _ _ q2) (by decide)
        · exact (hB5.alloc (by rw [hsz5]; exact hbase5) _).grown hgrow6 (by simp; omega) (fun q hq => (HO.out.1.lt q hq).1)
      case measure => simp [intOf]; omega
    · obtain rfl : n = k := by omega
      have hfin : EntsAt wr _ (enF n P V R K B) := entsAt_own hO.out hRows.out
      replace hfin := Lib.hid hfin
      go_wp2_with fail
      go_ret
      exact ⟨⟨_, rfl, hfin.out⟩, hBr⟩
end Go.Proofs.Pw
