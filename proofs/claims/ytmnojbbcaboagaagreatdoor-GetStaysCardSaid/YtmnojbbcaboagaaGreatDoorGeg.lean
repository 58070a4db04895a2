/- Ge: walks and plain laws, joined: VerCmp OrdMath ModAhead Patch. Conditions: at each theorem. -/
import Derived.Test.YtmnojbbcaboagaaGreatDoorGee
import Derived.Test.YtmnojbbcaboagaaGreatDoorGea
import Derived.Test.YtmnojbbcaboagaaGreatDoorGeb
import Derived.WalkKit
import Derived.Test.YtmnojbbcaboagaaGreatDoorGef
import Derived.Deep.QuietTactic
import Derived.BigQuiet
import Derived.Shelf.SlSortCmp.QuietGrown

namespace Go.Proofs.Pw
open Go.RowKit
open Go.Lib hiding intOf
def orN (n : Nat) (V : Nat → Int) : Int := (List.range n).foldl (fun r j => orI r (V j)) 0
theorem orN_succ (n V) : orN (n + 1) V = orI (orN n V) (V n) := by simp [orN, List.range_succ]
theorem orI_left {a : Int} (h : a ≠ 0) (b : Int) : orI a b = a := if_neg h
theorem orI_zero (b : Int) : orI 0 b = b := if_pos rfl
theorem orN_hit (V : Nat → Int) (k : Nat) (h0 : ∀ j, j < k → V j = 0) (hk : V k ≠ 0) : ∀ n, k < n → orN n V = V k := by
  have hz : ∀ m, m ≤ k → orN m V = 0 := by
    intro m
    induction m with
    | zero => intro _; rfl
    | succ m ih => intro hm; rw [orN_succ, ih (by omega), orI_zero, h0 m (by omega)]
  intro n
  induction n with
  | zero => intro h; omega
  | succ n ih =>
    intro h
    rw [orN_succ]
    by_cases e : n = k
    · subst e; rw [hz n (Nat.le_refl _), orI_zero]
    · rw [ih (by omega), orI_left hk]
theorem orN_none (V : Nat → Int) : ∀ n, (∀ j, j < n → V j = 0) → orN n V = 0 := by
  intro n
  induction n with
  | zero => intro _; rfl
  | succ n ih => intro h; rw [orN_succ, ih (fun j hj => h j (by omega)), orI_zero, h n (by omega)]
theorem cmpOr_calls (b n : Nat) (V : Nat → Int) (w : World) (hn : n ≤ 100) (hc : ∀ j, j < n → w.cell? ⟨b, j, none⟩ = some (.int .i64 (V j))) :
    Calls Tryz.prog 196 #[.slice (some ⟨b, 0, none⟩) n n] w fun e w' => e = .returned (.int .i64 (orN n V)) ∧ Below w.heap.size w w' := by
  have HC := Lib.hid hc
  clear hc
  go_enter Tryz.func196, Tryz.ntmps196
  go_wp2_with fail
  go_loopw [8] (fun i wr => ∃ k : Nat, k ≤ n ∧ i = .int .i64 k ∧ Below w.heap.size w wr ∧ Hid (∀ j, j < k → V j = 0)) (fun i _ => n - (intOf i).toNat)
  case atStart => exact ⟨0, by omega, rfl, Below.refl _ _, Lib.hid (fun j hj => absurd hj (Nat.not_lt_zero _))⟩
  case round =>
    obtain ⟨k, hk, rfl, hbl, HA⟩ := hrel
    by_cases hlt : k < n
    · have hck := Below.cell_some hbl (HC.out k hlt)
      by_cases hv : V k = 0
      · have HV := Lib.hid hv
        rw [hv] at hck
        clear hv
        go_wp2_with fail
        go_roundw
        case rel =>
          refine ⟨k + 1, by omega, by go_num, hbl, Lib.hid (fun j hj => ?_)⟩
          by_cases e : j = k
          · subst e; exact HV.out
          · exact HA.out j (by omega)
        case measure => simp [intOf]; omega
      · have HV := Lib.hid hv
        have hv2 : (V k == 0) = false := beq_eq_false_iff_ne.2 hv
        have hres := Lib.hid (orN_hit V k HA.out hv n hlt)
        generalize V k = v at hck hv2 hres
        clear hv HV
        go_wp2_with fail
        go_ret
        rw [hres.out]
        exact ⟨rfl, hbl⟩
    · obtain rfl : k = n := by omega
      go_wp2_with fail
      go_ret
      rw [orN_none V k HA.out]
      exact ⟨rfl, hbl⟩
set_option maxHeartbeats 400000 in
theorem cmpPart_calls (a b : ByteArray) (w : World) (ha : a.size ≤ 1000000000) (hb : b.size ≤ 1000000000) :
    Calls Tryz.prog 198 #[.string a, .string b] w fun e w' => e = .returned (.int .i64 (cmpPart a.data.toList b.data.toList)) ∧ Below w.heap.size w w' := by
  have hm : cmpPart a.data.toList b.data.toList = if areDigits a.data.toList && areDigits b.data.toList then orI ((a.size : Int) - b.size) (compareBytes a.data.toList b.data.toList) else if areDigits a.data.toList then -1 else if areDigits b.data.toList then 1 else compareBytes a.data.toList b.data.toList := by
    rw [size_eq, size_eq]; rfl
  generalize cmpPart a.data.toList b.data.toList = R at hm ⊢
  generalize hx : areDigits a.data.toList = x at hm
  generalize hy : areDigits b.data.toList = y at hm
  have HX := Lib.hid hx
  have HY := Lib.hid hy
  have hS := Tryz.strings_Compare a b
  generalize compareBytes a.data.toList b.data.toList = c at hm hS
  have HS := Lib.hid hS
  have HM := Lib.hid hm
  clear hx hy hm hS
  go_enter Tryz.func198, Tryz.ntmps198
  go_wp2_with fail
  refine (digits_calls a w (Nat.le_trans ha (by decide))).mono ?_
  rintro e w1 ⟨rfl, hb1⟩
  go_wp2_with fail
  refine (digits_calls b w1 (Nat.le_trans hb (by decide))).mono ?_
  rintro e w2 ⟨rfl, hb2⟩
  rw [HX.out, HY.out]
  have hb02 := below_step hb1 hb2
  cases x <;> cases y
  case false.false =>
    go_wp2_with fail
    refine (HS.out w2).mono ?_
    rintro e w3 ⟨rfl, rfl⟩
    go_wp2_with fail
    go_ret
    rw [HM.out]
    exact ⟨rfl, hb02⟩
  case false.true =>
    go_wp2_with fail
    go_ret
    rw [HM.out]
    exact ⟨rfl, hb02⟩
  case true.false =>
    go_wp2_with fail
    go_ret
    rw [HM.out]
    exact ⟨rfl, hb02⟩
  case true.true =>
    go_wp2_with fail
    refine (HS.out w2).mono ?_
    rintro e w3 ⟨rfl, rfl⟩
    go_wp2_with fail
    refine (cmpOr_calls _ 2 (fun j => if j = 0 then (a.size : Int) - b.size else c) _ (by decide) ?_).mono ?_
    · intro j hj
      obtain rfl | rfl : j = 0 ∨ j = 1 := by omega
      all_goals simp
    rintro e w4 ⟨rfl, hb4⟩
    have ho : orN 2 (fun j => if j = 0 then (a.size : Int) - b.size else c) = orI ((a.size : Int) - b.size) c := by
      rw [orN_succ, orN_succ]
      show orI (orI 0 _) _ = _
      rw [orI_zero]
      rfl
    rw [ho]
    have hb05 := below_step hb02 (below_step (below_alloc _ _) hb4)
    clear ho hb4
    go_wp2_with fail
    go_ret
    rw [HM.out]
    exact ⟨rfl, hb05⟩
theorem cmpList_drop (n m : Nat) (L M : Nat → ByteArray) (k : Nat) (h1 : k < n) (h2 : k < m) : cmpList ((lstF n L).drop k) ((lstF m M).drop k) = orI (cmpPart (L k).data.toList (M k).data.toList) (cmpList ((lstF n L).drop (k + 1)) ((lstF m M).drop (k + 1))) := by
  have e : ∀ (n : Nat) (L : Nat → ByteArray), k < n → (lstF n L).drop k = (L k).data.toList :: (lstF n L).drop (k + 1) := fun n L h => by
    rw [List.drop_eq_getElem_cons (by rw [lstF_length]; exact h)]
    congr 1
    exact Option.some.inj ((List.getElem?_eq_getElem _).symm.trans (lstF_get n L k h))
  rw [e n L h1, e m M h2, cmpList]
set_option maxHeartbeats 400000 in
theorem cmpFunc_calls (a1 a2 : Option Addr) (n c1 m c2 : Nat) (L M : Nat → ByteArray) (w : World) (hn : n ≤ 1000000001) (hm : m ≤ 1000000001)
    (h1 : ∀ j, j < n → ∃ b o, a1 = some ⟨b, o, none⟩ ∧ w.cell? ⟨b, o + j, none⟩ = some (.string (L j))) (h2 : ∀ j, j < m → ∃ b o, a2 = some ⟨b, o, none⟩ ∧ w.cell? ⟨b, o + j, none⟩ = some (.string (M j)))
    (hL : ∀ j, j < n → (L j).size ≤ 1000000000) (hM : ∀ j, j < m → (M j).size ≤ 1000000000) :
    Calls Tryz.prog 197 #[.slice a1 n c1, .slice a2 m c2, .func (.func 198) #[] #[]] w fun e w' => e = .returned (.int .i64 (cmpList (lstF n L) (lstF m M))) ∧ Below w.heap.size w w' := by
  have H1 := Lib.hid h1
  have H2 := Lib.hid h2
  have HL := Lib.hid hL
  have HM := Lib.hid hM
  clear h1 h2 hL hM
  go_enter Tryz.func197, Tryz.ntmps197
  go_wp2_with fail
  go_loopw [13] (fun i wr => ∃ k : Nat, k ≤ n ∧ k ≤ m ∧ i = .int .i64 k ∧ Below w.heap.size w wr ∧ Hid (cmpList (lstF n L) (lstF m M) = cmpList ((lstF n L).drop k) ((lstF m M).drop k))) (fun i _ => n - (intOf i).toNat)
  case atStart => exact ⟨0, by omega, by omega, rfl, Below.refl _ _, Lib.hid rfl⟩
  case round =>
    obtain ⟨k, hk, hkm, rfl, hbl, HA⟩ := hrel
    by_cases hlt : k < n
    · obtain ⟨b1, o1, rfl, d1⟩ := H1.out k hlt
      replace d1 := Below.cell_some hbl d1
      by_cases hlm : k < m
      · obtain ⟨b2, o2, rfl, d2⟩ := H2.out k hlm
        replace d2 := Below.cell_some hbl d2
        have hcall := cmpPart_calls (L k) (M k) wr (HL.out k hlt) (HM.out k hlm)
        have hst := cmpList_drop n m L M k hlt hlm
        generalize cmpPart (L k).data.toList (M k).data.toList = c at hcall hst
        by_cases hc : c = 0
        · rw [hc, orI_zero] at hst
          subst hc
          have HS := Lib.hid (HA.out.trans hst)
          clear hst
          go_wp2_with fail
          refine hcall.mono ?_
          rintro e w' ⟨rfl, hb2⟩
          go_wp2_with fail
          go_roundw
          case rel => exact ⟨k + 1, by omega, by omega, by go_num, below_step hbl hb2, HS⟩
          case measure => simp [intOf]; omega
        · rw [orI_left hc] at hst
          have HS := Lib.hid (HA.out.trans hst)
          have hc2 : (c == 0) = false := beq_eq_false_iff_ne.2 hc
          clear hst hc
          go_wp2_with fail
          refine hcall.mono ?_
          rintro e w' ⟨rfl, hb2⟩
          go_wp2_with fail
          go_ret
          rw [HS.out]
          exact ⟨rfl, below_step hbl hb2⟩
      · obtain rfl : k = m := by omega
        have HS : Hid (cmpList (lstF n L) (lstF k M) = 1) := by
          refine Lib.hid (HA.out.trans ?_)
          rw [List.drop_of_length_le (l := lstF k M) (by rw [lstF_length]; exact Nat.le_refl _), List.drop_eq_getElem_cons (by rw [lstF_length]; exact hlt)]
          rfl
        go_wp2_with fail
        go_ret
        rw [HS.out]
        exact ⟨rfl, hbl⟩
    · obtain rfl : k = n := by omega
      by_cases hlm : k < m
      · have HS : Hid (cmpList (lstF k L) (lstF m M) = -1) := by
          refine Lib.hid (HA.out.trans ?_)
          rw [List.drop_of_length_le (l := lstF k L) (by rw [lstF_length]; exact Nat.le_refl _), List.drop_eq_getElem_cons (by rw [lstF_length]; exact hlm)]
          rfl
        go_wp2_with fail
        go_ret
        rw [HS.out]
        exact ⟨rfl, hbl⟩
      · obtain rfl : k = m := by omega
        have HS : Hid (cmpList (lstF k L) (lstF k M) = 0) := by
          refine Lib.hid (HA.out.trans ?_)
          rw [List.drop_of_length_le (l := lstF k L) (by rw [lstF_length]; exact Nat.le_refl _), List.drop_of_length_le (l := lstF k M) (by rw [lstF_length]; exact Nat.le_refl _)]
          rfl
        go_wp2_with fail
        go_ret
        rw [HS.out]
        exact ⟨rfl, hbl⟩
theorem verNum_le (s : Str) (i : Nat) : verNum s i ≤ 999999 := by
  unfold verNum
  split
  · exact (numberOf_le _).1
  · exact Nat.zero_le _
theorem verPre_small (s : Str) : (verPre s).length ≤ 5 ∧ ∀ w ∈ verPre s, w.length ≤ 8 ∧ partErr w = 0 := by
  unfold verPre
  by_cases h : verErr s = 0
  · rw [if_pos h]
    obtain ⟨_, _, _, h4, h5⟩ := (verErr_zero s).1 h
    exact ⟨h5, fun w hw => ⟨(partErr_zero (h4 w hw)).2.1, h4 w hw⟩⟩
  · rw [if_neg h]
    exact ⟨by decide, fun w hw => by cases hw⟩
set_option maxHeartbeats 1000000 in
theorem verCompare_calls (ks : List Nat) (A : Nat → Addr) (a b : ByteArray) (w : World) (hE : EnvP ks A w) (ha : a.size ≤ 1000000000) (hb : b.size ≤ 1000000000) :
    Calls Tryz.prog 130 #[.string a, .string b] w fun e w' => e = .returned (.int .i64 (verCmp a.data.toList b.data.toList)) ∧ Below w.heap.size w w' := by
  have la0 := verNum_le a.data.toList 0
  have la1 := verNum_le a.data.toList 1
  have la2 := verNum_le a.data.toList 2
  have lb0 := verNum_le b.data.toList 0
  have lb1 := verNum_le b.data.toList 1
  have lb2 := verNum_le b.data.toList 2
  have hm : verCmp a.data.toList b.data.toList = (let n := orI ((verNum a.data.toList 0 : Int) - verNum b.data.toList 0) (orI ((verNum a.data.toList 1 : Int) - verNum b.data.toList 1) ((verNum a.data.toList 2 : Int) - verNum b.data.toList 2)); if n = 0 ∧ decide ((verPre a.data.toList).length = 0) ≠ decide ((verPre b.data.toList).length = 0) then ((verPre b.data.toList).length : Int) - (verPre a.data.toList).length else orI n (cmpList (verPre a.data.toList) (verPre b.data.toList))) := rfl
  generalize verCmp a.data.toList b.data.toList = R at hm ⊢
  have HM := Lib.hid hm
  clear hm
  go_enter Tryz.func130, Tryz.ntmps130
  go_wp2_with fail
  refine (verSplit_calls ks A a w hE ha).mono ?_
  rintro e w1 ⟨hb1, va, rfl, a1, n1, cap1, L1, rfl, HL1, hn1, hn1', hc1⟩
  go_wp2_with fail
  have hbA := below_alloc w1 (.cells #[.int .i64 (verNum a.data.toList 0 : Nat), .int .i64 (verNum a.data.toList 1 : Nat), .int .i64 (verNum a.data.toList 2 : Nat), .slice a1 n1 cap1] 83)
  have hzA := box4_alloc w1 (.int .i64 (verNum a.data.toList 0 : Nat)) (.int .i64 (verNum a.data.toList 1 : Nat)) (.int .i64 (verNum a.data.toList 2 : Nat)) (.slice a1 n1 cap1) 83
  have hb1A := below_step hb1 hbA
  refine (verSplit_calls ks A b _ (hE.below hb1A) hb).mono ?_
  rintro e w2 ⟨hb2, vb, rfl, a2, n2, cap2, L2, rfl, HL2, hn2, hn2', hc2⟩
  have hbB := below_alloc w2 (.cells #[.int .i64 (verNum b.data.toList 0 : Nat), .int .i64 (verNum b.data.toList 1 : Nat), .int .i64 (verNum b.data.toList 2 : Nat), .slice a2 n2 cap2] 83)
  have hzB := box4_alloc w2 (.int .i64 (verNum b.data.toList 0 : Nat)) (.int .i64 (verNum b.data.toList 1 : Nat)) (.int .i64 (verNum b.data.toList 2 : Nat)) (.slice a2 n2 cap2) 83
  have hzA2 := (hzA.below hb2).below hbB
  have hb2B := below_step (below_step hb1A hb2) hbB
  obtain ⟨p0, p1, p2, p3, _⟩ := hzA2
  obtain ⟨q0, q1, q2, q3, _⟩ := hzB
  have hs1 := verPre_small a.data.toList
  have hs2 := verPre_small b.data.toList
  rw [HL1, lstF_length] at hs1
  rw [HL2, lstF_length] at hs2
  have hL1 : ∀ j, j < n1 → (L1 j).size ≤ 1000000000 := fun j hj => by
    have := (hs1.2 _ (List.mem_of_getElem? (lstF_get n1 L1 j hj))).1
    rw [size_eq]; omega
  have hL2 : ∀ j, j < n2 → (L2 j).size ≤ 1000000000 := fun j hj => by
    have := (hs2.2 _ (List.mem_of_getElem? (lstF_get n2 L2 j hj))).1
    rw [size_eq]; omega
  have hm1 := hs1.1
  have hm2 := hs2.1
  have hcf := fun (W : World) (h : Below w1.heap.size w1 W) (h' : Below w2.heap.size w2 W) => cmpFunc_calls a1 a2 n1 cap1 n2 cap2 L1 L2 W (by omega) (by omega)
    (fun j hj => let ⟨b, o, e, h2⟩ := hc1 j hj; ⟨b, o, e, Below.cell_some h h2⟩) (fun j hj => let ⟨b, o, e, h2⟩ := hc2 j hj; ⟨b, o, e, Below.cell_some h' h2⟩) hL1 hL2
  have HCF := Lib.hid hcf
  have HM2 : Hid (R = if orI ((verNum a.data.toList 0 : Int) - verNum b.data.toList 0) (orI ((verNum a.data.toList 1 : Int) - verNum b.data.toList 1) ((verNum a.data.toList 2 : Int) - verNum b.data.toList 2)) = 0 ∧ decide (n1 = 0) ≠ decide (n2 = 0) then (n2 : Int) - n1 else orI (orI ((verNum a.data.toList 0 : Int) - verNum b.data.toList 0) (orI ((verNum a.data.toList 1 : Int) - verNum b.data.toList 1) ((verNum a.data.toList 2 : Int) - verNum b.data.toList 2))) (cmpList (lstF n1 L1) (lstF n2 L2))) := Lib.hid (by
    rw [HM.out]
    show (if _ ∧ _ then _ else _) = _
    rw [HL1, HL2, lstF_length, lstF_length])
  clear hs1 hs2 hcf HM HL1 HL2 hL1 hL2 hc1 hc2 hzA hb1A
  generalize cmpList (lstF n1 L1) (lstF n2 L2) = cl at HCF HM2
  have hb12 : Below w1.heap.size w1 w2 := below_step hbA hb2
  have hpz : w1.heap.size < w2.heap.size := lt_of_cell (show w2.cell? ⟨w1.heap.size, 0, none⟩ = some _ from (box4_alloc w1 (.int .i64 (verNum a.data.toList 0 : Nat)) (.int .i64 (verNum a.data.toList 1 : Nat)) (.int .i64 (verNum a.data.toList 2 : Nat)) (.slice a1 n1 cap1) 83 |>.below hb2).c0)
  generalize verNum a.data.toList 0 = x0 at *
  generalize verNum a.data.toList 1 = x1 at *
  generalize verNum a.data.toList 2 = x2 at *
  generalize verNum b.data.toList 0 = y0 at *
  generalize verNum b.data.toList 1 = y1 at *
  generalize verNum b.data.toList 2 = y2 at *
  have hmn : ∀ n, n = orI ((x0 : Int) - y0) (orI ((x1 : Int) - y1) ((x2 : Int) - y2)) → -1000000 ≤ n ∧ n ≤ 1000000 := fun n e => by
    rw [e]; unfold orI; split <;> (try split) <;> omega
  go_wp2_with fail
  refine (cmpOr_calls (w2.heap.size + 1) 3 (fun j => if j = 0 then (x0 : Int) - y0 else if j = 1 then (x1 : Int) - y1 else (x2 : Int) - y2) _ (by decide) ?_).mono ?_
  · intro j hj
    obtain rfl | rfl | rfl : j = 0 ∨ j = 1 ∨ j = 2 := by omega
    all_goals simp
  rintro e w4 ⟨rfl, hb4⟩
  have ho : orN 3 (fun j => if j = 0 then (x0 : Int) - y0 else if j = 1 then (x1 : Int) - y1 else (x2 : Int) - y2) = orI ((x0 : Int) - y0) (orI ((x1 : Int) - y1) ((x2 : Int) - y2)) := by
    rw [orN_succ, orN_succ, orN_succ]
    show orI (orI (orI 0 _) _) _ = _
    rw [orI_zero]
    simp only [↓reduceIte]
    unfold orI
    by_cases h1 : (x0 : Int) - y0 = 0
    · simp [h1]
    · simp [h1]
  rw [ho]
  have hN := hmn _ rfl
  clear ho hmn
  generalize orI ((x0 : Int) - y0) (orI ((x1 : Int) - y1) ((x2 : Int) - y2)) = N at hN HM2 ⊢
  have hbC := below_step (below_alloc _ _) hb4
  have p3' := Below.cell_some hbC p3
  have q3' := Below.cell_some hbC q3
  have hbW := below_step hb2B hbC
  have hb14 : Below w1.heap.size w1 w4 := below_step (below_step hb12 hbB) hbC
  have hb24 : Below w2.heap.size w2 w4 := below_step hbB hbC
  clear p0 p1 p2 p3 q0 q1 q2 q3 la0 la1 la2 lb0 lb1 lb2 hb4 hbC hb2B hb12 hbB hb1 hb2 hbA hpz
  have go_on : Hid (R = orI N cl) → Hid (∀ W, Below w1.heap.size w1 W → Below w2.heap.size w2 W → Calls Tryz.prog 197 #[.slice a1 n1 cap1, .slice a2 n2 cap2, .func (.func 198) #[] #[]] W fun e w' => e = .returned (.int .i64 cl) ∧ Below W.heap.size W w') := fun _ => HCF
  by_cases h0 : N = 0
  · subst h0
    by_cases h1 : n1 = 0
    · subst h1
      by_cases h2 : n2 = 0
      · subst h2
        have HR : Hid (R = orI 0 cl) := Lib.hid (by rw [HM2.out, if_neg (by simp)])
        clear go_on
        go_wp2_with fail
        refine (HCF.out _ hb14 hb24).mono ?_
        rintro e w5 ⟨rfl, hb5⟩
        go_wp2_with fail
        refine (cmpOr_calls _ 2 (fun j => if j = 0 then 0 else cl) _ (by decide) ?_).mono ?_
        · intro j hj
          obtain rfl | rfl : j = 0 ∨ j = 1 := by omega
          all_goals simp
        rintro e w6 ⟨rfl, hb6⟩
        have ho : orN 2 (fun j => if j = 0 then 0 else cl) = orI 0 cl := by
          rw [orN_succ, orN_succ]
          show orI (orI 0 _) _ = _
          rw [orI_zero]
          rfl
        rw [ho]
        have hbE := below_step hbW (below_step hb5 (below_step (below_alloc _ _) hb6))
        clear ho hb6 hb5
        go_wp2_with fail
        go_ret
        rw [HR.out]
        exact ⟨rfl, hbE⟩
      · have HR : Hid (R = (n2 : Int) - (0 : Nat)) := Lib.hid (by rw [HM2.out, if_pos ⟨rfl, by simp [h2]⟩])
        have h2' : ((n2 : Int) == 0) = false := beq_eq_false_iff_ne.2 (by omega)
        clear h2
        go_wp2_with fail
        go_ret
        rw [HR.out]
        exact ⟨by simp, hbW⟩
    · by_cases h2 : n2 = 0
      · subst h2
        have HR : Hid (R = ((0 : Nat) : Int) - n1) := Lib.hid (by rw [HM2.out, if_pos ⟨rfl, by simp [h1]⟩])
        have h1' : ((n1 : Int) == 0) = false := beq_eq_false_iff_ne.2 (by omega)
        clear h1
        go_wp2_with fail
        go_ret
        rw [HR.out]
        exact ⟨by simp, hbW⟩
      · have HR : Hid (R = orI 0 cl) := Lib.hid (by rw [HM2.out, if_neg (by simp [h1, h2])])
        have h1' : ((n1 : Int) == 0) = false := beq_eq_false_iff_ne.2 (by omega)
        have h2' : ((n2 : Int) == 0) = false := beq_eq_false_iff_ne.2 (by omega)
        clear go_on h1 h2
        go_wp2_with fail
        refine (HCF.out _ hb14 hb24).mono ?_
        rintro e w5 ⟨rfl, hb5⟩
        go_wp2_with fail
        refine (cmpOr_calls _ 2 (fun j => if j = 0 then 0 else cl) _ (by decide) ?_).mono ?_
        · intro j hj
          obtain rfl | rfl : j = 0 ∨ j = 1 := by omega
          all_goals simp
        rintro e w6 ⟨rfl, hb6⟩
        have ho : orN 2 (fun j => if j = 0 then 0 else cl) = orI 0 cl := by
          rw [orN_succ, orN_succ]
          show orI (orI 0 _) _ = _
          rw [orI_zero]
          rfl
        rw [ho]
        have hbE := below_step hbW (below_step hb5 (below_step (below_alloc _ _) hb6))
        clear ho hb6 hb5
        go_wp2_with fail
        go_ret
        rw [HR.out]
        exact ⟨rfl, hbE⟩
  · have HR : Hid (R = orI N cl) := Lib.hid (by rw [HM2.out, if_neg (fun h => h0 h.1)])
    have h0' : (N == 0) = false := beq_eq_false_iff_ne.2 h0
    clear h0 go_on
    go_wp2_with fail
    refine (HCF.out _ hb14 hb24).mono ?_
    rintro e w5 ⟨rfl, hb5⟩
    go_wp2_with fail
    refine (cmpOr_calls _ 2 (fun j => if j = 0 then N else cl) _ (by decide) ?_).mono ?_
    · intro j hj
      obtain rfl | rfl : j = 0 ∨ j = 1 := by omega
      all_goals simp
    rintro e w6 ⟨rfl, hb6⟩
    have ho : orN 2 (fun j => if j = 0 then N else cl) = orI N cl := by
      rw [orN_succ, orN_succ]
      show orI (orI 0 _) _ = _
      rw [orI_zero]
      rfl
    rw [ho]
    have hbE := below_step hbW (below_step hb5 (below_step (below_alloc _ _) hb6))
    clear ho hb6 hb5
    go_wp2_with fail
    go_ret
    rw [HR.out]
    exact ⟨rfl, hbE⟩
theorem verLess_calls (ks : List Nat) (A : Nat → Addr) (a b : ByteArray) (w : World) (hE : EnvP ks A w) (ha : a.size ≤ 1000000000) (hb : b.size ≤ 1000000000) :
    Calls Tryz.prog 99 #[.string a, .string b] w fun e w' => e = .returned (.bool (verLess a.data.toList b.data.toList)) ∧ Below w.heap.size w w' := by
  have hm : verLess a.data.toList b.data.toList = decide (verErr a.data.toList = 0 ∧ verErr b.data.toList = 0 ∧ verCmp a.data.toList b.data.toList < 0) := rfl
  generalize verLess a.data.toList b.data.toList = R at hm ⊢
  have HM := Lib.hid hm
  clear hm
  by_cases h1 : verErr a.data.toList = 0
  · by_cases h2 : verErr b.data.toList = 0
    · have HR : Hid (R = decide (verCmp a.data.toList b.data.toList < 0)) := Lib.hid (by rw [HM.out]; simp [h1, h2])
      have H1 := Lib.hid h1
      have H2 := Lib.hid h2
      have hcall := fun W hW => verCompare_calls ks A a b W hW ha hb
      generalize verCmp a.data.toList b.data.toList = c at hcall HR
      have HC := Lib.hid hcall
      clear h1 h2 hcall
      go_enter Tryz.func99, Tryz.ntmps99
      go_wp2_with fail
      refine (verCheck_calls ks A a w hE ha).mono ?_
      rintro e w1 ⟨rfl, hb1⟩
      rw [H1.out, errV_zero]
      have hE1 := hE.below hb1
      go_wp2_with fail
      refine (verCheck_calls ks A b w1 hE1 hb).mono ?_
      rintro e w2 ⟨rfl, hb2⟩
      rw [H2.out, errV_zero]
      have hE2 := hE1.below hb2
      go_wp2_with fail
      refine (HC.out w2 hE2).mono ?_
      rintro e w3 ⟨rfl, hb3⟩
      have hb13 := below_step (below_step hb1 hb2) hb3
      go_wp2_with fail
      go_ret
      rw [HR.out]
      exact ⟨rfl, hb13⟩
    · have HR : Hid (R = false) := Lib.hid (by rw [HM.out]; simp [h2])
      have H1 := Lib.hid h1
      have H2 := Lib.hid h2
      clear h1 h2
      go_enter Tryz.func99, Tryz.ntmps99
      go_wp2_with fail
      refine (verCheck_calls ks A a w hE ha).mono ?_
      rintro e w1 ⟨rfl, hb1⟩
      rw [H1.out, errV_zero]
      have hE1 := hE.below hb1
      go_wp2_with fail
      refine (verCheck_calls ks A b w1 hE1 hb).mono ?_
      rintro e w2 ⟨rfl, hb2⟩
      rw [errV_pos A H2.out]
      have hb12 := below_step hb1 hb2
      go_wp2_with fail
      go_ret
      rw [HR.out]
      exact ⟨rfl, hb12⟩
  · have HR : Hid (R = false) := Lib.hid (by rw [HM.out]; simp [h1])
    have H1 := Lib.hid h1
    clear h1
    go_enter Tryz.func99, Tryz.ntmps99
    go_wp2_with fail
    refine (verCheck_calls ks A a w hE ha).mono ?_
    rintro e w1 ⟨rfl, hb1⟩
    rw [errV_pos A H1.out]
    go_wp2_with fail
    go_ret
    rw [HR.out]
    exact ⟨rfl, hb1⟩
end Go.Proofs.Pw

namespace Go.Proofs.Pw
open Go.RowKit
open Go.Lib hiding intOf
theorem bytesLess_iff : ∀ a b : Str, Op.bytesLess a b = decide (compareBytes a b < 0)
  | [], [] => by simp [Op.bytesLess, compareBytes]
  | [], _ :: _ => by simp [Op.bytesLess, compareBytes]
  | _ :: _, [] => by simp [Op.bytesLess, compareBytes]
  | a :: r, b :: t => by
    rw [Op.bytesLess, compareBytes, bytesLess_iff r t]
    by_cases h : a < b
    · simp [h]
    · by_cases h2 : b < a
      · have : ¬ a = b := fun e => by subst e; exact h h2
        simp [h, h2, this]
      · have : a = b := by
          rw [UInt8.lt_iff_toNat_lt] at h h2
          exact UInt8.toNat_inj.1 (by omega)
        subst this
        simp
end Go.Proofs.Pw

namespace Go.Proofs.Pw
open Go.RowKit
open Go.Lib hiding intOf
theorem ahead_eq (p v q u : ByteArray) : modAhead (p.data.toList, v.data.toList) (q.data.toList, u.data.toList) = (Op.bytesLess p.toList q.toList || (p.toList == q.toList && verLess v.data.toList u.data.toList)) := by
  rw [toList_data, toList_data, bytesLess_iff]
  unfold modAhead
  congr 2
  rw [Bool.eq_iff_iff]
  simp
set_option maxHeartbeats 1000000 in
theorem modAhead_calls (ks : List Nat) (A : Nat → Addr) (p v q u : ByteArray) (w : World) (hE : EnvP ks A w) (hv : v.size ≤ 1000000000) (hu : u.size ≤ 1000000000) :
    Calls Tryz.prog 46 #[.agg #[.string p, .string v], .agg #[.string q, .string u]] w fun e w' => e = .returned (.bool (modAhead (p.data.toList, v.data.toList) (q.data.toList, u.data.toList))) ∧ Below w.heap.size w w' := by
  have hm := ahead_eq p v q u
  have hl := fun W hW => verLess_calls ks A v u W hW hv hu
  have hb1 := below_alloc w (.cells #[.string p, .string v] 47)
  have hB := below_step hb1 (below_alloc _ (.cells #[.string q, .string u] 47))
  replace hE := hE.below hB
  generalize modAhead (p.data.toList, v.data.toList) (q.data.toList, u.data.toList) = R at hm ⊢
  generalize verLess v.data.toList u.data.toList = X at hl hm
  replace hm := Lib.hid hm
  replace hl := Lib.hid hl
  clear hb1
  cases h1 : Op.bytesLess p.toList q.toList with
  | true =>
    have HF : Hid (R = true) := Lib.hid (by rw [hm.out, h1]; rfl)
    go_enter Tryz.func46, Tryz.ntmps46
    go_wp2_with fail
    go_ret
    rw [HF.out]
    exact ⟨rfl, hB⟩
  | false =>
    cases h2 : (p.toList == q.toList) with
    | true =>
      have HF : Hid (R = X) := Lib.hid (by rw [hm.out, h1, h2]; simp)
      have h3 : p.toList = q.toList := beq_iff_eq.1 h2
      have h4 : p = q := by rw [toList_data, toList_data] at h3; exact bytes_eq.1 h3
      subst h4
      clear h2 h3
      go_enter Tryz.func46, Tryz.ntmps46
      go_wp2_with fail
      refine (hl.out _ hE).mono ?_
      rintro e w1 ⟨rfl, hb⟩
      replace hB := below_step hB hb
      clear hb
      go_wp2_with fail
      go_ret
      rw [HF.out]
      exact ⟨rfl, hB⟩
    | false =>
      have HF : Hid (R = false) := Lib.hid (by rw [hm.out, h1, h2]; rfl)
      have h3 : p.toList ≠ q.toList := beq_eq_false_iff_ne.1 h2
      have h4 : p ≠ q := fun e => h3 (by rw [e])
      go_enter Tryz.func46, Tryz.ntmps46
      go_wp2_with fail
      go_ret
      rw [HF.out]
      exact ⟨rfl, hB⟩
end Go.Proofs.Pw

namespace Go.Proofs.Pw
open Go.RowKit
def patch (w : World) (d : Nat) (os : Array Obj) : World := { w with heap := w.heap ++ os, drawn := d }
structure PatchBy where
  d : Nat
  os : Array Obj
  deriving Inhabited
theorem below_patch (w : World) (d : Nat) (os : Array Obj) : Below w.heap.size w (patch w d os) :=
  ⟨rfl, rfl, rfl, by simp [patch], fun k hk => by simp [patch, Array.getElem?_append, hk]⟩
theorem patch_of_below {w w' : World} (h : Below w.heap.size w w') : ∃ p : PatchBy, w' = patch w p.d p.os := by
  refine ⟨⟨w'.drawn, w'.heap.extract w.heap.size w'.heap.size⟩, ?_⟩
  have hh : w'.heap = w.heap ++ w'.heap.extract w.heap.size w'.heap.size := by
    have hs := h.size
    apply Array.ext_getElem?
    intro i
    rw [Array.getElem?_append]
    split
    · rename_i hi; exact h.block i hi
    · rename_i hi
      rw [Array.getElem?_extract]
      split
      · congr 1; omega
      · rename_i hj
        rw [Array.getElem?_eq_none]
        omega
  obtain ⟨heap, tape, drawn, os, output⟩ := w'
  have h1 := h.os
  have h2 := h.tape
  have h3 := h.output
  simp only at h1 h2 h3 hh
  subst h1 h2 h3
  show World.mk heap _ _ _ _ = World.mk (w.heap ++ _) _ _ _ _
  congr 1
theorem cell_patch {w : World} {a : Addr} {v : Value} (h : w.cell? a = some v) (d : Nat) (os : Array Obj) : (patch w d os).cell? a = some v :=
  Below.cell_some (below_patch w d os) h
theorem Calls.patch_of {P : Program} {f : FuncId} {args : Array Value} {w : World} {d : Nat} {os : Array Obj} {v : Value}
    (h : Calls P f args (patch w d os) fun e w' => e = .returned v ∧ Below (patch w d os).heap.size (patch w d os) w') : Calls P f args (patch w d os) fun e w'' => e = .returned v ∧ ∃ p : PatchBy, w'' = patch w p.d p.os :=
  h.mono fun _ _ ⟨he, hb⟩ => ⟨he, patch_of_below (below_step (below_patch w d os) hb)⟩
theorem wp_region_quiet_patch {P : Program} {id : Nat} {Q : Exit → Act → World → Prop} {a : Act} {w : World} {l : List Oper} (hm : P.follows .mixedOrders = true) (hB : Region.lexB .any l.toArray = true)
    (h : wpQuiet P l.toArray (fun w' => ∃ p : PatchBy, w' = patch w p.d p.os) (fun a' => ∀ w', (∃ p : PatchBy, w' = patch w p.d p.os) → Q .normal a' w') l a) : (Code.region id l.toArray true).wp P Q a w :=
  wp_region_quiet (C := fun w' => ∃ p : PatchBy, w' = patch w p.d p.os) hm hB ⟨⟨w.drawn + 1, #[]⟩, by simp [patch]⟩ (by simpa using h)
end Go.Proofs.Pw
