/- Mp: walks and plain laws, joined: VerCmp OrdMath ModAhead Patch File File2 Mem2 File3 Ent FileFind IdxFind IdxReqs IdxEnt IdxCheck Own GrMath GrStart MapMd GrCome GrWalkMath. Conditions: at each theorem. -/
import Derived.Test.YtddodebbnelanaaGreatDoorMpa
import Derived.WalkKit
import Derived.Deep.QuietTactic
import Derived.BigQuiet
import Derived.Shelf.SlSortCmp.QuietGrown
import Derived.Shelf.Abstract
import Derived.Deep.Upon
import Derived.Stop.IfaceNil
import Derived.Deep.AppendLies
import Derived.Deep.RegionLaw
import Derived.MapKept
import Derived.Carry
import Derived.DeepKeys3
import Derived.Laws.Entries

/- The walks of package ver, part 4: comparePart, Compare, Less. -/
namespace Go.Proofs.Pw
open Go.RowKit
open Go.Lib hiding intOf

def orN (n : Nat) (V : Nat → Int) : Int := (List.range n).foldl (fun r j => orI r (V j)) 0
theorem orN_succ (n V) : orN (n + 1) V = orI (orN n V) (V n) := by simp [orN, List.range_succ]
theorem orI_left {a : Int} (h : a ≠ 0) (b : Int) : orI a b = a := if_neg h
theorem orI_zero (b : Int) : orI 0 b = b := if_pos rfl
theorem orN_hit (V : Nat → Int) (k : Nat) (h0 : ∀ j, j < k → V j = 0) (hk : V k ≠ 0) : ∀ n, k < n → orN n V = V k := by
  have hz : ∀ m, m ≤ k → orN m V = 0 := by
    intro m
    induction m with
    | zero => intro _; rfl
    | succ m ih => intro hm; rw [orN_succ, ih (by omega), orI_zero, h0 m (by omega)]
  intro n
  induction n with
  | zero => intro h; omega
  | succ n ih =>
    intro h
    rw [orN_succ]
    by_cases e : n = k
    · subst e; rw [hz n (Nat.le_refl _), orI_zero]
    · rw [ih (by omega), orI_left hk]
theorem orN_none (V : Nat → Int) : ∀ n, (∀ j, j < n → V j = 0) → orN n V = 0 := by
  intro n
  induction n with
  | zero => intro _; rfl
  | succ n ih => intro h; rw [orN_succ, ih (fun j hj => h j (by omega)), orI_zero, h n (by omega)]

theorem cmpOr_calls (b n : Nat) (V : Nat → Int) (w : World) (hn : n ≤ 100) (hc : ∀ j, j < n → w.cell? ⟨b, j, none⟩ = some (.int .i64 (V j))) :
    Calls Tryz.prog 190 #[.slice (some ⟨b, 0, none⟩) n n] w fun e w' => e = .returned (.int .i64 (orN n V)) ∧ Below w.heap.size w w' := by
  have HC := Lib.hid hc
  clear hc
  go_enter Tryz.func190, Tryz.ntmps190
  go_wp2_with fail
  go_loopw [8] (fun i wr => ∃ k : Nat, k ≤ n ∧ i = .int .i64 k ∧ Below w.heap.size w wr ∧ Hid (∀ j, j < k → V j = 0)) (fun i _ => n - (intOf i).toNat)
  case atStart => exact ⟨0, by omega, rfl, Below.refl _ _, Lib.hid (fun j hj => absurd hj (Nat.not_lt_zero _))⟩
  case round =>
    obtain ⟨k, hk, rfl, hbl, HA⟩ := hrel
    by_cases hlt : k < n
    · have hck := Below.cell_some hbl (HC.out k hlt)
      by_cases hv : V k = 0
      · have HV := Lib.hid hv
        rw [hv] at hck
        clear hv
        go_wp2_with fail
        go_roundw
        case rel =>
          refine ⟨k + 1, by omega, by go_num, hbl, Lib.hid (fun j hj => ?_)⟩
          by_cases e : j = k
          · subst e; exact HV.out
          · exact HA.out j (by omega)
        case measure => simp [intOf]; omega
      · have HV := Lib.hid hv
        have hv2 : (V k == 0) = false := beq_eq_false_iff_ne.2 hv
        have hres := Lib.hid (orN_hit V k HA.out hv n hlt)
        generalize V k = v at hck hv2 hres
        clear hv HV
        go_wp2_with fail
        go_ret
        rw [hres.out]
        exact ⟨rfl, hbl⟩
    · obtain rfl : k = n := by omega
      go_wp2_with fail
      go_ret
      rw [orN_none V k HA.out]
      exact ⟨rfl, hbl⟩

set_option maxHeartbeats 400000 in
/-- ver.comparePart -/
theorem cmpPart_calls (a b : ByteArray) (w : World) (ha : a.size ≤ 1000000000) (hb : b.size ≤ 1000000000) :
    Calls Tryz.prog 192 #[.string a, .string b] w fun e w' => e = .returned (.int .i64 (cmpPart a.data.toList b.data.toList)) ∧ Below w.heap.size w w' := by
  have hm : cmpPart a.data.toList b.data.toList = if areDigits a.data.toList && areDigits b.data.toList then orI ((a.size : Int) - b.size) (compareBytes a.data.toList b.data.toList) else if areDigits a.data.toList then -1 else if areDigits b.data.toList then 1 else compareBytes a.data.toList b.data.toList := by
    rw [size_eq, size_eq]; rfl
  generalize cmpPart a.data.toList b.data.toList = R at hm ⊢
  generalize hx : areDigits a.data.toList = x at hm
  generalize hy : areDigits b.data.toList = y at hm
  have HX := Lib.hid hx
  have HY := Lib.hid hy
  have hS := Tryz.strings_Compare a b
  generalize compareBytes a.data.toList b.data.toList = c at hm hS
  have HS := Lib.hid hS
  have HM := Lib.hid hm
  clear hx hy hm hS
  go_enter Tryz.func192, Tryz.ntmps192
  go_wp2_with fail
  refine (digits_calls a w (Nat.le_trans ha (by decide))).mono ?_
  rintro e w1 ⟨rfl, hb1⟩
  go_wp2_with fail
  refine (digits_calls b w1 (Nat.le_trans hb (by decide))).mono ?_
  rintro e w2 ⟨rfl, hb2⟩
  rw [HX.out, HY.out]
  have hb02 := below_step hb1 hb2
  cases x <;> cases y
  case false.false =>
    go_wp2_with fail
    refine (HS.out w2).mono ?_
    rintro e w3 ⟨rfl, rfl⟩
    go_wp2_with fail
    go_ret
    rw [HM.out]
    exact ⟨rfl, hb02⟩
  case false.true =>
    go_wp2_with fail
    go_ret
    rw [HM.out]
    exact ⟨rfl, hb02⟩
  case true.false =>
    go_wp2_with fail
    go_ret
    rw [HM.out]
    exact ⟨rfl, hb02⟩
  case true.true =>
    go_wp2_with fail
    refine (HS.out w2).mono ?_
    rintro e w3 ⟨rfl, rfl⟩
    go_wp2_with fail
    refine (cmpOr_calls _ 2 (fun j => if j = 0 then (a.size : Int) - b.size else c) _ (by decide) ?_).mono ?_
    · intro j hj
      obtain rfl | rfl : j = 0 ∨ j = 1 := by omega
      all_goals simp
    rintro e w4 ⟨rfl, hb4⟩
    have ho : orN 2 (fun j => if j = 0 then (a.size : Int) - b.size else c) = orI ((a.size : Int) - b.size) c := by
      rw [orN_succ, orN_succ]
      show orI (orI 0 _) _ = _
      rw [orI_zero]
      rfl
    rw [ho]
    have hb05 := below_step hb02 (below_step (below_alloc _ _) hb4)
    clear ho hb4
    go_wp2_with fail
    go_ret
    rw [HM.out]
    exact ⟨rfl, hb05⟩

theorem enters_cmpPart : ∀ args w, (callFunc 192 args).run Tryz.prog w = .ok (.enter 192 args) w := Go.Proofs.enters_of Tryz.func192 (by kernel_rfl) rfl

theorem cmpList_drop (n m : Nat) (L M : Nat → ByteArray) (k : Nat) (h1 : k < n) (h2 : k < m) : cmpList ((lstF n L).drop k) ((lstF m M).drop k) = orI (cmpPart (L k).data.toList (M k).data.toList) (cmpList ((lstF n L).drop (k + 1)) ((lstF m M).drop (k + 1))) := by
  have e : ∀ (n : Nat) (L : Nat → ByteArray), k < n → (lstF n L).drop k = (L k).data.toList :: (lstF n L).drop (k + 1) := fun n L h => by
    rw [List.drop_eq_getElem_cons (by rw [lstF_length]; exact h)]
    congr 1
    exact Option.some.inj ((List.getElem?_eq_getElem _).symm.trans (lstF_get n L k h))
  rw [e n L h1, e m M h2, cmpList]

set_option maxHeartbeats 400000 in
/-- slices.CompareFunc with comparePart -/
theorem cmpFunc_calls (a1 a2 : Option Addr) (n c1 m c2 : Nat) (L M : Nat → ByteArray) (w : World) (hn : n ≤ 1000000001) (hm : m ≤ 1000000001)
    (h1 : ∀ j, j < n → ∃ b o, a1 = some ⟨b, o, none⟩ ∧ w.cell? ⟨b, o + j, none⟩ = some (.string (L j))) (h2 : ∀ j, j < m → ∃ b o, a2 = some ⟨b, o, none⟩ ∧ w.cell? ⟨b, o + j, none⟩ = some (.string (M j)))
    (hL : ∀ j, j < n → (L j).size ≤ 1000000000) (hM : ∀ j, j < m → (M j).size ≤ 1000000000) :
    Calls Tryz.prog 191 #[.slice a1 n c1, .slice a2 m c2, .func (.func 192) #[] #[]] w fun e w' => e = .returned (.int .i64 (cmpList (lstF n L) (lstF m M))) ∧ Below w.heap.size w w' := by
  have H1 := Lib.hid h1
  have H2 := Lib.hid h2
  have HL := Lib.hid hL
  have HM := Lib.hid hM
  clear h1 h2 hL hM
  go_enter Tryz.func191, Tryz.ntmps191
  go_wp2_with fail
  go_loopw [13] (fun i wr => ∃ k : Nat, k ≤ n ∧ k ≤ m ∧ i = .int .i64 k ∧ Below w.heap.size w wr ∧ Hid (cmpList (lstF n L) (lstF m M) = cmpList ((lstF n L).drop k) ((lstF m M).drop k))) (fun i _ => n - (intOf i).toNat)
  case atStart => exact ⟨0, by omega, by omega, rfl, Below.refl _ _, Lib.hid rfl⟩
  case round =>
    obtain ⟨k, hk, hkm, rfl, hbl, HA⟩ := hrel
    by_cases hlt : k < n
    · obtain ⟨b1, o1, rfl, d1⟩ := H1.out k hlt
      replace d1 := Below.cell_some hbl d1
      by_cases hlm : k < m
      · obtain ⟨b2, o2, rfl, d2⟩ := H2.out k hlm
        replace d2 := Below.cell_some hbl d2
        have hcall := cmpPart_calls (L k) (M k) wr (HL.out k hlt) (HM.out k hlm)
        have hst := cmpList_drop n m L M k hlt hlm
        generalize cmpPart (L k).data.toList (M k).data.toList = c at hcall hst
        by_cases hc : c = 0
        · rw [hc, orI_zero] at hst
          subst hc
          have HS := Lib.hid (HA.out.trans hst)
          clear hst
          go_wp2_with fail
          refine hcall.mono ?_
          rintro e w' ⟨rfl, hb2⟩
          go_wp2_with fail
          go_roundw
          case rel => exact ⟨k + 1, by omega, by omega, by go_num, below_step hbl hb2, HS⟩
          case measure => simp [intOf]; omega
        · rw [orI_left hc] at hst
          have HS := Lib.hid (HA.out.trans hst)
          have hc2 : (c == 0) = false := beq_eq_false_iff_ne.2 hc
          clear hst hc
          go_wp2_with fail
          refine hcall.mono ?_
          rintro e w' ⟨rfl, hb2⟩
          go_wp2_with fail
          go_ret
          rw [HS.out]
          exact ⟨rfl, below_step hbl hb2⟩
      · obtain rfl : k = m := by omega
        have HS : Hid (cmpList (lstF n L) (lstF k M) = 1) := by
          refine Lib.hid (HA.out.trans ?_)
          rw [List.drop_of_length_le (l := lstF k M) (by rw [lstF_length]; exact Nat.le_refl _), List.drop_eq_getElem_cons (by rw [lstF_length]; exact hlt)]
          rfl
        go_wp2_with fail
        go_ret
        rw [HS.out]
        exact ⟨rfl, hbl⟩
    · obtain rfl : k = n := by omega
      by_cases hlm : k < m
      · have HS : Hid (cmpList (lstF k L) (lstF m M) = -1) := by
          refine Lib.hid (HA.out.trans ?_)
          rw [List.drop_of_length_le (l := lstF k L) (by rw [lstF_length]; exact Nat.le_refl _), List.drop_eq_getElem_cons (by rw [lstF_length]; exact hlm)]
          rfl
        go_wp2_with fail
        go_ret
        rw [HS.out]
        exact ⟨rfl, hbl⟩
      · obtain rfl : k = m := by omega
        have HS : Hid (cmpList (lstF k L) (lstF k M) = 0) := by
          refine Lib.hid (HA.out.trans ?_)
          rw [List.drop_of_length_le (l := lstF k L) (by rw [lstF_length]; exact Nat.le_refl _), List.drop_of_length_le (l := lstF k M) (by rw [lstF_length]; exact Nat.le_refl _)]
          rfl
        go_wp2_with fail
        go_ret
        rw [HS.out]
        exact ⟨rfl, hbl⟩

theorem verNum_le (s : Str) (i : Nat) : verNum s i ≤ 999999 := by
  unfold verNum
  split
  · exact (numberOf_le _).1
  · exact Nat.zero_le _

theorem verPre_small (s : Str) : (verPre s).length ≤ 5 ∧ ∀ w ∈ verPre s, w.length ≤ 8 ∧ partErr w = 0 := by
  unfold verPre
  by_cases h : verErr s = 0
  · rw [if_pos h]
    obtain ⟨_, _, _, h4, h5⟩ := (verErr_zero s).1 h
    exact ⟨h5, fun w hw => ⟨(partErr_zero (h4 w hw)).2.1, h4 w hw⟩⟩
  · rw [if_neg h]
    exact ⟨by decide, fun w hw => by cases hw⟩

set_option maxHeartbeats 1000000 in
theorem verCompare_calls (ks : List Nat) (A : Nat → Addr) (a b : ByteArray) (w : World) (hE : EnvP ks A w) (ha : a.size ≤ 1000000000) (hb : b.size ≤ 1000000000) :
    Calls Tryz.prog 141 #[.string a, .string b] w fun e w' => e = .returned (.int .i64 (verCmp a.data.toList b.data.toList)) ∧ Below w.heap.size w w' := by
  have la0 := verNum_le a.data.toList 0
  have la1 := verNum_le a.data.toList 1
  have la2 := verNum_le a.data.toList 2
  have lb0 := verNum_le b.data.toList 0
  have lb1 := verNum_le b.data.toList 1
  have lb2 := verNum_le b.data.toList 2
  have hm : verCmp a.data.toList b.data.toList = (let n := orI ((verNum a.data.toList 0 : Int) - verNum b.data.toList 0) (orI ((verNum a.data.toList 1 : Int) - verNum b.data.toList 1) ((verNum a.data.toList 2 : Int) - verNum b.data.toList 2)); if n = 0 ∧ decide ((verPre a.data.toList).length = 0) ≠ decide ((verPre b.data.toList).length = 0) then ((verPre b.data.toList).length : Int) - (verPre a.data.toList).length else orI n (cmpList (verPre a.data.toList) (verPre b.data.toList))) := rfl
  generalize verCmp a.data.toList b.data.toList = R at hm ⊢
  have HM := Lib.hid hm
  clear hm
  go_enter Tryz.func141, Tryz.ntmps141
  go_wp2_with fail
  refine (verSplit_calls ks A a w hE ha).mono ?_
  rintro e w1 ⟨hb1, va, rfl, a1, n1, cap1, L1, rfl, HL1, hn1, hn1', hc1⟩
  go_wp2_with fail
  have hbA := below_alloc w1 (.cells #[.int .i64 (verNum a.data.toList 0 : Nat), .int .i64 (verNum a.data.toList 1 : Nat), .int .i64 (verNum a.data.toList 2 : Nat), .slice a1 n1 cap1] 155)
  have hzA := box4_alloc w1 (.int .i64 (verNum a.data.toList 0 : Nat)) (.int .i64 (verNum a.data.toList 1 : Nat)) (.int .i64 (verNum a.data.toList 2 : Nat)) (.slice a1 n1 cap1) 155
  have hb1A := below_step hb1 hbA
  refine (verSplit_calls ks A b _ (hE.below hb1A) hb).mono ?_
  rintro e w2 ⟨hb2, vb, rfl, a2, n2, cap2, L2, rfl, HL2, hn2, hn2', hc2⟩
  have hbB := below_alloc w2 (.cells #[.int .i64 (verNum b.data.toList 0 : Nat), .int .i64 (verNum b.data.toList 1 : Nat), .int .i64 (verNum b.data.toList 2 : Nat), .slice a2 n2 cap2] 155)
  have hzB := box4_alloc w2 (.int .i64 (verNum b.data.toList 0 : Nat)) (.int .i64 (verNum b.data.toList 1 : Nat)) (.int .i64 (verNum b.data.toList 2 : Nat)) (.slice a2 n2 cap2) 155
  have hzA2 := (hzA.below hb2).below hbB
  have hb2B := below_step (below_step hb1A hb2) hbB
  obtain ⟨p0, p1, p2, p3, _⟩ := hzA2
  obtain ⟨q0, q1, q2, q3, _⟩ := hzB
  have hs1 := verPre_small a.data.toList
  have hs2 := verPre_small b.data.toList
  rw [HL1, lstF_length] at hs1
  rw [HL2, lstF_length] at hs2
  have hL1 : ∀ j, j < n1 → (L1 j).size ≤ 1000000000 := fun j hj => by
    have := (hs1.2 _ (List.mem_of_getElem? (lstF_get n1 L1 j hj))).1
    rw [size_eq]; omega
  have hL2 : ∀ j, j < n2 → (L2 j).size ≤ 1000000000 := fun j hj => by
    have := (hs2.2 _ (List.mem_of_getElem? (lstF_get n2 L2 j hj))).1
    rw [size_eq]; omega
  have hm1 := hs1.1
  have hm2 := hs2.1
  have hcf := fun (W : World) (h : Below w1.heap.size w1 W) (h' : Below w2.heap.size w2 W) => cmpFunc_calls a1 a2 n1 cap1 n2 cap2 L1 L2 W (by omega) (by omega)
    (fun j hj => let ⟨b, o, e, h2⟩ := hc1 j hj; ⟨b, o, e, Below.cell_some h h2⟩) (fun j hj => let ⟨b, o, e, h2⟩ := hc2 j hj; ⟨b, o, e, Below.cell_some h' h2⟩) hL1 hL2
  have HCF := Lib.hid hcf
  have HM2 : Hid (R = if orI ((verNum a.data.toList 0 : Int) - verNum b.data.toList 0) (orI ((verNum a.data.toList 1 : Int) - verNum b.data.toList 1) ((verNum a.data.toList 2 : Int) - verNum b.data.toList 2)) = 0 ∧ decide (n1 = 0) ≠ decide (n2 = 0) then (n2 : Int) - n1 else orI (orI ((verNum a.data.toList 0 : Int) - verNum b.data.toList 0) (orI ((verNum a.data.toList 1 : Int) - verNum b.data.toList 1) ((verNum a.data.toList 2 : Int) - verNum b.data.toList 2))) (cmpList (lstF n1 L1) (lstF n2 L2))) := Lib.hid (by
    rw [HM.out]
    show (if _ ∧ _ then _ else _) = _
    rw [HL1, HL2, lstF_length, lstF_length])
  clear hs1 hs2 hcf HM HL1 HL2 hL1 hL2 hc1 hc2 hzA hb1A
  generalize cmpList (lstF n1 L1) (lstF n2 L2) = cl at HCF HM2
  have hb12 : Below w1.heap.size w1 w2 := below_step hbA hb2
  have hpz : w1.heap.size < w2.heap.size := lt_of_cell (show w2.cell? ⟨w1.heap.size, 0, none⟩ = some _ from (box4_alloc w1 (.int .i64 (verNum a.data.toList 0 : Nat)) (.int .i64 (verNum a.data.toList 1 : Nat)) (.int .i64 (verNum a.data.toList 2 : Nat)) (.slice a1 n1 cap1) 155 |>.below hb2).c0)
  generalize verNum a.data.toList 0 = x0 at *
  generalize verNum a.data.toList 1 = x1 at *
  generalize verNum a.data.toList 2 = x2 at *
  generalize verNum b.data.toList 0 = y0 at *
  generalize verNum b.data.toList 1 = y1 at *
  generalize verNum b.data.toList 2 = y2 at *
  have hmn : ∀ n, n = orI ((x0 : Int) - y0) (orI ((x1 : Int) - y1) ((x2 : Int) - y2)) → -1000000 ≤ n ∧ n ≤ 1000000 := fun n e => by
    rw [e]; unfold orI; split <;> (try split) <;> omega
  go_wp2_with fail
  refine (cmpOr_calls (w2.heap.size + 1) 3 (fun j => if j = 0 then (x0 : Int) - y0 else if j = 1 then (x1 : Int) - y1 else (x2 : Int) - y2) _ (by decide) ?_).mono ?_
  · intro j hj
    obtain rfl | rfl | rfl : j = 0 ∨ j = 1 ∨ j = 2 := by omega
    all_goals simp
  rintro e w4 ⟨rfl, hb4⟩
  have ho : orN 3 (fun j => if j = 0 then (x0 : Int) - y0 else if j = 1 then (x1 : Int) - y1 else (x2 : Int) - y2) = orI ((x0 : Int) - y0) (orI ((x1 : Int) - y1) ((x2 : Int) - y2)) := by
    rw [orN_succ, orN_succ, orN_succ]
    show orI (orI (orI 0 _) _) _ = _
    rw [orI_zero]
    simp only [↓reduceIte]
    unfold orI
    by_cases h1 : (x0 : Int) - y0 = 0
    · simp [h1]
    · simp [h1]
  rw [ho]
  have hN := hmn _ rfl
  clear ho hmn
  generalize orI ((x0 : Int) - y0) (orI ((x1 : Int) - y1) ((x2 : Int) - y2)) = N at hN HM2 ⊢
  have hbC := below_step (below_alloc _ _) hb4
  have p3' := Below.cell_some hbC p3
  have q3' := Below.cell_some hbC q3
  have hbW := below_step hb2B hbC
  have hb14 : Below w1.heap.size w1 w4 := below_step (below_step hb12 hbB) hbC
  have hb24 : Below w2.heap.size w2 w4 := below_step hbB hbC
  clear p0 p1 p2 p3 q0 q1 q2 q3 la0 la1 la2 lb0 lb1 lb2 hb4 hbC hb2B hb12 hbB hb1 hb2 hbA hpz
  have go_on : Hid (R = orI N cl) → Hid (∀ W, Below w1.heap.size w1 W → Below w2.heap.size w2 W → Calls Tryz.prog 191 #[.slice a1 n1 cap1, .slice a2 n2 cap2, .func (.func 192) #[] #[]] W fun e w' => e = .returned (.int .i64 cl) ∧ Below W.heap.size W w') := fun _ => HCF
  by_cases h0 : N = 0
  · subst h0
    by_cases h1 : n1 = 0
    · subst h1
      by_cases h2 : n2 = 0
      · subst h2
        have HR : Hid (R = orI 0 cl) := Lib.hid (by rw [HM2.out, if_neg (by simp)])
        clear go_on
        go_wp2_with fail
        refine (HCF.out _ hb14 hb24).mono ?_
        rintro e w5 ⟨rfl, hb5⟩
        go_wp2_with fail
        refine (cmpOr_calls _ 2 (fun j => if j = 0 then 0 else cl) _ (by decide) ?_).mono ?_
        · intro j hj
          obtain rfl | rfl : j = 0 ∨ j = 1 := by omega
          all_goals simp
        rintro e w6 ⟨rfl, hb6⟩
        have ho : orN 2 (fun j => if j = 0 then 0 else cl) = orI 0 cl := by
          rw [orN_succ, orN_succ]
          show orI (orI 0 _) _ = _
          rw [orI_zero]
          rfl
        rw [ho]
        have hbE := below_step hbW (below_step hb5 (below_step (below_alloc _ _) hb6))
        clear ho hb6 hb5
        go_wp2_with fail
        go_ret
        rw [HR.out]
        exact ⟨rfl, hbE⟩
      · have HR : Hid (R = (n2 : Int) - (0 : Nat)) := Lib.hid (by rw [HM2.out, if_pos ⟨rfl, by simp [h2]⟩])
        have h2' : ((n2 : Int) == 0) = false := beq_eq_false_iff_ne.2 (by omega)
        clear h2
        go_wp2_with fail
        go_ret
        rw [HR.out]
        exact ⟨by simp, hbW⟩
    · by_cases h2 : n2 = 0
      · subst h2
        have HR : Hid (R = ((0 : Nat) : Int) - n1) := Lib.hid (by rw [HM2.out, if_pos ⟨rfl, by simp [h1]⟩])
        have h1' : ((n1 : Int) == 0) = false := beq_eq_false_iff_ne.2 (by omega)
        clear h1
        go_wp2_with fail
        go_ret
        rw [HR.out]
        exact ⟨by simp, hbW⟩
      · have HR : Hid (R = orI 0 cl) := Lib.hid (by rw [HM2.out, if_neg (by simp [h1, h2])])
        have h1' : ((n1 : Int) == 0) = false := beq_eq_false_iff_ne.2 (by omega)
        have h2' : ((n2 : Int) == 0) = false := beq_eq_false_iff_ne.2 (by omega)
        clear go_on h1 h2
        go_wp2_with fail
        refine (HCF.out _ hb14 hb24).mono ?_
        rintro e w5 ⟨rfl, hb5⟩
        go_wp2_with fail
        refine (cmpOr_calls _ 2 (fun j => if j = 0 then 0 else cl) _ (by decide) ?_).mono ?_
        · intro j hj
          obtain rfl | rfl : j = 0 ∨ j = 1 := by omega
          all_goals simp
        rintro e w6 ⟨rfl, hb6⟩
        have ho : orN 2 (fun j => if j = 0 then 0 else cl) = orI 0 cl := by
          rw [orN_succ, orN_succ]
          show orI (orI 0 _) _ = _
          rw [orI_zero]
          rfl
        rw [ho]
        have hbE := below_step hbW (below_step hb5 (below_step (below_alloc _ _) hb6))
        clear ho hb6 hb5
        go_wp2_with fail
        go_ret
        rw [HR.out]
        exact ⟨rfl, hbE⟩
  · have HR : Hid (R = orI N cl) := Lib.hid (by rw [HM2.out, if_neg (fun h => h0 h.1)])
    have h0' : (N == 0) = false := beq_eq_false_iff_ne.2 h0
    clear h0 go_on
    go_wp2_with fail
    refine (HCF.out _ hb14 hb24).mono ?_
    rintro e w5 ⟨rfl, hb5⟩
    go_wp2_with fail
    refine (cmpOr_calls _ 2 (fun j => if j = 0 then N else cl) _ (by decide) ?_).mono ?_
    · intro j hj
      obtain rfl | rfl : j = 0 ∨ j = 1 := by omega
      all_goals simp
    rintro e w6 ⟨rfl, hb6⟩
    have ho : orN 2 (fun j => if j = 0 then N else cl) = orI N cl := by
      rw [orN_succ, orN_succ]
      show orI (orI 0 _) _ = _
      rw [orI_zero]
      rfl
    rw [ho]
    have hbE := below_step hbW (below_step hb5 (below_step (below_alloc _ _) hb6))
    clear ho hb6 hb5
    go_wp2_with fail
    go_ret
    rw [HR.out]
    exact ⟨rfl, hbE⟩

/-- ver.Less -/
theorem verLess_calls (ks : List Nat) (A : Nat → Addr) (a b : ByteArray) (w : World) (hE : EnvP ks A w) (ha : a.size ≤ 1000000000) (hb : b.size ≤ 1000000000) :
    Calls Tryz.prog 117 #[.string a, .string b] w fun e w' => e = .returned (.bool (verLess a.data.toList b.data.toList)) ∧ Below w.heap.size w w' := by
  have hm : verLess a.data.toList b.data.toList = decide (verErr a.data.toList = 0 ∧ verErr b.data.toList = 0 ∧ verCmp a.data.toList b.data.toList < 0) := rfl
  generalize verLess a.data.toList b.data.toList = R at hm ⊢
  have HM := Lib.hid hm
  clear hm
  by_cases h1 : verErr a.data.toList = 0
  · by_cases h2 : verErr b.data.toList = 0
    · have HR : Hid (R = decide (verCmp a.data.toList b.data.toList < 0)) := Lib.hid (by rw [HM.out]; simp [h1, h2])
      have H1 := Lib.hid h1
      have H2 := Lib.hid h2
      have hcall := fun W hW => verCompare_calls ks A a b W hW ha hb
      generalize verCmp a.data.toList b.data.toList = c at hcall HR
      have HC := Lib.hid hcall
      clear h1 h2 hcall
      go_enter Tryz.func117, Tryz.ntmps117
      go_wp2_with fail
      refine (verCheck_calls ks A a w hE ha).mono ?_
      rintro e w1 ⟨rfl, hb1⟩
      rw [H1.out, errV_zero]
      have hE1 := hE.below hb1
      go_wp2_with fail
      refine (verCheck_calls ks A b w1 hE1 hb).mono ?_
      rintro e w2 ⟨rfl, hb2⟩
      rw [H2.out, errV_zero]
      have hE2 := hE1.below hb2
      go_wp2_with fail
      refine (HC.out w2 hE2).mono ?_
      rintro e w3 ⟨rfl, hb3⟩
      have hb13 := below_step (below_step hb1 hb2) hb3
      go_wp2_with fail
      go_ret
      rw [HR.out]
      exact ⟨rfl, hb13⟩
    · have HR : Hid (R = false) := Lib.hid (by rw [HM.out]; simp [h2])
      have H1 := Lib.hid h1
      have H2 := Lib.hid h2
      clear h1 h2
      go_enter Tryz.func117, Tryz.ntmps117
      go_wp2_with fail
      refine (verCheck_calls ks A a w hE ha).mono ?_
      rintro e w1 ⟨rfl, hb1⟩
      rw [H1.out, errV_zero]
      have hE1 := hE.below hb1
      go_wp2_with fail
      refine (verCheck_calls ks A b w1 hE1 hb).mono ?_
      rintro e w2 ⟨rfl, hb2⟩
      rw [errV_pos A H2.out]
      have hb12 := below_step hb1 hb2
      go_wp2_with fail
      go_ret
      rw [HR.out]
      exact ⟨rfl, hb12⟩
  · have HR : Hid (R = false) := Lib.hid (by rw [HM.out]; simp [h1])
    have H1 := Lib.hid h1
    clear h1
    go_enter Tryz.func117, Tryz.ntmps117
    go_wp2_with fail
    refine (verCheck_calls ks A a w hE ha).mono ?_
    rintro e w1 ⟨rfl, hb1⟩
    rw [errV_pos A H1.out]
    go_wp2_with fail
    go_ret
    rw [HR.out]
    exact ⟨rfl, hb1⟩
end Go.Proofs.Pw

/- The model's order of strings is that of their bytes. -/
namespace Go.Proofs.Pw
open Go.RowKit
open Go.Lib hiding intOf

theorem bytesLess_iff : ∀ a b : Str, Op.bytesLess a b = decide (compareBytes a b < 0)
  | [], [] => by simp [Op.bytesLess, compareBytes]
  | [], _ :: _ => by simp [Op.bytesLess, compareBytes]
  | _ :: _, [] => by simp [Op.bytesLess, compareBytes]
  | a :: r, b :: t => by
    rw [Op.bytesLess, compareBytes, bytesLess_iff r t]
    by_cases h : a < b
    · simp [h]
    · by_cases h2 : b < a
      · have : ¬ a = b := fun e => by subst e; exact h h2
        simp [h, h2, this]
      · have : a = b := by
          rw [UInt8.lt_iff_toNat_lt] at h h2
          exact UInt8.toNat_inj.1 (by omega)
        subst this
        simp
end Go.Proofs.Pw

/- mod.Ahead. Conditions: texts of at most 1000000000 bytes. -/
namespace Go.Proofs.Pw
open Go.RowKit
open Go.Lib hiding intOf

theorem ahead_eq (p v q u : ByteArray) : modAhead (p.data.toList, v.data.toList) (q.data.toList, u.data.toList) = (Op.bytesLess p.toList q.toList || (p.toList == q.toList && verLess v.data.toList u.data.toList)) := by
  rw [toList_data, toList_data, bytesLess_iff]
  unfold modAhead
  congr 2
  rw [Bool.eq_iff_iff]
  simp

set_option maxHeartbeats 1000000 in
theorem modAhead_calls (ks : List Nat) (A : Nat → Addr) (p v q u : ByteArray) (w : World) (hE : EnvP ks A w) (hv : v.size ≤ 1000000000) (hu : u.size ≤ 1000000000) :
    Calls Tryz.prog 65 #[.agg #[.string p, .string v], .agg #[.string q, .string u]] w fun e w' => e = .returned (.bool (modAhead (p.data.toList, v.data.toList) (q.data.toList, u.data.toList))) ∧ Below w.heap.size w w' := by
  have hm := ahead_eq p v q u
  have hl := fun W hW => verLess_calls ks A v u W hW hv hu
  have hb1 := below_alloc w (.cells #[.string p, .string v] 26)
  have hB := below_step hb1 (below_alloc _ (.cells #[.string q, .string u] 26))
  replace hE := hE.below hB
  generalize modAhead (p.data.toList, v.data.toList) (q.data.toList, u.data.toList) = R at hm ⊢
  generalize verLess v.data.toList u.data.toList = X at hl hm
  replace hm := Lib.hid hm
  replace hl := Lib.hid hl
  clear hb1
  cases h1 : Op.bytesLess p.toList q.toList with
  | true =>
    have HF : Hid (R = true) := Lib.hid (by rw [hm.out, h1]; rfl)
    go_enter Tryz.func65, Tryz.ntmps65
    go_wp2_with fail
    go_ret
    rw [HF.out]
    exact ⟨rfl, hB⟩
  | false =>
    cases h2 : (p.toList == q.toList) with
    | true =>
      have HF : Hid (R = X) := Lib.hid (by rw [hm.out, h1, h2]; simp)
      have h3 : p.toList = q.toList := beq_iff_eq.1 h2
      have h4 : p = q := by rw [toList_data, toList_data] at h3; exact bytes_eq.1 h3
      subst h4
      clear h2 h3
      go_enter Tryz.func65, Tryz.ntmps65
      go_wp2_with fail
      refine (hl.out _ hE).mono ?_
      rintro e w1 ⟨rfl, hb⟩
      replace hB := below_step hB hb
      clear hb
      go_wp2_with fail
      go_ret
      rw [HF.out]
      exact ⟨rfl, hB⟩
    | false =>
      have HF : Hid (R = false) := Lib.hid (by rw [hm.out, h1, h2]; rfl)
      have h3 : p.toList ≠ q.toList := beq_eq_false_iff_ne.1 h2
      have h4 : p ≠ q := fun e => h3 (by rw [e])
      go_enter Tryz.func65, Tryz.ntmps65
      go_wp2_with fail
      go_ret
      rw [HF.out]
      exact ⟨rfl, hB⟩

end Go.Proofs.Pw

/- A region that draws its order, whose operations only read and whose callees may lay blocks of their own: walked once, in the order of the text, over the class 'Below'. -/
namespace Go.Proofs.Pw
open Go.RowKit

/-- w with blocks behind it, at another place of its tape -/
def patch (w : World) (d : Nat) (os : Array Obj) : World := { w with heap := w.heap ++ os, drawn := d }
structure PatchBy where
  d : Nat
  os : Array Obj
  deriving Inhabited

theorem below_patch (w : World) (d : Nat) (os : Array Obj) : Below w.heap.size w (patch w d os) :=
  ⟨rfl, rfl, rfl, by simp [patch], fun k hk => by simp [patch, Array.getElem?_append, hk]⟩
theorem patch_of_below {w w' : World} (h : Below w.heap.size w w') : ∃ p : PatchBy, w' = patch w p.d p.os := by
  refine ⟨⟨w'.drawn, w'.heap.extract w.heap.size w'.heap.size⟩, ?_⟩
  have hh : w'.heap = w.heap ++ w'.heap.extract w.heap.size w'.heap.size := by
    have hs := h.size
    apply Array.ext_getElem?
    intro i
    rw [Array.getElem?_append]
    split
    · rename_i hi; exact h.block i hi
    · rename_i hi
      rw [Array.getElem?_extract]
      split
      · congr 1; omega
      · rename_i hj
        rw [Array.getElem?_eq_none]
        omega
  obtain ⟨heap, tape, drawn, os, output⟩ := w'
  have h1 := h.os
  have h2 := h.tape
  have h3 := h.output
  simp only at h1 h2 h3 hh
  subst h1 h2 h3
  show World.mk heap _ _ _ _ = World.mk (w.heap ++ _) _ _ _ _
  congr 1
theorem cell_patch {w : World} {a : Addr} {v : Value} (h : w.cell? a = some v) (d : Nat) (os : Array Obj) : (patch w d os).cell? a = some v :=
  Below.cell_some (below_patch w d os) h
theorem Calls.patch_of {P : Program} {f : FuncId} {args : Array Value} {w : World} {d : Nat} {os : Array Obj} {v : Value}
    (h : Calls P f args (patch w d os) fun e w' => e = .returned v ∧ Below (patch w d os).heap.size (patch w d os) w') : Calls P f args (patch w d os) fun e w'' => e = .returned v ∧ ∃ p : PatchBy, w'' = patch w p.d p.os :=
  h.mono fun _ _ ⟨he, hb⟩ => ⟨he, patch_of_below (below_step (below_patch w d os) hb)⟩
theorem wp_region_quiet_patch {P : Program} {id : Nat} {Q : Exit → Act → World → Prop} {a : Act} {w : World} {l : List Oper} (hm : P.follows .mixedOrders = true) (hB : Region.lexB .any l.toArray = true)
    (h : wpQuiet P l.toArray (fun w' => ∃ p : PatchBy, w' = patch w p.d p.os) (fun a' => ∀ w', (∃ p : PatchBy, w' = patch w p.d p.os) → Q .normal a' w') l a) : (Code.region id l.toArray true).wp P Q a w :=
  wp_region_quiet (C := fun w' => ∃ p : PatchBy, w' = patch w p.d p.os) hm hB ⟨⟨w.drawn + 1, #[]⟩, by simp [patch]⟩ (by simpa using h)
end Go.Proofs.Pw

/- file.each, file.Check. Conditions: texts of at most 1000000 bytes, lists of at most 1000000. -/
namespace Go.Proofs.Pw
open Go.RowKit
open Go.Lib hiding intOf

/-- an error with its place: none; bare (place -1); a fault in a box -/
def FaultAt (A : Nat → Addr) (w : World) (v : Value) (r : Nat × Int) : Prop :=
  (r.1 = 0 ∧ r.2 = -1 ∧ v = .nilIface) ∨ (r.1 ≠ 0 ∧ r.2 = -1 ∧ v = errV A r.1) ∨
  (r.1 ≠ 0 ∧ ∃ b : Nat, v = .iface 102 (.pointer (some ⟨b, 0, none⟩)) ∧ w.cell? ⟨b, 0, none⟩ = some (.int .i64 r.2) ∧ w.cell? ⟨b, 1, none⟩ = some (errV A r.1))
theorem FaultAt.below {A : Nat → Addr} {w w' : World} {v : Value} {r : Nat × Int} (h : FaultAt A w v r) (hb : Below w.heap.size w w') : FaultAt A w' v r := by
  rcases h with h | h | ⟨h, b, h1, h2, h3⟩
  · exact .inl h
  · exact .inr (.inl h)
  · exact .inr (.inr ⟨h, b, h1, Below.cell_some hb h2, Below.cell_some hb h3⟩)

structure Box3 (w : World) (b : Nat) (v0 v1 v2 : Value) : Prop where
  c0 : w.cell? ⟨b, 0, none⟩ = some v0
  c1 : w.cell? ⟨b, 1, none⟩ = some v1
  c2 : w.cell? ⟨b, 2, none⟩ = some v2
theorem Box3.below {w w' : World} {b : Nat} {v0 v1 v2 : Value} (h : Box3 w b v0 v1 v2) (hb : Below w.heap.size w w') : Box3 w' b v0 v1 v2 :=
  ⟨Below.cell_some hb h.c0, Below.cell_some hb h.c1, Below.cell_some hb h.c2⟩
theorem box3_alloc (w : World) (v0 v1 v2 : Value) (t : TypeId) : Box3 (w.alloc (.cells #[v0, v1, v2] t)) w.heap.size v0 v1 v2 := ⟨by simp, by simp, by simp⟩

/-- a test of a place, by a function value -/
def EachT (g : Nat) (lb : Array Value) (A : Nat → Addr) (e : Nat → Nat) (n base : Nat) (w : World) : Prop :=
  ∀ W, Below base w W → ∀ i : Nat, i < n → Calls Tryz.prog g (#[.int .i64 i] ++ lb) W fun e' w'' => e' = .returned (errV A (e i)) ∧ Below W.heap.size W w''

set_option maxHeartbeats 400000 in
theorem each_calls (g : Nat) (lb : Array Value) (eg : ∀ args w, (callFunc g args).run Tryz.prog w = .ok (.enter g args) w) (A : Nat → Addr) (e : Nat → Nat) (a : Option Addr) (n cap base : Nat) (w : World) (hn : n ≤ 1000000) (hbase : base ≤ w.heap.size) (hT : EachT g lb A e n base w) :
    Calls Tryz.prog 61 #[.slice a n cap, .func (.func g) #[] lb] w fun e' w' => (∃ v, e' = .returned v ∧ FaultAt A w' v (firstE e n)) ∧ Below w.heap.size w w' := by
  replace hT := Lib.hid hT
  go_enter Tryz.func61, Tryz.ntmps61
  go_wp2_with fail
  go_loopw [9] (fun i wr => ∃ k : Nat, k ≤ n ∧ i = .int .i64 k ∧ Below w.heap.size w wr ∧ Hid (∀ j, j < k → e j = 0)) (fun i _ => n - (intOf i).toNat)
  case atStart => exact ⟨0, Nat.zero_le _, rfl, Below.refl _ _, Lib.hid (fun j hj => absurd hj (Nat.not_lt_zero _))⟩
  case round =>
    obtain ⟨k, hk, rfl, hB, HA⟩ := hrel
    by_cases hlt : k < n
    · have hcall := hT.out wr (hB.mono hbase) k hlt
      by_cases h0 : e k = 0
      · have HN : Hid (∀ j, j < k + 1 → e j = 0) := Lib.hid (fun j hj => by
          by_cases e' : j = k
          · subst e'; exact h0
          · exact HA.out j (by omega))
        rw [h0, errV_zero] at hcall
        clear h0
        go_wp2_with (go_at_fn g; refine hcall.mono ?_; rintro e' w' ⟨rfl, hb2⟩)
        go_roundw
        case rel => exact ⟨k + 1, by omega, by go_num, below_step hB hb2, HN⟩
        case measure => simp [intOf]; omega
      · have HF := Lib.hid (firstE_hit h0 HA.out hlt)
        have H0 := Lib.hid h0
        rw [errV_pos A h0] at hcall
        clear h0
        go_wp2_with (go_at_fn g; refine hcall.mono ?_; rintro e' w' ⟨rfl, hb2⟩)
        go_ret
        rw [HF.out]
        refine ⟨⟨_, rfl, .inr (.inr ⟨H0.out, w'.heap.size, rfl, by simp, ?_⟩)⟩, (below_step hB hb2).alloc (below_step hB hb2).size _⟩
        rw [errV_pos A H0.out]
        simp
    · obtain rfl : k = n := by omega
      have HF := Lib.hid (firstE_none HA.out)
      go_wp2_with fail
      go_ret
      rw [HF.out]
      exact ⟨⟨_, rfl, .inl ⟨rfl, rfl, rfl⟩⟩, hB⟩

theorem wrap_nat (k : Nat) (h : k ≤ 1000000000) : IntKind.i64.wrap (k : Int) = (k : Int) := by
  simp [IntKind.wrap, IntKind.bits, IntKind.signed]; omega

theorem leq_eq (x y : ByteArray) : (Op.bytesLess x.toList y.toList || x.toList == y.toList) = decide (compareBytes x.data.toList y.data.toList ≤ 0) := by
  rw [toList_data, toList_data, bytesLess_iff]
  generalize x.data.toList = a
  generalize y.data.toList = b
  by_cases h : compareBytes a b < 0
  · rw [decide_eq_true h, decide_eq_true (by omega)]; rfl
  · rw [decide_eq_false h, Bool.false_or]
    by_cases e : a = b
    · subst e
      rw [compareBytes_ord.self]; simp
    · rw [beq_eq_false_iff_ne.2 e]
      have : compareBytes a b ≠ 0 := fun h0 => e (compareBytes_zero h0)
      rw [decide_eq_false (by omega)]

set_option maxHeartbeats 2000000 in
set_option maxRecDepth 100000 in
/-- a requirement's test -/
theorem fileCheck1_calls (ks : List Nat) (A : Nat → Addr) (h4 : 4 ∈ ks) (h3 : 3 ∈ ks) (h8 : 8 ∈ ks) (b : Nat) (path : ByteArray) (a : Option Addr) (n cap : Nat) (P V : Nat → ByteArray) (xv : Value) (i : Nat) (w : World) (hE : EnvP ks A w) (hi : i < n)
    (hx : Box3 w b (.string path) (.slice a n cap) xv) (hc : ∀ j, j < n → ∃ b o, a = some ⟨b, o, none⟩ ∧ w.cell? ⟨b, o + j * 2, none⟩ = some (.string (P j)) ∧ w.cell? ⟨b, o + j * 2 + 1, none⟩ = some (.string (V j))) (hn : n ≤ 1000000)
    (hP : ∀ j, j < n → (P j).size ≤ 1000000 ∧ (V j).size ≤ 1000000) :
    Calls Tryz.prog 62 #[.int .i64 i, .pointer (some ⟨b, 0, none⟩)] w fun e w' => e = .returned (errV A (reqE path.data.toList (mdF n P V) i)) ∧ Below w.heap.size w w' := by
  have hR : reqE path.data.toList (mdF n P V) i = if modErr (P i).data.toList (V i).data.toList ≠ 0 then modErr (P i).data.toList (V i).data.toList else if (P i).data.toList = path.data.toList then 3 else if 0 < i ∧ compareBytes (P i).data.toList (mdAt (mdF n P V) (i - 1)).1 ≤ 0 then 8 else 0 := by
    unfold reqE
    rw [mdAt_mdF hi]; rfl
  obtain ⟨b1, o1, rfl, c1, c2⟩ := hc i hi
  obtain ⟨z0, z1, z2⟩ := hx
  have hck := fun W hW => modCheck_calls ks A h4 (P i) (V i) W hW (by have := (hP i hi).1; omega) (by have := (hP i hi).2; omega)
  have hb := below_alloc w (.cells #[.string (P i), .string (V i)] 26)
  obtain ⟨y0, y1, _⟩ := box2_alloc w (.string (P i)) (.string (V i)) 26
  have hB := hb
  have hE1 := hE.below hb
  have d0 := Below.cell_some hb z0
  have d1 := Below.cell_some hb z1
  have hE := hE1
  have HC : Hid (∀ j, j < n → ∃ b o, some (⟨b1, o1, none⟩ : Addr) = some ⟨b, o, none⟩ ∧ w.cell? ⟨b, o + j * 2, none⟩ = some (.string (P j)) ∧ w.cell? ⟨b, o + j * 2 + 1, none⟩ = some (.string (V j))) := Lib.hid hc
  by_cases h0 : modErr (P i).data.toList (V i).data.toList = 0
  · rw [if_neg (by simp [h0])] at hR
    rw [h0, errV_zero] at hck
    by_cases hp : (P i).data.toList = path.data.toList
    · rw [if_pos hp] at hR
      have hpb := bytes_eq.1 hp
      subst hpb
      replace hR := Lib.hid hR
      replace hck := Lib.hid hck
      clear h0 hp hc hb
      go_enter Tryz.func62, Tryz.ntmps62
      go_wp2_with fail
      refine (hck.out _ hE).mono ?_
      rintro e w1 ⟨rfl, hb⟩
      replace hB := below_step hB hb
      replace hE := hE.below hb
      replace d0 := Below.cell_some hb d0
      replace y0 := Below.cell_some hb y0
      clear hb
      have g3 := hE.errs.var 3 h3
      simp only [errG] at g3
      go_wp2_with fail
      go_ret
      rw [hR.out]
      exact ⟨rfl, hB⟩
    · rw [if_neg hp] at hR
      have hp1 : ((P i).toList == path.toList) = false := by rw [toList_data, toList_data]; exact beq_eq_false_iff_ne.2 hp
      have hp2 : (P i).toList ≠ path.toList := by rw [toList_data, toList_data]; exact hp
      have hp3 : P i ≠ path := fun e => hp (by rw [e])
      by_cases hi0 : i = 0
      · subst hi0
        rw [if_neg (by omega)] at hR
        simp only [Nat.zero_mul, Nat.add_zero] at c1 c2
        replace hR := Lib.hid hR
        replace hck := Lib.hid hck
        clear h0 hp hc hb
        go_enter Tryz.func62, Tryz.ntmps62
        go_wp2_with fail
        refine (hck.out _ hE).mono ?_
        rintro e w1 ⟨rfl, hb⟩
        replace hB := below_step hB hb
        replace hE := hE.below hb
        replace d0 := Below.cell_some hb d0
        replace y0 := Below.cell_some hb y0
        clear hb
        go_wp2_with fail
        go_region
        all_goals
          go_wp2_with fail
          go_ret
          rw [hR.out]
          exact ⟨rfl, hB.drew⟩
      · obtain ⟨k, rfl⟩ : ∃ k, i = k + 1 := ⟨i - 1, by omega⟩
        rw [Nat.add_sub_cancel, mdAt_mdF (show k < n by omega)] at hR
        have hle := leq_eq (P (k + 1)) (P k)
        have hk0 : (0 : Int) < ((k + 1 : Nat) : Int) := by omega
        have hk1 : ((k + 1 : Nat) : Int) - 1 = (k : Int) := by omega
        have hkw := wrap_nat k (by omega)
        have hkn : k < n := by omega
        have hkn2 : (k : Int) < (n : Int) := by omega
        obtain ⟨b2, o2, e1, c3, _⟩ := hc k (by omega)
        injection e1 with e1
        injection e1 with e1 e2
        subst e1 e2
        have d3 := Below.cell_some hb c3
        by_cases hc0 : compareBytes (P (k + 1)).data.toList (P k).data.toList ≤ 0
        · rw [if_pos ⟨Nat.succ_pos k, hc0⟩] at hR
          rw [decide_eq_true hc0] at hle
          replace hR := Lib.hid hR
          replace hck := Lib.hid hck
          clear h0 hp hc hb hc0 c3
          go_enter Tryz.func62, Tryz.ntmps62
          go_wp2_with fail
          refine (hck.out _ hE).mono ?_
          rintro e w1 ⟨rfl, hb⟩
          replace hB := below_step hB hb
          replace hE := hE.below hb
          replace d0 := Below.cell_some hb d0
          replace d1 := Below.cell_some hb d1
          replace d3 := Below.cell_some hb d3
          replace y0 := Below.cell_some hb y0
          clear hb
          go_wp2_with fail
          have k0 := fun d os => cell_patch (d := d) (os := os) y0
          have k1 := fun d os => cell_patch (d := d) (os := os) d1
          have k3 := fun d os => cell_patch (d := d) (os := os) d3
          clear y0 d1 d3 d0
          refine wp_region_quiet_patch (by kernel_rfl) (by kernel_rfl) ?_
          repeat (quiet_step (fail))
          refine wpQuiet_nil ?_
          intro _ hw'
          obtain ⟨⟨dq, osq⟩, hw''⟩ := hw'
          subst hw''
          have hb := below_patch w1 dq osq
          replace hB := below_step hB hb
          replace hE := hE.below hb
          clear hb
          generalize patch w1 dq osq = w2 at hB hE ⊢
          have g8 := hE.errs.var 8 h8
          simp only [errG] at g8
          go_wp2_with fail
          go_ret
          rw [hR.out]
          exact ⟨rfl, hB⟩
        · rw [if_neg (fun h => hc0 h.2)] at hR
          rw [decide_eq_false hc0] at hle
          replace hR := Lib.hid hR
          replace hck := Lib.hid hck
          clear h0 hp hc hb hc0 c3
          go_enter Tryz.func62, Tryz.ntmps62
          go_wp2_with fail
          refine (hck.out _ hE).mono ?_
          rintro e w1 ⟨rfl, hb⟩
          replace hB := below_step hB hb
          replace hE := hE.below hb
          replace d0 := Below.cell_some hb d0
          replace d1 := Below.cell_some hb d1
          replace d3 := Below.cell_some hb d3
          replace y0 := Below.cell_some hb y0
          clear hb
          go_wp2_with fail
          have k0 := fun d os => cell_patch (d := d) (os := os) y0
          have k1 := fun d os => cell_patch (d := d) (os := os) d1
          have k3 := fun d os => cell_patch (d := d) (os := os) d3
          clear y0 d1 d3 d0
          refine wp_region_quiet_patch (by kernel_rfl) (by kernel_rfl) ?_
          repeat (quiet_step (fail))
          refine wpQuiet_nil ?_
          intro _ hw'
          obtain ⟨⟨dq, osq⟩, hw''⟩ := hw'
          subst hw''
          have hb := below_patch w1 dq osq
          replace hB := below_step hB hb
          clear hb
          generalize patch w1 dq osq = w2 at hB ⊢
          go_wp2_with fail
          go_ret
          rw [hR.out]
          exact ⟨rfl, hB⟩
  · rw [if_pos h0] at hR
    rw [errV_pos A h0] at hck
    have HF : Hid (errV A (reqE path.data.toList (mdF n P V) i) = .iface 283 (.pointer (some (A (modErr (P i).data.toList (V i).data.toList))))) := Lib.hid (by rw [hR]; exact errV_pos A h0)
    replace hck := Lib.hid hck
    clear hc hb hR
    go_enter Tryz.func62, Tryz.ntmps62
    go_wp2_with fail
    refine (hck.out _ hE).mono ?_
    rintro e w1 ⟨rfl, hb⟩
    replace hB := below_step hB hb
    clear hb
    go_wp2_with fail
    go_ret
    rw [HF.out]
    exact ⟨rfl, hB⟩

set_option maxHeartbeats 2000000 in
set_option maxRecDepth 100000 in
/-- an exclusion's test -/
theorem fileCheck2_calls (ks : List Nat) (A : Nat → Addr) (h4 : 4 ∈ ks) (h8 : 8 ∈ ks) (b : Nat) (pv rv : Value) (a : Option Addr) (n cap : Nat) (P V : Nat → ByteArray) (i : Nat) (w : World) (hE : EnvP ks A w) (hi : i < n)
    (hx : Box3 w b pv rv (.slice a n cap)) (hc : ∀ j, j < n → ∃ b o, a = some ⟨b, o, none⟩ ∧ w.cell? ⟨b, o + j * 2, none⟩ = some (.string (P j)) ∧ w.cell? ⟨b, o + j * 2 + 1, none⟩ = some (.string (V j))) (hn : n ≤ 1000000)
    (hP : ∀ j, j < n → (P j).size ≤ 1000000 ∧ (V j).size ≤ 1000000) :
    Calls Tryz.prog 64 #[.int .i64 i, .pointer (some ⟨b, 0, none⟩)] w fun e w' => e = .returned (errV A (excE (mdF n P V) i)) ∧ Below w.heap.size w w' := by
  have hR : excE (mdF n P V) i = if modErr (P i).data.toList (V i).data.toList ≠ 0 then modErr (P i).data.toList (V i).data.toList else if 0 < i ∧ modAhead (mdAt (mdF n P V) (i - 1)) ((P i).data.toList, (V i).data.toList) = false then 8 else 0 := by
    unfold excE
    rw [mdAt_mdF hi]; rfl
  obtain ⟨b1, o1, rfl, c1, c2⟩ := hc i hi
  obtain ⟨z0, z1, z2⟩ := hx
  have hck := fun W hW => modCheck_calls ks A h4 (P i) (V i) W hW (by have := (hP i hi).1; omega) (by have := (hP i hi).2; omega)
  have hB := Below.refl w.heap.size w
  by_cases h0 : modErr (P i).data.toList (V i).data.toList = 0
  · rw [if_neg (by simp [h0])] at hR
    rw [h0, errV_zero] at hck
    by_cases hi0 : i = 0
    · subst hi0
      rw [if_neg (by omega)] at hR
      simp only [Nat.zero_mul, Nat.add_zero] at c1 c2
      replace hR := Lib.hid hR
      replace hck := Lib.hid hck
      clear h0 hc
      go_enter Tryz.func64, Tryz.ntmps64
      go_wp2_with fail
      refine (hck.out _ hE).mono ?_
      rintro e w1 ⟨rfl, hb⟩
      replace hB := below_step hB hb
      replace hE := hE.below hb
      replace z2 := Below.cell_some hb z2
      clear hb
      go_wp2_with fail
      go_region
      all_goals
        go_wp2_with fail
        go_ret
        rw [hR.out]
        exact ⟨rfl, hB.drew⟩
    · obtain ⟨k, rfl⟩ : ∃ k, i = k + 1 := ⟨i - 1, by omega⟩
      rw [Nat.add_sub_cancel, mdAt_mdF (show k < n by omega)] at hR
      have hk0 : (0 : Int) < ((k + 1 : Nat) : Int) := by omega
      have hk1 : ((k + 1 : Nat) : Int) - 1 = (k : Int) := by omega
      have hkw := wrap_nat k (by omega)
      have hkn : k < n := by omega
      have hkn2 : (k : Int) < (n : Int) := by omega
      have hkn3 : (k : Int) + 1 < (n : Int) := by omega
      have hkn4 : ((k : Int) + 1).toNat = k + 1 := by omega
      have hkn5 : (0 : Int) ≤ (k : Int) + 1 := by omega
      have hkn6 : ¬ ((k : Int) + 1 < 0) := by omega
      obtain ⟨b2, o2, e1, c3, c4⟩ := hc k (by omega)
      injection e1 with e1
      injection e1 with e1 e2
      subst e1 e2
      have hah := fun W hW => modAhead_calls ks A (P k) (V k) (P (k + 1)) (V (k + 1)) W hW (by have := (hP k hkn).2; omega) (by have := (hP (k + 1) hi).2; omega)
      cases hX : modAhead ((P k).data.toList, (V k).data.toList) ((P (k + 1)).data.toList, (V (k + 1)).data.toList) with
      | true =>
        rw [hX] at hah
        rw [if_neg (fun h => by rw [hX] at h; cases h.2)] at hR
        replace hR := Lib.hid hR
        replace hck := Lib.hid hck
        replace hah := Lib.hid hah
        clear h0 hc hX
        go_enter Tryz.func64, Tryz.ntmps64
        go_wp2_with fail
        refine (hck.out _ hE).mono ?_
        rintro e w1 ⟨rfl, hb⟩
        replace hB := below_step hB hb
        replace hE := hE.below hb
        replace z2 := Below.cell_some hb z2
        replace c1 := Below.cell_some hb c1
        replace c2 := Below.cell_some hb c2
        replace c3 := Below.cell_some hb c3
        replace c4 := Below.cell_some hb c4
        clear hb
        go_wp2_with fail
        have k1 := fun d os => cell_patch (d := d) (os := os) c1
        have k2 := fun d os => cell_patch (d := d) (os := os) c2
        have k3 := fun d os => cell_patch (d := d) (os := os) c3
        have k4 := fun d os => cell_patch (d := d) (os := os) c4
        have k5 := fun d os => cell_patch (d := d) (os := os) z2
        have kE := Lib.hid (fun d os => hE.below (below_patch w1 d os))
        clear c1 c2 c3 c4 z2
        refine wp_region_quiet_patch (by kernel_rfl) (by kernel_rfl) ?_
        repeat (quiet_step ((go_at_call 65; with_reducible exact Calls.patch_of (hah.out _ (kE.out _ _)))))
        refine wpQuiet_nil ?_
        intro _ hw'
        obtain ⟨⟨dq, osq⟩, hw''⟩ := hw'
        subst hw''
        have hb := below_patch w1 dq osq
        replace hB := below_step hB hb
        replace hE := hE.below hb
        clear hb
        generalize patch w1 dq osq = w2 at hB hE ⊢
        go_wp2_with fail
        go_ret
        rw [hR.out]
        exact ⟨rfl, hB⟩
      | false =>
        rw [hX] at hah
        rw [if_pos ⟨Nat.succ_pos k, hX⟩] at hR
        replace hR := Lib.hid hR
        replace hck := Lib.hid hck
        replace hah := Lib.hid hah
        clear h0 hc hX
        go_enter Tryz.func64, Tryz.ntmps64
        go_wp2_with fail
        refine (hck.out _ hE).mono ?_
        rintro e w1 ⟨rfl, hb⟩
        replace hB := below_step hB hb
        replace hE := hE.below hb
        replace z2 := Below.cell_some hb z2
        replace c1 := Below.cell_some hb c1
        replace c2 := Below.cell_some hb c2
        replace c3 := Below.cell_some hb c3
        replace c4 := Below.cell_some hb c4
        clear hb
        go_wp2_with fail
        have k1 := fun d os => cell_patch (d := d) (os := os) c1
        have k2 := fun d os => cell_patch (d := d) (os := os) c2
        have k3 := fun d os => cell_patch (d := d) (os := os) c3
        have k4 := fun d os => cell_patch (d := d) (os := os) c4
        have k5 := fun d os => cell_patch (d := d) (os := os) z2
        have kE := Lib.hid (fun d os => hE.below (below_patch w1 d os))
        clear c1 c2 c3 c4 z2
        refine wp_region_quiet_patch (by kernel_rfl) (by kernel_rfl) ?_
        repeat (quiet_step ((go_at_call 65; with_reducible exact Calls.patch_of (hah.out _ (kE.out _ _)))))
        refine wpQuiet_nil ?_
        intro _ hw'
        obtain ⟨⟨dq, osq⟩, hw''⟩ := hw'
        subst hw''
        have hb := below_patch w1 dq osq
        replace hB := below_step hB hb
        replace hE := hE.below hb
        clear hb
        generalize patch w1 dq osq = w2 at hB hE ⊢
        have g8 := hE.errs.var 8 h8
        simp only [errG] at g8
        go_wp2_with fail
        go_ret
        rw [hR.out]
        exact ⟨rfl, hB⟩
  · rw [if_pos h0] at hR
    rw [errV_pos A h0] at hck
    have HF : Hid (errV A (excE (mdF n P V) i) = .iface 283 (.pointer (some (A (modErr (P i).data.toList (V i).data.toList))))) := Lib.hid (by rw [hR]; exact errV_pos A h0)
    replace hck := Lib.hid hck
    clear hc hR
    go_enter Tryz.func64, Tryz.ntmps64
    go_wp2_with fail
    refine (hck.out _ hE).mono ?_
    rintro e w1 ⟨rfl, hb⟩
    replace hB := below_step hB hb
    clear hb
    go_wp2_with fail
    go_ret
    rw [HF.out]
    exact ⟨rfl, hB⟩

/-! ### is a module in a list -/
theorem bytes_pair {p v q u : ByteArray} : ((p.data.toList, v.data.toList) : Md) = (q.data.toList, u.data.toList) ↔ p = q ∧ v = u :=
  ⟨fun e => ⟨bytes_eq.1 (Prod.ext_iff.1 e).1, bytes_eq.1 (Prod.ext_iff.1 e).2⟩, fun e => by rw [e.1, e.2]⟩
set_option maxHeartbeats 1000000 in
set_option maxRecDepth 100000 in
theorem indexM_calls (a : Option Addr) (n cap : Nat) (P V : Nat → ByteArray) (p q : ByteArray) (w : World) (hn : n ≤ 1000000)
    (hc : ∀ j, j < n → ∃ b o, a = some ⟨b, o, none⟩ ∧ w.cell? ⟨b, o + j * 2, none⟩ = some (.string (P j)) ∧ w.cell? ⟨b, o + j * 2 + 1, none⟩ = some (.string (V j))) :
    Calls Tryz.prog 128 #[.slice a n cap, .agg #[.string p, .string q]] w fun e w' => e = .returned (.int .i64 (findI (fun m : Md => decide (m = (p.data.toList, q.data.toList))) (mdF n P V))) ∧ Below w.heap.size w w' := by
  have hB := below_alloc w (.cells #[.string p, .string q] 26)
  have hz := box2_alloc w (.string p) (.string q) 26
  have hg := Tryz.md_guard
  have hql := md_eql
  replace hc := Lib.hid hc
  replace hB := Lib.hid hB
  go_enter Tryz.func128, Tryz.ntmps128
  go_wp2_with fail
  generalize hw1 : w.alloc (.cells #[.string p, .string q] 26) = w1 at hB hz ⊢
  go_loopw [8] (fun i wr => ∃ k : Nat, k ≤ n ∧ i = .int .i64 k ∧ Below w1.heap.size w1 wr ∧ Hid (∀ j, j < k → ¬ (P j = p ∧ V j = q))) (fun i _ => n - (intOf i).toNat)
  case atStart => exact ⟨0, Nat.zero_le _, rfl, Below.refl _ _, Lib.hid (fun j hj => absurd hj (Nat.not_lt_zero _))⟩
  case round =>
    obtain ⟨k, hk, rfl, hb, HA⟩ := hrel
    have hBw := below_step hB.out hb
    by_cases hlt : k < n
    · obtain ⟨b1, o1, rfl, c1, c2⟩ := hc.out k hlt
      replace c1 := Below.cell_some hBw c1
      replace c2 := Below.cell_some hBw c2
      obtain ⟨z0, z1, _⟩ := hz.below hb
      by_cases he : p = P k ∧ q = V k
      · have HF : Hid (findI (fun m : Md => decide (m = (p.data.toList, q.data.toList))) (mdF n P V) = k) := Lib.hid (findI_hit (mdF_get n P V k hlt) (by rw [he.1, he.2]; simp) (fun j y hj hy => by
          rw [mdF_get n P V j (by omega)] at hy
          cases hy
          exact decide_eq_false (fun e => HA.out j hj (bytes_pair.1 e))))
        have hd := decide_eq_true he
        clear he
        go_wp2_with fail
        go_region
        all_goals
          go_wp2_with fail
          go_ret
          rw [HF.out]
          exact ⟨rfl, hBw.drew⟩
      · have HN : Hid (∀ j, j < k + 1 → ¬ (P j = p ∧ V j = q)) := Lib.hid (fun j hj => by
          by_cases e : j = k
          · subst e; exact fun h => he ⟨h.1.symm, h.2.symm⟩
          · exact HA.out j (by omega))
        have hd := decide_eq_false he
        clear he
        go_wp2_with fail
        go_region
        all_goals
          go_wp2_with fail
          go_roundw
          case rel => exact ⟨k + 1, by omega, by go_num, hb.drew, HN⟩
          case measure => simp [intOf]; omega
    · obtain rfl : k = n := by omega
      have HF : Hid (findI (fun m : Md => decide (m = (p.data.toList, q.data.toList))) (mdF k P V) = -1) := Lib.hid (findI_none (fun j y hy => by
        have hj : j < k := by have := (List.getElem?_eq_some_iff.1 hy).1; rwa [mdF_length] at this
        rw [mdF_get k P V j hj] at hy
        cases hy
        exact decide_eq_false (fun e => HA.out j hj (bytes_pair.1 e))))
      go_wp2_with fail
      go_ret
      rw [HF.out]
      exact ⟨rfl, hBw⟩

theorem containsM_calls (a : Option Addr) (n cap : Nat) (P V : Nat → ByteArray) (p q : ByteArray) (w : World) (hn : n ≤ 1000000)
    (hc : ∀ j, j < n → ∃ b o, a = some ⟨b, o, none⟩ ∧ w.cell? ⟨b, o + j * 2, none⟩ = some (.string (P j)) ∧ w.cell? ⟨b, o + j * 2 + 1, none⟩ = some (.string (V j))) :
    Calls Tryz.prog 67 #[.slice a n cap, .agg #[.string p, .string q]] w fun e w' => e = .returned (.bool (decide ((p.data.toList, q.data.toList) ∈ mdF n P V))) ∧ Below w.heap.size w w' := by
  have hB := below_alloc w (.cells #[.string p, .string q] 26)
  have hi := indexM_calls a n cap P V p q (w.alloc (.cells #[.string p, .string q] 26)) hn (fun j hj => let ⟨b, o, e, h1, h2⟩ := hc j hj; ⟨b, o, e, Below.cell_some hB h1, Below.cell_some hB h2⟩)
  have hd : decide ((p.data.toList, q.data.toList) ∈ mdF n P V) = decide (0 ≤ findI (fun m : Md => decide (m = (p.data.toList, q.data.toList))) (mdF n P V)) := by
    rw [decide_eq_decide]
    constructor
    · intro h
      obtain ⟨k, hk⟩ := List.getElem?_of_mem h
      rcases Int.lt_or_le (findI (fun m : Md => decide (m = (p.data.toList, q.data.toList))) (mdF n P V)) 0 with h0 | h0
      · exfalso
        unfold findI at h0
        split at h0
        · omega
        · rename_i hno
          rw [List.findIdx?_eq_none_iff] at hno
          have := hno _ h
          simp at this
      · exact h0
    · intro h
      unfold findI at h
      split at h
      · rename_i k hk
        rw [List.findIdx?_eq_some_iff_getElem] at hk
        obtain ⟨hk1, hk2, _⟩ := hk
        have := of_decide_eq_true hk2
        rw [← this]
        exact List.getElem_mem hk1
      · omega
  generalize findI (fun m : Md => decide (m = (p.data.toList, q.data.toList))) (mdF n P V) = x at hi hd
  have HD := Lib.hid hd
  replace hi := Lib.hid hi
  clear hd hc
  go_enter Tryz.func67, Tryz.ntmps67
  go_wp2_with fail
  refine hi.out.mono ?_
  rintro e w1 ⟨rfl, hb⟩
  go_wp2_with fail
  go_ret
  rw [HD.out]
  exact ⟨rfl, below_step hB hb⟩

set_option maxHeartbeats 1000000 in
set_option maxRecDepth 100000 in
/-- a clash's test -/
theorem fileCheck3_calls (ks : List Nat) (A : Nat → Addr) (h9 : 9 ∈ ks) (b : Nat) (pv : Value) (a : Option Addr) (n cap : Nat) (P V : Nat → ByteArray) (a2 : Option Addr) (m cap2 : Nat) (Q U : Nat → ByteArray) (i : Nat) (w : World) (hE : EnvP ks A w) (hi : i < n)
    (hx : Box3 w b pv (.slice a n cap) (.slice a2 m cap2)) (hc : ∀ j, j < n → ∃ b o, a = some ⟨b, o, none⟩ ∧ w.cell? ⟨b, o + j * 2, none⟩ = some (.string (P j)) ∧ w.cell? ⟨b, o + j * 2 + 1, none⟩ = some (.string (V j))) (_hn : n ≤ 1000000)
    (hc2 : ∀ j, j < m → ∃ b o, a2 = some ⟨b, o, none⟩ ∧ w.cell? ⟨b, o + j * 2, none⟩ = some (.string (Q j)) ∧ w.cell? ⟨b, o + j * 2 + 1, none⟩ = some (.string (U j))) (hm : m ≤ 1000000) :
    Calls Tryz.prog 66 #[.int .i64 i, .pointer (some ⟨b, 0, none⟩)] w fun e w' => e = .returned (errV A (claE (mdF n P V) (mdF m Q U) i)) ∧ Below w.heap.size w w' := by
  obtain ⟨b1, o1, rfl, c1, c2⟩ := hc i hi
  obtain ⟨z0, z1, z2⟩ := hx
  have hct := fun W (hb : Below w.heap.size w W) => containsM_calls a2 m cap2 Q U (P i) (V i) W hm (fun j hj => let ⟨b, o, e, h1, h2⟩ := hc2 j hj; ⟨b, o, e, Below.cell_some hb h1, Below.cell_some hb h2⟩)
  have hR : claE (mdF n P V) (mdF m Q U) i = if ((P i).data.toList, (V i).data.toList) ∈ mdF m Q U then 9 else 0 := by
    unfold claE
    rw [mdAt_mdF hi]
  have hB := Below.refl w.heap.size w
  have hk5 : (i : Int) < (n : Int) := by omega
  have k1 := fun d os => cell_patch (d := d) (os := os) c1
  have k2 := fun d os => cell_patch (d := d) (os := os) c2
  have k3 := fun d os => cell_patch (d := d) (os := os) z1
  have k4 := fun d os => cell_patch (d := d) (os := os) z2
  by_cases hin : ((P i).data.toList, (V i).data.toList) ∈ mdF m Q U
  · rw [if_pos hin] at hR
    rw [decide_eq_true hin] at hct
    replace hR := Lib.hid hR
    replace hct := Lib.hid hct
    clear hin hc hc2 c1 c2 z1 z2
    go_enter Tryz.func66, Tryz.ntmps66
    go_wp2_with fail
    refine wp_region_quiet_patch (by kernel_rfl) (by kernel_rfl) ?_
    repeat (quiet_step ((go_at_call 67; with_reducible exact Calls.patch_of (hct.out _ (below_patch _ _ _)))))
    refine wpQuiet_nil ?_
    intro _ hw'
    obtain ⟨⟨dq, osq⟩, hw''⟩ := hw'
    subst hw''
    have hb := below_patch w dq osq
    replace hB := below_step hB hb
    replace hE := hE.below hb
    clear hb
    generalize patch w dq osq = w2 at hB hE ⊢
    have g9 := hE.errs.var 9 h9
    simp only [errG] at g9
    go_wp2_with fail
    go_ret
    rw [hR.out]
    exact ⟨rfl, hB⟩
  · rw [if_neg hin] at hR
    rw [decide_eq_false hin] at hct
    replace hR := Lib.hid hR
    replace hct := Lib.hid hct
    clear hin hc hc2 c1 c2 z1 z2
    go_enter Tryz.func66, Tryz.ntmps66
    go_wp2_with fail
    refine wp_region_quiet_patch (by kernel_rfl) (by kernel_rfl) ?_
    repeat (quiet_step ((go_at_call 67; with_reducible exact Calls.patch_of (hct.out _ (below_patch _ _ _)))))
    refine wpQuiet_nil ?_
    intro _ hw'
    obtain ⟨⟨dq, osq⟩, hw''⟩ := hw'
    subst hw''
    have hb := below_patch w dq osq
    replace hB := below_step hB hb
    replace hE := hE.below hb
    clear hb
    generalize patch w dq osq = w2 at hB hE ⊢
    go_wp2_with fail
    go_ret
    rw [hR.out]
    exact ⟨rfl, hB⟩
end Go.Proofs.Pw

/- file.Check. Conditions: texts of at most 1000000 bytes, lists of at most 1000000. -/
namespace Go.Proofs.Pw
open Go.RowKit
open Go.Lib hiding intOf

/-- which sentinels package file asks for -/
def FileKs (ks : List Nat) : Prop := 3 ∈ ks ∧ 4 ∈ ks ∧ 5 ∈ ks ∧ 7 ∈ ks ∧ 8 ∈ ks ∧ 9 ∈ ks
/-- a list of modules whose texts are short -/
def Short (l : List Md) : Prop := l.length ≤ 1000000 ∧ ∀ m ∈ l, m.1.length ≤ 1000000 ∧ m.2.length ≤ 1000000
theorem short_F {n : Nat} {P V : Nat → ByteArray} (h : Short (mdF n P V)) : n ≤ 1000000 ∧ ∀ j, j < n → (P j).size ≤ 1000000 ∧ (V j).size ≤ 1000000 := by
  refine ⟨by have := h.1; rwa [mdF_length] at this, fun j hj => ?_⟩
  have := h.2 _ (List.mem_of_getElem? (mdF_get n P V j hj))
  rw [size_eq, size_eq]
  exact this
theorem Tryz.enters_fck1 : ∀ args w, (callFunc 62 args).run Tryz.prog w = .ok (.enter 62 args) w := Go.Proofs.enters_of Tryz.func62 (by kernel_rfl) rfl
theorem Tryz.enters_fck2 : ∀ args w, (callFunc 64 args).run Tryz.prog w = .ok (.enter 64 args) w := Go.Proofs.enters_of Tryz.func64 (by kernel_rfl) rfl
theorem Tryz.enters_fck3 : ∀ args w, (callFunc 66 args).run Tryz.prog w = .ok (.enter 66 args) w := Go.Proofs.enters_of Tryz.func66 (by kernel_rfl) rfl


set_option maxHeartbeats 2000000 in
set_option maxRecDepth 100000 in
theorem fileCheck_calls (ks : List Nat) (A : Nat → Addr) (hks : FileKs ks) (path : ByteArray) (rv xv : Value) (reqs excl : List Md) (w : World) (hE : EnvP ks A w) (hr : ModsAt w rv reqs) (hx : ModsAt w xv excl) (hp : path.size ≤ 1000000) (hsr : Short reqs) (hsx : Short excl) :
    Calls Tryz.prog 16 #[.agg #[.string path, rv, xv]] w fun e w' => (∃ v, e = .returned v ∧ FaultAt A w' v (fileErr ⟨path.data.toList, reqs, excl⟩)) ∧ Below w.heap.size w w' := by
  obtain ⟨a, n, cap, P, V, rfl, rfl, hnc, hcap, hc⟩ := hr
  obtain ⟨a2, m, cap2, Q, U, rfl, rfl, hmc, hcap2, hc2⟩ := hx
  obtain ⟨hn, hPV⟩ := short_F hsr
  obtain ⟨hm, hQU⟩ := short_F hsx
  obtain ⟨k3, k4, k5, k7, k8, k9⟩ := hks
  have hB := below_alloc w (.cells #[.string path, .slice a n cap, .slice a2 m cap2] 24)
  have hz := box3_alloc w (.string path) (.slice a n cap) (.slice a2 m cap2) 24
  have hpa := fun W hW => path_calls ks A k4 path W hW (by omega)
  have hfe : fileErr ⟨path.data.toList, mdF n P V, mdF m Q U⟩ = if pathErr path.data.toList ≠ 0 then (pathErr path.data.toList, -1) else if 20 < n ∨ 20 < m then (7, -1) else orE (firstE (reqE path.data.toList (mdF n P V)) n) (orE (firstE (excE (mdF m Q U)) m) (firstE (claE (mdF n P V) (mdF m Q U)) n)) := by
    unfold fileErr
    simp only [mdF_length]
  have ht1 : ∀ W, Below w.heap.size w W → Box3 W w.heap.size (.string path) (.slice a n cap) (.slice a2 m cap2) → EnvP ks A W → ∀ i : Nat, i < n → Calls Tryz.prog 62 (#[.int .i64 i] ++ #[.pointer (some ⟨w.heap.size, 0, none⟩)]) W fun e' w'' => e' = .returned (errV A (reqE path.data.toList (mdF n P V) i)) ∧ Below W.heap.size W w'' :=
    fun W hb hz hE i hi => fileCheck1_calls ks A k4 k3 k8 w.heap.size path a n cap P V (.slice a2 m cap2) i W hE hi hz (fun j hj => let ⟨b, o, e, h1, h2⟩ := hc j hj; ⟨b, o, e, Below.cell_some hb h1, Below.cell_some hb h2⟩) hn hPV
  have ht2 : ∀ W, Below w.heap.size w W → Box3 W w.heap.size (.string path) (.slice a n cap) (.slice a2 m cap2) → EnvP ks A W → ∀ i : Nat, i < m → Calls Tryz.prog 64 (#[.int .i64 i] ++ #[.pointer (some ⟨w.heap.size, 0, none⟩)]) W fun e' w'' => e' = .returned (errV A (excE (mdF m Q U) i)) ∧ Below W.heap.size W w'' :=
    fun W hb hz hE i hi => fileCheck2_calls ks A k4 k8 w.heap.size (.string path) (.slice a n cap) a2 m cap2 Q U i W hE hi hz (fun j hj => let ⟨b, o, e, h1, h2⟩ := hc2 j hj; ⟨b, o, e, Below.cell_some hb h1, Below.cell_some hb h2⟩) hm hQU
  have ht3 : ∀ W, Below w.heap.size w W → Box3 W w.heap.size (.string path) (.slice a n cap) (.slice a2 m cap2) → EnvP ks A W → ∀ i : Nat, i < n → Calls Tryz.prog 66 (#[.int .i64 i] ++ #[.pointer (some ⟨w.heap.size, 0, none⟩)]) W fun e' w'' => e' = .returned (errV A (claE (mdF n P V) (mdF m Q U) i)) ∧ Below W.heap.size W w'' :=
    fun W hb hz hE i hi => fileCheck3_calls ks A k9 w.heap.size (.string path) a n cap P V a2 m cap2 Q U i W hE hi hz (fun j hj => let ⟨b, o, e, h1, h2⟩ := hc j hj; ⟨b, o, e, Below.cell_some hb h1, Below.cell_some hb h2⟩) hn (fun j hj => let ⟨b, o, e, h1, h2⟩ := hc2 j hj; ⟨b, o, e, Below.cell_some hb h1, Below.cell_some hb h2⟩) hm
  have he1 := fun W (hb : Below w.heap.size w W) (hz : Box3 W w.heap.size (.string path) (.slice a n cap) (.slice a2 m cap2)) (hE : EnvP ks A W) => each_calls 62 #[.pointer (some ⟨w.heap.size, 0, none⟩)] Tryz.enters_fck1 A (reqE path.data.toList (mdF n P V)) a n cap W.heap.size W hn (Nat.le_refl _) (fun W' hb' i hi => ht1 W' (below_step hb hb') (hz.below hb') (hE.below hb') i hi)
  have he2 := fun W (hb : Below w.heap.size w W) (hz : Box3 W w.heap.size (.string path) (.slice a n cap) (.slice a2 m cap2)) (hE : EnvP ks A W) => each_calls 64 #[.pointer (some ⟨w.heap.size, 0, none⟩)] Tryz.enters_fck2 A (excE (mdF m Q U)) a2 m cap2 W.heap.size W hm (Nat.le_refl _) (fun W' hb' i hi => ht2 W' (below_step hb hb') (hz.below hb') (hE.below hb') i hi)
  have he3 := fun W (hb : Below w.heap.size w W) (hz : Box3 W w.heap.size (.string path) (.slice a n cap) (.slice a2 m cap2)) (hE : EnvP ks A W) => each_calls 66 #[.pointer (some ⟨w.heap.size, 0, none⟩)] Tryz.enters_fck3 A (claE (mdF n P V) (mdF m Q U)) a n cap W.heap.size W hn (Nat.le_refl _) (fun W' hb' i hi => ht3 W' (below_step hb hb') (hz.below hb') (hE.below hb') i hi)
  generalize firstE (reqE path.data.toList (mdF n P V)) n = r1 at he1 hfe
  generalize firstE (excE (mdF m Q U)) m = r2 at he2 hfe
  generalize firstE (claE (mdF n P V) (mdF m Q U)) n = r3 at he3 hfe
  replace hE := hE.below hB
  have HFE := Lib.hid hfe
  replace he1 := Lib.hid he1
  replace he2 := Lib.hid he2
  replace he3 := Lib.hid he3
  clear ht1 ht2 ht3 hfe hc hc2 hPV hQU hsr hsx
  by_cases h0 : pathErr path.data.toList = 0
  · rw [h0, errV_zero] at hpa
    have H0 := Lib.hid h0
    by_cases hbig : 20 < n ∨ 20 < m
    · have HF : Hid (fileErr ⟨path.data.toList, mdF n P V, mdF m Q U⟩ = (7, -1)) := Lib.hid (by rw [HFE.out, if_neg (by simp [h0]), if_pos hbig])
      have HR : Hid (∀ W, FaultAt A W (errV A 7) (7, -1)) := Lib.hid (fun W => .inr (.inl ⟨by decide, rfl, rfl⟩))
      rw [errV_pos A (c := 7) (by decide)] at HR
      replace hpa := Lib.hid hpa
      clear h0 he1 he2 he3
      by_cases hn20 : 20 < n
      · have hn20' : (20 : Int) < (n : Int) := by omega
        clear hbig
        go_enter Tryz.func16, Tryz.ntmps16
        obtain ⟨z0, z1, z2⟩ := id hz
        go_wp2_with fail
        refine (hpa.out _ hE).mono ?_
        rintro e w1 ⟨rfl, hb⟩
        replace hB := below_step hB hb
        replace hE := hE.below hb
        replace hz := hz.below hb
        clear hb
        obtain ⟨z0, z1, z2⟩ := id hz
        have g7 := hE.errs.var 7 k7
        simp only [errG] at g7
        go_wp2_with fail
        go_ret
        rw [HF.out]
        exact ⟨⟨_, rfl, HR.out _⟩, hB⟩
      · have hn20' : ¬ (20 : Int) < (n : Int) := by omega
        have hm20' : (20 : Int) < (m : Int) := by omega
        clear hbig
        go_enter Tryz.func16, Tryz.ntmps16
        obtain ⟨z0, z1, z2⟩ := id hz
        go_wp2_with fail
        refine (hpa.out _ hE).mono ?_
        rintro e w1 ⟨rfl, hb⟩
        replace hB := below_step hB hb
        replace hE := hE.below hb
        replace hz := hz.below hb
        clear hb
        obtain ⟨z0, z1, z2⟩ := id hz
        have g7 := hE.errs.var 7 k7
        simp only [errG] at g7
        go_wp2_with fail
        go_ret
        rw [HF.out]
        exact ⟨⟨_, rfl, HR.out _⟩, hB⟩
    · have hn20' : ¬ (20 : Int) < (n : Int) := by omega
      have hm20' : ¬ (20 : Int) < (m : Int) := by omega
      have HF1 : Hid (fileErr ⟨path.data.toList, mdF n P V, mdF m Q U⟩ = orE r1 (orE r2 r3)) := Lib.hid (by rw [HFE.out, if_neg (by simp [h0]), if_neg hbig])
      replace hpa := Lib.hid hpa
      clear h0 hbig HFE
      go_enter Tryz.func16, Tryz.ntmps16
      obtain ⟨z0, z1, z2⟩ := id hz
      go_wp2_with fail
      refine (hpa.out _ hE).mono ?_
      rintro e w1 ⟨rfl, hb⟩
      replace hB := below_step hB hb
      replace hE := hE.below hb
      replace hz := hz.below hb
      clear hb
      obtain ⟨z0, z1, z2⟩ := id hz
      go_wp2_with fail
      refine (he1.out _ hB hz hE).mono ?_
      rintro e w2 ⟨⟨v, rfl, hF⟩, hb⟩
      replace hB := below_step hB hb
      replace hE := hE.below hb
      replace hz := hz.below hb
      clear hb
      obtain ⟨z0, z1, z2⟩ := id hz
      rcases hF with ⟨h1, h2, rfl⟩ | ⟨h1, h2, rfl⟩ | ⟨h1, bb, rfl, c3, c4⟩
      rotate_left
      ·
        have HF : Hid (fileErr ⟨path.data.toList, mdF n P V, mdF m Q U⟩ = r1) := Lib.hid (by rw [HF1.out]; unfold orE; rw [if_pos h1])
        have HR := Lib.hid (show FaultAt A w2 (errV A r1.1) r1 from .inr (.inl ⟨h1, h2, rfl⟩))
        rw [errV_pos A h1] at HR ⊢
        go_wp2_with fail
        go_ret
        rw [HF.out]
        exact ⟨⟨_, rfl, HR.out⟩, hB⟩
      ·
        have HF : Hid (fileErr ⟨path.data.toList, mdF n P V, mdF m Q U⟩ = r1) := Lib.hid (by rw [HF1.out]; unfold orE; rw [if_pos h1])
        have HR := Lib.hid (show FaultAt A w2 (.iface 102 (.pointer (some ⟨bb, 0, none⟩))) r1 from .inr (.inr ⟨h1, bb, rfl, c3, c4⟩))
        clear c3 c4
        go_wp2_with fail
        go_ret
        rw [HF.out]
        exact ⟨⟨_, rfl, HR.out⟩, hB⟩
      have HF2 : Hid (fileErr ⟨path.data.toList, mdF n P V, mdF m Q U⟩ = orE r2 r3) := Lib.hid (by rw [HF1.out]; unfold orE; rw [if_neg (by simp [h1])])
      clear h1 h2 HF1 he1
      go_wp2_with fail
      refine (he2.out _ hB hz hE).mono ?_
      rintro e w2 ⟨⟨v, rfl, hF⟩, hb⟩
      replace hB := below_step hB hb
      replace hE := hE.below hb
      replace hz := hz.below hb
      clear hb
      obtain ⟨z0, z1, z2⟩ := id hz
      rcases hF with ⟨h1, h2, rfl⟩ | ⟨h1, h2, rfl⟩ | ⟨h1, bb, rfl, c3, c4⟩
      rotate_left
      ·
        have HF : Hid (fileErr ⟨path.data.toList, mdF n P V, mdF m Q U⟩ = r2) := Lib.hid (by rw [HF2.out]; unfold orE; rw [if_pos h1])
        have HR := Lib.hid (show FaultAt A w2 (errV A r2.1) r2 from .inr (.inl ⟨h1, h2, rfl⟩))
        rw [errV_pos A h1] at HR ⊢
        go_wp2_with fail
        go_ret
        rw [HF.out]
        exact ⟨⟨_, rfl, HR.out⟩, hB⟩
      ·
        have HF : Hid (fileErr ⟨path.data.toList, mdF n P V, mdF m Q U⟩ = r2) := Lib.hid (by rw [HF2.out]; unfold orE; rw [if_pos h1])
        have HR := Lib.hid (show FaultAt A w2 (.iface 102 (.pointer (some ⟨bb, 0, none⟩))) r2 from .inr (.inr ⟨h1, bb, rfl, c3, c4⟩))
        clear c3 c4
        go_wp2_with fail
        go_ret
        rw [HF.out]
        exact ⟨⟨_, rfl, HR.out⟩, hB⟩
      have HF3 : Hid (fileErr ⟨path.data.toList, mdF n P V, mdF m Q U⟩ = r3) := Lib.hid (by rw [HF2.out]; unfold orE; rw [if_neg (by simp [h1])])
      clear h1 h2 HF2 he2
      go_wp2_with fail
      refine (he3.out _ hB hz hE).mono ?_
      rintro e w3 ⟨⟨v, rfl, hF⟩, hb⟩
      have HX := Lib.hid hF
      clear hF
      go_wp2_with fail
      go_ret
      rw [HF3.out]
      exact ⟨⟨_, rfl, HX.out⟩, below_step hB hb⟩
  · have HF : Hid (fileErr ⟨path.data.toList, mdF n P V, mdF m Q U⟩ = (pathErr path.data.toList, -1)) := Lib.hid (by rw [HFE.out, if_pos h0])
    have HR : Hid (∀ W, FaultAt A W (errV A (pathErr path.data.toList)) (pathErr path.data.toList, -1)) := Lib.hid (fun W => .inr (.inl ⟨h0, rfl, rfl⟩))
    rw [errV_pos A h0] at HR hpa
    replace hpa := Lib.hid hpa
    clear h0 he1 he2 he3
    go_enter Tryz.func16, Tryz.ntmps16
    obtain ⟨z0, z1, z2⟩ := id hz
    go_wp2_with fail
    refine (hpa.out _ hE).mono ?_
    rintro e w1 ⟨rfl, hb⟩
    replace hB := below_step hB hb
    replace hE := hE.below hb
    replace hz := hz.below hb
    clear hb
    go_wp2_with fail
    go_ret
    rw [HF.out]
    exact ⟨⟨_, rfl, HR.out _⟩, hB⟩
end Go.Proofs.Pw

/- R.SameMods; LongMods of the statements. -/
namespace Go.Proofs.Pw
open Go.RowKit
open Go.Lib hiding intOf

theorem mdF_ext {n : Nat} {P V Q U : Nat → ByteArray} : mdF n P V = mdF n Q U ↔ ∀ j, j < n → P j = Q j ∧ V j = U j := by
  simp [mdF, ByteArray.ext_iff]

set_option maxRecDepth 100000 in
theorem sameMods_calls (v u : Value) (l m : List Md) (w : World) (h : ModsAt w v l) (g : ModsAt w u m) :
    Calls Tryz.prog 35 #[v, u] w fun e w' => e = .returned (.bool (decide (l = m))) ∧ Below w.heap.size w w' := by
  obtain ⟨a, n, cap, P, V, rfl, rfl, hn, hcap, hc⟩ := h
  obtain ⟨a', n', cap', Q, U, rfl, rfl, hn', hcap', hc'⟩ := g
  have hg := Tryz.md_guard
  have hq := md_neq
  by_cases hnn : n = n'
  · subst hnn
    replace hc := Lib.hid hc
    replace hc' := Lib.hid hc'
    go_enter Tryz.func35, Tryz.ntmps35
    go_wp2_with fail
    go_loopw [5] (fun i wr => ∃ k : Nat, k ≤ n ∧ i = .int .i64 k ∧ Below w.heap.size w wr ∧ Hid (∀ j, j < k → P j = Q j ∧ V j = U j)) (fun i _ => n - (intOf i).toNat)
    case atStart => exact ⟨0, by omega, rfl, Below.refl _ _, Lib.hid (fun j hj => absurd hj (Nat.not_lt_zero _))⟩
    case round =>
      obtain ⟨k, hk, rfl, hb, HA⟩ := hrel
      by_cases hlt : k < n
      · obtain ⟨b1, o1, rfl, d1, d2⟩ := hc.out k hlt
        obtain ⟨b2, o2, rfl, d3, d4⟩ := hc'.out k hlt
        replace d1 := Below.cell_some hb d1
        replace d2 := Below.cell_some hb d2
        replace d3 := Below.cell_some hb d3
        replace d4 := Below.cell_some hb d4
        by_cases he : P k = Q k ∧ V k = U k
        · have HE := Lib.hid he
          have hd := decide_eq_true he
          clear he
          go_wp2_with fail
          go_region
          all_goals
            go_wp2_with fail
            go_roundw
            case rel =>
              refine ⟨k + 1, by omega, by go_num, hb.drew, Lib.hid (fun j hj => ?_)⟩
              by_cases e : j = k
              · subst e; exact HE.out
              · exact HA.out j (by omega)
            case measure => simp [intOf]; omega
        · have HF : Hid (decide (mdF n P V = mdF n Q U) = false) := Lib.hid (decide_eq_false (fun e => he (mdF_ext.1 e k hlt)))
          have hd := decide_eq_false he
          clear he
          go_wp2_with fail
          go_region
          all_goals
            go_wp2_with fail
            go_ret
            rw [HF.out]
            exact ⟨rfl, hb.drew⟩
      · obtain rfl : k = n := by omega
        have HF : Hid (decide (mdF k P V = mdF k Q U) = true) := Lib.hid (decide_eq_true (mdF_ext.2 HA.out))
        go_wp2_with fail
        go_ret
        rw [HF.out]
        exact ⟨rfl, hb⟩
  · have HF : Hid (decide (mdF n P V = mdF n' Q U) = false) := Lib.hid (decide_eq_false (fun e => hnn (by have := congrArg List.length e; rwa [mdF_length, mdF_length] at this)))
    have hnn2 : ((n : Int) == (n' : Int)) = false := beq_eq_false_iff_ne.2 (by omega)
    clear hc hc' hnn hg hq
    go_enter Tryz.func35, Tryz.ntmps35
    go_wp2_with fail
    go_ret
    rw [HF.out]
    exact ⟨rfl, Below.refl _ _⟩

/-- LongMods: is one too long, or are they too many? -/
def longMods (l : List Md) (most : Nat) : Bool := decide (most < l.length) || l.any fun m => decide (70 < m.1.length) || decide (60 < m.2.length)
/-- as the statement says it -/
def longI (l : List Md) (most : Nat) : Int := if longMods l most then 1 else 0
theorem longI_yes {l : List Md} {most : Nat} (h : longMods l most = true) : longI l most = 1 := by unfold longI; rw [h]; rfl
theorem longI_no {l : List Md} {most : Nat} (h : longMods l most = false) : longI l most = 0 := by unfold longI; rw [h]; rfl
set_option maxRecDepth 100000 in
theorem longMods_calls (v : Value) (l : List Md) (most : Nat) (w : World) (h : ModsAt w v l) :
    Calls Tryz.prog 13 #[v, .int .i64 (most : Nat)] w fun e w' => e = .returned (.int .i64 (longI l most)) ∧ w = w' := by
  obtain ⟨a, n, cap, P, V, rfl, rfl, hn, hcap, hc⟩ := h
  replace hc := Lib.hid hc
  by_cases hm : most < n
  · have hm' : (most : Int) < (n : Int) := by omega
    have HF : Hid (longI (mdF n P V) most = 1) := Lib.hid (longI_yes (by unfold longMods; rw [mdF_length, decide_eq_true hm]; rfl))
    clear hm
    go_enter Tryz.func13, Tryz.ntmps13
    go_wp2_with fail
    go_ret
    rw [HF.out]
    exact ⟨rfl, rfl⟩
  · have hm' : ¬ (most : Int) < (n : Int) := by omega
    have HL : Hid (longMods (mdF n P V) most = (mdF n P V).any fun m => decide (70 < m.1.length) || decide (60 < m.2.length)) := Lib.hid (by unfold longMods; rw [mdF_length, decide_eq_false hm, Bool.false_or])
    clear hm
    go_enter Tryz.func13, Tryz.ntmps13
    go_wp2_with fail
    go_loop [5] (fun i => ∃ k : Nat, k ≤ n ∧ i = .int .i64 k ∧ Hid (((mdF n P V).take k).any (fun m => decide (70 < m.1.length) || decide (60 < m.2.length)) = false)) (fun i => n - (intOf i).toNat)
    case atStart => exact ⟨0, Nat.zero_le _, rfl, Lib.hid rfl⟩
    case round =>
      obtain ⟨k, hk, rfl, HA⟩ := hrel
      by_cases hlt : k < n
      · obtain ⟨b, o, rfl, d1, d2⟩ := hc.out k hlt
        have HT := Lib.hid (mdF_take_succ n P V k hlt)
        have hbad : 70 < (P k).size ∨ 60 < (V k).size → longMods (mdF n P V) most = true := fun h => by
          rw [HL.out, List.any_eq_true]
          refine ⟨_, List.mem_of_getElem? (mdF_get n P V k hlt), ?_⟩
          rw [size_eq, size_eq] at h
          simpa using h
        replace hbad := Lib.hid hbad
        by_cases h1 : 70 < (P k).size
        · have h1' : (70 : Int) < ((P k).size : Int) := by omega
          go_wp2_with fail
          go_ret
          rw [longI_yes (hbad.out (.inl h1))]
          exact ⟨rfl, rfl⟩
        · have h1' : ¬ (70 : Int) < ((P k).size : Int) := by omega
          by_cases h2 : 60 < (V k).size
          · have h2' : (60 : Int) < ((V k).size : Int) := by omega
            go_wp2_with fail
            go_ret
            rw [longI_yes (hbad.out (.inr h2))]
            exact ⟨rfl, rfl⟩
          · have h2' : ¬ (60 : Int) < ((V k).size : Int) := by omega
            have HN : Hid (((mdF n P V).take (k + 1)).any (fun m => decide (70 < m.1.length) || decide (60 < m.2.length)) = false) := Lib.hid (by
              rw [HT.out, List.any_append, HA.out]
              rw [size_eq] at h1 h2
              simp only [List.any_cons, List.any_nil, Bool.or_false, Bool.false_or, Bool.or_eq_false_iff, decide_eq_false_iff_not]
              exact ⟨h1, h2⟩)
            go_wp2_with fail
            go_round
            case rel => exact ⟨k + 1, by omega, by go_num, HN⟩
            case measure => simp [intOf]; omega
      · obtain rfl : k = n := by omega
        have HF : Hid (longI (mdF k P V) most = 0) := Lib.hid (longI_no (by rw [HL.out, ← HA.out, mdF_take_all]))
        go_wp2_with fail
        go_ret
        rw [HF.out]
        exact ⟨rfl, rfl⟩
end Go.Proofs.Pw

/- mod.Bare; the statements' own copies; are two files the same. -/
namespace Go.Proofs.Pw
open Go.RowKit
open Go.Lib hiding intOf

theorem asF_nil (w : World) : (Instr.typeAssert .nilIface 32 102 true).run Tryz.prog w = .ok (.tuple #[.pointer none, .bool false]) w := by
  have z := Tryz.zeroValue102 w
  simp [Instr.typeAssert, run_underlying Tryz.underlying102, z]
theorem asF_other (v : Value) (w : World) : (Instr.typeAssert (.iface 283 v) 32 102 true).run Tryz.prog w = .ok (.tuple #[.pointer none, .bool false]) w := by
  have z := Tryz.zeroValue102 w
  simp [Instr.typeAssert, run_underlying Tryz.underlying102, z]
theorem asF_same (v : Value) (w : World) : (Instr.typeAssert (.iface 102 v) 32 102 true).run Tryz.prog w = .ok (.tuple #[v, .bool true]) w := by
  simp [Instr.typeAssert, run_underlying Tryz.underlying102]
set_option maxRecDepth 100000 in
theorem bare_calls (A : Nat → Addr) (v : Value) (r : Nat × Int) (w : World) (h : FaultAt A w v r) :
    Calls Tryz.prog 77 #[v] w fun e w' => e = .returned (errV A r.1) ∧ Below w.heap.size w w' := by
  rcases h with ⟨h1, h2, rfl⟩ | ⟨h1, h2, rfl⟩ | ⟨h1, b, rfl, c3, c4⟩
  · rw [h1, errV_zero]
    clear h1 h2
    have ha := asF_nil
    go_enter Tryz.func77, Tryz.ntmps77
    go_wp2_with fail
    go_ret
    exact ⟨rfl, Below.refl _ _⟩
  · rw [errV_pos A h1]
    clear h1 h2
    have ha := asF_other
    go_enter Tryz.func77, Tryz.ntmps77
    go_wp2_with fail
    go_ret
    exact ⟨rfl, Below.refl _ _⟩
  · rw [errV_pos A h1] at c4 ⊢
    clear h1
    have ha := asF_same
    go_enter Tryz.func77, Tryz.ntmps77
    go_wp2_with fail
    go_ret
    exact ⟨rfl, Below.refl _ _⟩

/-! ### rows of modules of one's own -/
def mdVs (l : List (ByteArray × ByteArray)) : List Value := l.flatMap fun m => [.string m.1, .string m.2]
def mdTs (l : List (ByteArray × ByteArray)) : List Md := l.map fun m => (m.1.data.toList, m.2.data.toList)
theorem mdVs_length (l) : (mdVs l).length = l.length * 2 := by
  induction l with
  | nil => rfl
  | cons a r ih =>
    show (([.string a.1, .string a.2] : List Value) ++ mdVs r).length = _
    rw [List.length_append, ih]; simp; omega
theorem mdTs_length (l) : (mdTs l).length = l.length := List.length_map ..
theorem mdVs_append (a b) : mdVs (a ++ b) = mdVs a ++ mdVs b := List.flatMap_append ..
theorem mdVs_one {l} : ∀ u ∈ mdVs l, u.oneCell' = true := by
  intro u hu
  simp only [mdVs, List.mem_flatMap] at hu
  obtain ⟨m, _, hu⟩ := hu
  simp at hu
  rcases hu with rfl | rfl <;> rfl
theorem mdVs_get : ∀ {l : List (ByteArray × ByteArray)} {j : Nat} {m : ByteArray × ByteArray}, l[j]? = some m → (mdVs l)[j * 2]? = some (.string m.1) ∧ (mdVs l)[j * 2 + 1]? = some (.string m.2)
  | [], j, m, h => by simp at h
  | a :: r, 0, m, h => by
    simp at h; subst h
    exact ⟨rfl, rfl⟩
  | a :: r, j + 1, m, h => by
    have := mdVs_get (l := r) (j := j) (m := m) (by simpa using h)
    have e : mdVs (a :: r) = .string a.1 :: .string a.2 :: mdVs r := rfl
    rw [e, show (j + 1) * 2 = j * 2 + 1 + 1 by omega, List.getElem?_cons_succ, List.getElem?_cons_succ, List.getElem?_cons_succ, List.getElem?_cons_succ]
    exact this
theorem modsAt_own {w : World} {base e : Nat} {v : Value} {l : List (ByteArray × ByteArray)} (h : w.ownsRow base e 2 v l.length (mdVs l)) : ModsAt w v (mdTs l) := by
  rcases h.2 with ⟨rfl, h0⟩ | ⟨g, cap, cur, rfl, hb, hg, hn, hm, hs, ht⟩
  · have : l = [] := List.eq_nil_of_length_eq_zero h0
    subst this
    exact ModsAt.nil w
  · refine ⟨_, l.length, cap, fun j => (l.getD j (ByteArray.empty, ByteArray.empty)).1, fun j => (l.getD j (ByteArray.empty, ByteArray.empty)).2, rfl, ?_, hn, by unfold maxLen at hm; exact hm, fun j hj => ⟨g, 0, rfl, ?_⟩⟩
    · apply List.ext_getElem?
      intro i
      by_cases hi : i < l.length
      · rw [mdF_get _ _ _ i hi]
        simp [mdTs, List.getD_eq_getElem?_getD, List.getElem?_eq_getElem hi]
      · rw [List.getElem?_eq_none (by rw [mdTs_length]; omega), List.getElem?_eq_none (by rw [mdF_length]; omega)]
    · have hget := mdVs_get (l := l) (j := j) (m := l.getD j (ByteArray.empty, ByteArray.empty)) (by rw [List.getD_eq_getElem?_getD, List.getElem?_eq_getElem hj]; rfl)
      rw [← ht] at hget
      rw [List.getElem?_take, if_pos (by omega), List.getElem?_take, if_pos (by omega)] at hget
      rw [Nat.zero_add]
      exact ⟨by rw [cell_of_row w g _ cur e (0, 0) hg]; simpa using hget.1, by rw [cell_of_row w g _ cur e (0, 0) hg]; simpa using hget.2⟩
/-- what lies in a slice of modules, as a list -/
def mdL (n : Nat) (P V : Nat → ByteArray) : List (ByteArray × ByteArray) := (List.range n).map fun j => (P j, V j)
theorem mdL_length (n P V) : (mdL n P V).length = n := by simp [mdL]
theorem mdL_ts (n P V) : mdTs (mdL n P V) = mdF n P V := by simp [mdL, mdTs, mdF]
theorem Tryz.infoMod : (Tryz.prog.info? 26).map (fun i => (i.zero, i.size, i.bytes)) = some (some (.agg #[.string ⟨#[]⟩, .string ⟨#[]⟩]), 2, 32) := by kernel_rfl

/-- the cells of a slice of modules, from one of its places on -/
theorem mods_cells {w : World} {b o n : Nat} {P V : Nat → ByteArray} (hc : ∀ j, j < n → w.cell? ⟨b, o + j * 2, none⟩ = some (.string (P j)) ∧ w.cell? ⟨b, o + j * 2 + 1, none⟩ = some (.string (V j))) :
    ∀ j u, (mdVs (mdL n P V))[j]? = some u → w.cell? ((⟨b, o, none⟩ : Addr).add j) = some u := by
  intro j u hu
  have hj : j < n * 2 := by
    have := (List.getElem?_eq_some_iff.1 hu).1
    rwa [mdVs_length, mdL_length] at this
  have hk : j / 2 < n := by omega
  have hg := mdVs_get (l := mdL n P V) (j := j / 2) (m := (P (j / 2), V (j / 2))) (by simp [mdL, hk])
  rw [show (⟨b, o, none⟩ : Addr).add j = ⟨b, o + j, none⟩ from by unfold Addr.add; split <;> simp_all]
  rcases Nat.mod_two_eq_zero_or_one j with h | h
  · rw [show j = j / 2 * 2 by omega] at hu ⊢
    rw [hg.1] at hu
    cases hu
    exact (hc _ hk).1
  · rw [show j = j / 2 * 2 + 1 by omega] at hu ⊢
    rw [hg.2] at hu
    cases hu
    rw [← Nat.add_assoc]
    exact (hc _ hk).2

set_option maxHeartbeats 1000000 in
/-- OwnMods -/
theorem ownMods_calls (v : Value) (l : List Md) (w : World) (h : ModsAt w v l) (hl : l.length ≤ 1000000) :
    Calls Tryz.prog 31 #[v] w fun e w' => (∃ v', e = .returned v' ∧ ModsAt w' v' l ∧ ∃ L, l = mdTs L ∧ w'.ownsRow w.heap.size 26 2 v' L.length (mdVs L)) ∧ Below w.heap.size w w' := by
  obtain ⟨i0, hi, hz0, hz1, hz2⟩ := info_parts Tryz.infoMod
  obtain ⟨a, n, cap, P, V, rfl, rfl, hnc, hcap, hc⟩ := h
  rw [mdF_length] at hl
  cases a with
  | none =>
    have hn0 : n = 0 := by
      rcases Nat.eq_zero_or_pos n with h | h
      · exact h
      · obtain ⟨b, o, e, _⟩ := hc 0 h
        cases e
    subst hn0
    clear hc
    have happ := fun W ty => run_append_nothing (P := Tryz.prog) W 22 22 ty 26 i0 Tryz.underlying22 hi none 0 0 (Nat.le_refl _) (.slice none 0 cap) (Src.ofNil W Tryz.underlying22 cap)
    go_enter Tryz.func31, Tryz.ntmps31
    go_wp2_with fail
    go_ret
    exact ⟨⟨_, rfl, ModsAt.nil w, [], rfl, World.ownsRow_nil _ _ _ _⟩, Below.refl _ _⟩
  | some a =>
    have hc2 : ∃ news, news.length = n * 2 ∧ (∀ j u, news[j]? = some u → w.cell? (a.add j) = some u) ∧ news = mdVs (mdL n P V) := by
      refine ⟨_, by rw [mdVs_length, mdL_length], ?_, rfl⟩
      rcases Nat.eq_zero_or_pos n with h | h
      · subst h
        intro j u hu
        simp [mdL, mdVs] at hu
      · obtain ⟨b, o, e, _⟩ := hc 0 h
        injection e with e
        subst e
        exact mods_cells (fun j hj => by
          obtain ⟨b', o', e, h1, h2⟩ := hc j hj
          injection e with e
          injection e with e1 e2 _
          subst e1 e2
          exact ⟨h1, h2⟩)
    obtain ⟨news, hn1, hn2, hn3⟩ := hc2
    have HN := Lib.hid hn3
    clear hc hn3
    go_enter Tryz.func31, Tryz.ntmps31
    go_wp2_with (at_builtin; refine wpList_append_own _ rfl _ _ 22 rfl w.heap.size 26 i0 (.agg #[.string ⟨#[]⟩, .string ⟨#[]⟩]) 2 32 Tryz.underlying22 hi hz0 hz1 hz2 rfl (by decide) _ _ _ rfl (World.ownsRow_nil _ _ _ _) a n cap news rfl hn1 hn2 (by rw [HN.out]; exact mdVs_one) (by unfold maxLen; omega) (by omega) (Nat.le_refl _) ?_; intro v' w1 hown1 hgrow1 _)
    go_ret
    have ho : w1.ownsRow w.heap.size 26 2 v' (mdL n P V).length (mdVs (mdL n P V)) := by
      rw [mdL_length, ← HN.out]
      simpa using hown1
    refine ⟨⟨v', rfl, by rw [← mdL_ts]; exact modsAt_own ho, mdL n P V, (mdL_ts n P V).symm, ho⟩, (Below.refl _ _).grown hgrow1 (Nat.le_refl _) (fun k h => by cases h)⟩

/-! ### a box of three cells that is stored to -/
structure Box3f (w : World) (b : Nat) (v0 v1 v2 : Value) : Prop where
  c0 : w.cell? ⟨b, 0, none⟩ = some v0
  c1 : w.cell? ⟨b, 1, none⟩ = some v1
  c2 : w.cell? ⟨b, 2, none⟩ = some v2
  fz : ∀ i, w.frozen? ⟨b, i, none⟩ = false
theorem Box3f.below {w w' : World} {b : Nat} {v0 v1 v2 : Value} (h : Box3f w b v0 v1 v2) (hb : Below w.heap.size w w') : Box3f w' b v0 v1 v2 :=
  ⟨Below.cell_some hb h.c0, Below.cell_some hb h.c1, Below.cell_some hb h.c2, fun i => (hb.frozen (p := ⟨b, i, none⟩) (show b < w.heap.size from lt_of_cell h.c0)).trans (h.fz i)⟩
theorem box3f_alloc (w : World) (v0 v1 v2 : Value) (t : TypeId) : Box3f (w.alloc (.cells #[v0, v1, v2] t)) w.heap.size v0 v1 v2 := ⟨by simp, by simp, by simp, fun i => by simp⟩
theorem set_same {w : World} {b k : Nat} {u : Value} (v : Value) (h : w.cell? ⟨b, k, none⟩ = some u) : (w.setCell ⟨b, k, none⟩ v).cell? ⟨b, k, none⟩ = some v := World.cell?_setCell_same _ _ _ h
theorem set_off {w : World} {b k j : Nat} (v : Value) (h : j ≠ k) : (w.setCell ⟨b, k, none⟩ v).cell? ⟨b, j, none⟩ = w.cell? ⟨b, j, none⟩ := World.cell?_setCell_other _ _ _ _ (by intro e; injection e with _ e _; exact h e.symm)
theorem set_blk {w : World} {b c k j : Nat} (v : Value) (h : c ≠ b) : (w.setCell ⟨b, k, none⟩ v).cell? ⟨c, j, none⟩ = w.cell? ⟨c, j, none⟩ := World.cell?_setCell_other _ _ _ _ (by intro e; injection e with e _ _; exact h e.symm)
theorem Box3f.set1 {w : World} {b : Nat} {v0 v1 v2 : Value} (h : Box3f w b v0 v1 v2) (v : Value) : Box3f (w.setCell ⟨b, 1, none⟩ v) b v0 v v2 :=
  ⟨by rw [set_off v (by decide)]; exact h.c0, set_same v h.c1, by rw [set_off v (by decide)]; exact h.c2, fun i => by simp [h.fz i]⟩
theorem Box3f.set2 {w : World} {b : Nat} {v0 v1 v2 : Value} (h : Box3f w b v0 v1 v2) (v : Value) : Box3f (w.setCell ⟨b, 2, none⟩ v) b v0 v1 v :=
  ⟨by rw [set_off v (by decide)]; exact h.c0, by rw [set_off v (by decide)]; exact h.c1, set_same v h.c2, fun i => by simp [h.fz i]⟩
theorem Box3f.other {w : World} {b c k : Nat} {v0 v1 v2 : Value} (h : Box3f w b v0 v1 v2) (hc : b ≠ c) (v : Value) : Box3f (w.setCell ⟨c, k, none⟩ v) b v0 v1 v2 :=
  ⟨by rw [set_blk v hc]; exact h.c0, by rw [set_blk v hc]; exact h.c1, by rw [set_blk v hc]; exact h.c2, fun i => by simp [h.fz i]⟩
/-- a slice of modules stays where another block is stored to -/
theorem ModsAt.other {w : World} {v : Value} {l : List Md} {c k : Nat} (h : ModsAt w v l) (hc : ∀ q n m, v = .slice (some q) n m → q.block ≠ c) (u : Value) : ModsAt (w.setCell ⟨c, k, none⟩ u) v l := by
  obtain ⟨a, n, cap, P, V, rfl, h2, h3, h4, h5⟩ := h
  refine ⟨a, n, cap, P, V, rfl, h2, h3, h4, fun j hj => ?_⟩
  obtain ⟨b, o, rfl, e1, e2⟩ := h5 j hj
  have hb : b ≠ c := hc _ _ _ rfl
  exact ⟨b, o, rfl, by rw [set_blk u hb]; exact e1, by rw [set_blk u hb]; exact e2⟩

set_option maxHeartbeats 1000000 in
set_option maxRecDepth 100000 in
/-- R.SameFile -/
theorem sameFile_calls (p q : ByteArray) (r1 x1 r2 x2 : Value) (R1 X1 R2 X2 : List Md) (w : World) (hr1 : ModsAt w r1 R1) (hx1 : ModsAt w x1 X1) (hr2 : ModsAt w r2 R2) (hx2 : ModsAt w x2 X2) :
    Calls Tryz.prog 22 #[.agg #[.string p, r1, x1], .agg #[.string q, r2, x2]] w fun e w' => e = .returned (.bool (decide (p = q) && (decide (R1 = R2) && decide (X1 = X2)))) ∧ Below w.heap.size w w' := by
  have hb1 := below_alloc w (.cells #[.string p, r1, x1] 24)
  have hb2 := below_alloc (w.alloc (.cells #[.string p, r1, x1] 24)) (.cells #[.string q, r2, x2] 24)
  have hB := below_step hb1 hb2
  have hz := (box3_alloc w (.string p) r1 x1 24).below hb2
  have hy := box3_alloc (w.alloc (.cells #[.string p, r1, x1] 24)) (.string q) r2 x2 24
  simp only [World.size_alloc] at hy
  have hs1 := fun W hb => sameMods_calls r1 r2 R1 R2 W (hr1.below hb) (hr2.below hb)
  have hs2 := fun W hb => sameMods_calls x1 x2 X1 X2 W (hx1.below hb) (hx2.below hb)
  obtain ⟨a1, n1, c1, _, _, rfl, _⟩ := id hr1
  obtain ⟨a2, n2, c2, _, _, rfl, _⟩ := id hr2
  obtain ⟨a3, n3, c3, _, _, rfl, _⟩ := id hx1
  obtain ⟨a4, n4, c4, _, _, rfl, _⟩ := id hx2
  generalize decide (R1 = R2) = Y1 at hs1 ⊢
  generalize decide (X1 = X2) = Y2 at hs2 ⊢
  replace hs1 := Lib.hid hs1
  replace hs2 := Lib.hid hs2
  clear hb1 hb2 hr1 hr2 hx1 hx2
  obtain ⟨z0, z1, z2⟩ := id hz
  obtain ⟨y0, y1, y2⟩ := id hy
  by_cases hpq : p = q
  · subst hpq
    rw [decide_eq_true rfl]
    cases Y1 with
    | false =>
      go_enter Tryz.func22, Tryz.ntmps22
      go_wp2_with fail
      refine (hs1.out _ hB).mono ?_
      rintro e w1 ⟨rfl, hb⟩
      replace hB := below_step hB hb
      clear hb
      go_wp2_with fail
      go_ret
      exact ⟨rfl, hB⟩
    | true =>
      go_enter Tryz.func22, Tryz.ntmps22
      go_wp2_with fail
      refine (hs1.out _ hB).mono ?_
      rintro e w1 ⟨rfl, hb⟩
      replace hB := below_step hB hb
      replace z2 := Below.cell_some hb z2
      replace y2 := Below.cell_some hb y2
      clear hb
      go_wp2_with fail
      refine (hs2.out _ hB).mono ?_
      rintro e w1 ⟨rfl, hb⟩
      replace hB := below_step hB hb
      clear hb
      go_wp2_with fail
      go_ret
      exact ⟨rfl, hB⟩
  · rw [decide_eq_false hpq]
    have e1 : (p.toList == q.toList) = false := by rw [toList_data, toList_data]; exact beq_eq_false_iff_ne.2 (fun e => hpq (bytes_eq.1 e))
    have e2 : p.toList ≠ q.toList := by rw [toList_data, toList_data]; exact fun e => hpq (bytes_eq.1 e)
    go_enter Tryz.func22, Tryz.ntmps22
    go_wp2_with fail
    go_ret
    exact ⟨rfl, hB⟩

theorem own_ge {w : World} {base e k n : Nat} {v : Value} {xs : List Value} (h : w.ownsRow base e k v n xs) : ∀ q n m, v = .slice (some q) n m → base ≤ q.block := by
  rintro q n m rfl
  exact (h.lt q.block rfl).1

set_option maxHeartbeats 1000000 in
set_option maxRecDepth 100000 in
/-- OwnFile -/
theorem ownFile_calls (p : ByteArray) (rv xv : Value) (R X : List Md) (w : World) (hr : ModsAt w rv R) (hx : ModsAt w xv X) (hR : R.length ≤ 1000000) (hX : X.length ≤ 1000000) :
    Calls Tryz.prog 14 #[.agg #[.string p, rv, xv]] w fun e w' => (∃ v1 v2, e = .returned (.agg #[.string p, v1, v2]) ∧ ModsAt w' v1 R ∧ ModsAt w' v2 X) ∧ Below w.heap.size w w' := by
  have hb1 := below_alloc w (.cells #[.string p, rv, xv] 24)
  have hb2 := below_alloc (w.alloc (.cells #[.string p, rv, xv] 24)) (.cells #[.string ⟨#[]⟩, .slice none 0 0, .slice none 0 0] 24)
  have hB := below_step hb1 hb2
  have hz := (box3f_alloc w (.string p) rv xv 24).below hb2
  have hy := box3f_alloc (w.alloc (.cells #[.string p, rv, xv] 24)) (.string ⟨#[]⟩) (.slice none 0 0) (.slice none 0 0) 24
  simp only [World.size_alloc] at hy
  have ho1 := fun W hb => ownMods_calls rv R W (hr.below hb) hR
  have ho2 := fun W (h : ModsAt W xv X) => ownMods_calls xv X W h hX
  obtain ⟨a1, n1, c1, _, _, rfl, _⟩ := id hr
  obtain ⟨a3, n3, c3, _, _, rfl, _⟩ := id hx
  replace ho1 := Lib.hid ho1
  replace ho2 := Lib.hid ho2
  clear hb1 hb2 hr
  obtain ⟨z0, z1, z2, zf⟩ := id hz
  go_enter Tryz.func14, Tryz.ntmps14
  go_wp2_with fail
  refine (ho1.out _ hB).mono ?_
  rintro e w1 ⟨⟨v1, rfl, hm1, L1, _, hw1⟩, hb⟩
  obtain ⟨a5, n5, c5, _, _, rfl, _⟩ := id hm1
  replace hB := below_step hB hb
  replace hz := hz.below hb
  replace hy := hy.below hb
  have hs1 := hz.set1 (.slice a5 n5 c5)
  have hym := hy.other (c := w.heap.size) (k := 1) (by omega) (.slice a5 n5 c5)
  have hBs := hB.setCell (p := ⟨w.heap.size, 1, none⟩) (Nat.le_refl _) (.slice a5 n5 c5)
  have hge1 : ∀ q n m, Value.slice a5 n5 c5 = .slice (some q) n m → q.block ≠ w.heap.size ∧ q.block ≠ w.heap.size + 1 := fun q n m e => by
    have := own_ge hw1 q n m e
    simp only [World.size_alloc] at this
    omega
  have hm1s := hm1.other (c := w.heap.size) (k := 1) (fun q n m e => (hge1 q n m e).1) (.slice a5 n5 c5)
  have hxs := hx.below hBs
  obtain ⟨z0, z1, z2, zf⟩ := id hz
  have hw1z' := hb.size
  have hsz : (w1.setCell ⟨w.heap.size, 1, none⟩ (.slice a5 n5 c5)).heap.size = w1.heap.size := by simp
  go_wp2_with fail
  generalize w1.setCell ⟨w.heap.size, 1, none⟩ (.slice a5 n5 c5) = w2 at hs1 hym hBs hm1s hxs hsz ⊢
  clear z0 z1 z2 zf hz hy hm1 hb hB
  obtain ⟨z0, z1, z2, zf⟩ := id hs1
  go_wp2_with fail
  refine (ho2.out _ hxs).mono ?_
  rintro e w3 ⟨⟨v2, rfl, hm2, L2, _, hw2⟩, hb⟩
  obtain ⟨a6, n6, c6, _, _, rfl, _⟩ := id hm2
  replace hBs := below_step hBs hb
  replace hs1 := hs1.below hb
  replace hym := hym.below hb
  replace hm1s := hm1s.below hb
  have hs2 := hs1.set2 (.slice a6 n6 c6)
  have hym2 := hym.other (c := w.heap.size) (k := 2) (by omega) (.slice a6 n6 c6)
  have hB3 := hBs.setCell (p := ⟨w.heap.size, 2, none⟩) (Nat.le_refl _) (.slice a6 n6 c6)
  have hm1t := hm1s.other (c := w.heap.size) (k := 2) (fun q n m e => (hge1 q n m e).1) (.slice a6 n6 c6)
  have hge2 : ∀ q n m, Value.slice a6 n6 c6 = .slice (some q) n m → q.block ≠ w.heap.size ∧ q.block ≠ w.heap.size + 1 := fun q n m e => by
    have h1 := own_ge hw2 q n m e
    have h2 := lt_of_cell hym.c0
    simp only [World.size_alloc] at hw1z'
    omega
  have hm2t := hm2.other (c := w.heap.size) (k := 2) (fun q n m e => (hge2 q n m e).1) (.slice a6 n6 c6)
  obtain ⟨z0, z1, z2, zf⟩ := id hs1
  obtain ⟨y0, y1, y2, yf⟩ := id hym
  have hfin : ∀ u0 u1 u2 : Value, ModsAt ((((w3.setCell ⟨w.heap.size, 2, none⟩ (.slice a6 n6 c6)).setCell ⟨w.heap.size + 1, 0, none⟩ u0).setCell ⟨w.heap.size + 1, 1, none⟩ u1).setCell ⟨w.heap.size + 1, 2, none⟩ u2) (.slice a5 n5 c5) R ∧ ModsAt ((((w3.setCell ⟨w.heap.size, 2, none⟩ (.slice a6 n6 c6)).setCell ⟨w.heap.size + 1, 0, none⟩ u0).setCell ⟨w.heap.size + 1, 1, none⟩ u1).setCell ⟨w.heap.size + 1, 2, none⟩ u2) (.slice a6 n6 c6) X ∧ Below w.heap.size w ((((w3.setCell ⟨w.heap.size, 2, none⟩ (.slice a6 n6 c6)).setCell ⟨w.heap.size + 1, 0, none⟩ u0).setCell ⟨w.heap.size + 1, 1, none⟩ u1).setCell ⟨w.heap.size + 1, 2, none⟩ u2) := fun u0 u1 u2 =>
    ⟨((hm1t.other (fun q n m e => (hge1 q n m e).2) u0).other (fun q n m e => (hge1 q n m e).2) u1).other (fun q n m e => (hge1 q n m e).2) u2,
     ((hm2t.other (fun q n m e => (hge2 q n m e).2) u0).other (fun q n m e => (hge2 q n m e).2) u1).other (fun q n m e => (hge2 q n m e).2) u2,
     ((hB3.setCell (p := ⟨w.heap.size + 1, 0, none⟩) (Nat.le_succ _) u0).setCell (p := ⟨w.heap.size + 1, 1, none⟩) (Nat.le_succ _) u1).setCell (p := ⟨w.heap.size + 1, 2, none⟩) (Nat.le_succ _) u2⟩
  replace hfin := Lib.hid hfin
  clear hm1t hm2t hge1 hge2 hym2 hs2 hB3 hxs hw2 hm2 hym hs1 hw1
  go_wp2_with fail
  refine bodyPost_ret (v := .agg #[.string p, .slice a5 n5 c5, .slice a6 n6 c6]) (by simp [results, Tryz.results14, go_sem, *]) rfl ?_
  exact ⟨⟨_, _, rfl, (hfin.out _ _ _).1, (hfin.out _ _ _).2.1⟩, (hfin.out _ _ _).2.2⟩
end Go.Proofs.Pw

/- Slices of entries in memory. -/
namespace Go.Proofs.Pw
open Go.RowKit
open Go.Lib hiding intOf

/-- an entry's five cells -/
structure EntC (w : World) (b o : Nat) (p v : ByteArray) (rv kv : Value) (bk : Bool) : Prop where
  c0 : w.cell? ⟨b, o, none⟩ = some (.string p)
  c1 : w.cell? ⟨b, o + 1, none⟩ = some (.string v)
  c2 : w.cell? ⟨b, o + 2, none⟩ = some rv
  c3 : w.cell? ⟨b, o + 3, none⟩ = some kv
  c4 : w.cell? ⟨b, o + 4, none⟩ = some (.bool bk)
theorem EntC.below {w w' : World} {b o : Nat} {p v : ByteArray} {rv kv : Value} {bk : Bool} (h : EntC w b o p v rv kv bk) (hb : Below w.heap.size w w') : EntC w' b o p v rv kv bk :=
  ⟨Below.cell_some hb h.c0, Below.cell_some hb h.c1, Below.cell_some hb h.c2, Below.cell_some hb h.c3, Below.cell_some hb h.c4⟩

/-- a slice of entries, its parts by name -/
structure EntsIn (w : World) (a : Option Addr) (n cap : Nat) (P V : Nat → ByteArray) (R : Nat → List Md) (K : Nat → List Str) (B : Nat → Bool) (Rv Kv : Nat → Value) : Prop where
  le : n ≤ cap
  cap : cap ≤ 9223372036854775807
  at_ : ∀ j, j < n → ∃ b o, a = some ⟨b, o, none⟩ ∧ EntC w b (o + j * 5) (P j) (V j) (Rv j) (Kv j) (B j)
  reqs : ∀ j, j < n → ModsAt w (Rv j) (R j)
  packs : ∀ j, j < n → StrsAt w (Kv j) (K j)
theorem EntsIn.below {w w' : World} {a n cap P V R K B Rv Kv} (h : EntsIn w a n cap P V R K B Rv Kv) (hb : Below w.heap.size w w') : EntsIn w' a n cap P V R K B Rv Kv :=
  ⟨h.le, h.cap, fun j hj => let ⟨b, o, e, c⟩ := h.at_ j hj; ⟨b, o, e, c.below hb⟩, fun j hj => (h.reqs j hj).below hb, fun j hj => (h.packs j hj).below hb⟩
/-- a slice of entries -/
def EntsAt (w : World) (v : Value) (l : List En) : Prop :=
  ∃ a n cap P V R K B Rv Kv, v = .slice a n cap ∧ l = enF n P V R K B ∧ EntsIn w a n cap P V R K B Rv Kv
theorem EntsAt.below {w w' : World} {v : Value} {l : List En} (h : EntsAt w v l) (hb : Below w.heap.size w w') : EntsAt w' v l := by
  obtain ⟨a, n, cap, P, V, R, K, B, Rv, Kv, h1, h2, h3⟩ := h
  exact ⟨a, n, cap, P, V, R, K, B, Rv, Kv, h1, h2, h3.below hb⟩
theorem EntsAt.nil (w : World) : EntsAt w (.slice none 0 0) [] :=
  ⟨none, 0, 0, fun _ => ByteArray.empty, fun _ => ByteArray.empty, fun _ => [], fun _ => [], fun _ => false, fun _ => .slice none 0 0, fun _ => .slice none 0 0, rfl, rfl, Nat.le_refl _, by decide, fun j hj => absurd hj (Nat.not_lt_zero _), fun j hj => absurd hj (Nat.not_lt_zero _), fun j hj => absurd hj (Nat.not_lt_zero _)⟩
/-- an index whose texts are short -/
structure ShortI (l : List En) : Prop where
  len : l.length ≤ 1000000
  mds : ∀ e ∈ l, e.md.1.length ≤ 1000000 ∧ e.md.2.length ≤ 1000000
  reqs : ∀ e ∈ l, Short e.reqs
  packs : ∀ e ∈ l, e.packs.length ≤ 1000000 ∧ ∀ s ∈ e.packs, s.length ≤ 1000000
/-- the same, by places -/
theorem ShortI.at_ {n : Nat} {P V : Nat → ByteArray} {R : Nat → List Md} {K : Nat → List Str} {B : Nat → Bool} (h : ShortI (enF n P V R K B)) {j : Nat} (hj : j < n) :
    n ≤ 1000000 ∧ (P j).size ≤ 1000000 ∧ (V j).size ≤ 1000000 ∧ Short (R j) ∧ (K j).length ≤ 1000000 ∧ ∀ s ∈ K j, s.length ≤ 1000000 := by
  have hm := List.mem_of_getElem? (enF_get n P V R K B j hj)
  have h1 := h.len
  rw [enF_length] at h1
  refine ⟨h1, ?_, ?_, h.reqs _ hm, (h.packs _ hm).1, (h.packs _ hm).2⟩
  · rw [size_eq]; exact (h.mds _ hm).1
  · rw [size_eq]; exact (h.mds _ hm).2
end Go.Proofs.Pw

/- slices.IndexFunc at modules; mod.Find. -/
namespace Go.Proofs.Pw
open Go.RowKit
open Go.Lib hiding intOf

/-- a test of modules by a function value, in whatever world that stands over w from block base on -/
def TestsM (g : Nat) (lb : Array Value) (p : Md → Bool) (n : Nat) (P V : Nat → ByteArray) (base : Nat) (w : World) : Prop :=
  ∀ W, Below base w W → ∀ j, j < n → Calls Tryz.prog g (#[.agg #[.string (P j), .string (V j)]] ++ lb) W fun e w'' => e = .returned (.bool (p ((P j).data.toList, (V j).data.toList))) ∧ Below W.heap.size W w''

set_option maxHeartbeats 1000000 in
set_option maxRecDepth 100000 in
theorem indexFuncM_calls (g : Nat) (lb : Array Value) (eg : ∀ args w, (callFunc g args).run Tryz.prog w = .ok (.enter g args) w) (p : Md → Bool) (a : Option Addr) (n cap base : Nat) (P V : Nat → ByteArray) (w : World) (hn : n ≤ 1000000) (hbase : base ≤ w.heap.size)
    (hc : ∀ j, j < n → ∃ b o, a = some ⟨b, o, none⟩ ∧ w.cell? ⟨b, o + j * 2, none⟩ = some (.string (P j)) ∧ w.cell? ⟨b, o + j * 2 + 1, none⟩ = some (.string (V j))) (hT : TestsM g lb p n P V base w) :
    Calls Tryz.prog 136 #[.slice a n cap, .func (.func g) #[] lb] w fun e w' => e = .returned (.int .i64 (findI p (mdF n P V))) ∧ Below w.heap.size w w' := by
  replace hc := Lib.hid hc
  replace hT := Lib.hid hT
  go_enter Tryz.func136, Tryz.ntmps136
  go_wp2_with fail
  go_loopw [8] (fun i wr => ∃ k : Nat, k ≤ n ∧ i = .int .i64 k ∧ Below w.heap.size w wr ∧ Hid (∀ j, j < k → p ((P j).data.toList, (V j).data.toList) = false)) (fun i _ => n - (intOf i).toNat)
  case atStart => exact ⟨0, by omega, rfl, Below.refl _ _, Lib.hid (fun j hj => absurd hj (Nat.not_lt_zero _))⟩
  case round =>
    obtain ⟨k, hk, rfl, hb, HA⟩ := hrel
    by_cases hlt : k < n
    · obtain ⟨b1, o1, rfl, c1, c2⟩ := hc.out k hlt
      replace c1 := Below.cell_some hb c1
      replace c2 := Below.cell_some hb c2
      have hcall := hT.out wr (hb.mono hbase) k hlt
      have hget := mdF_get n P V k hlt
      cases hq : p ((P k).data.toList, (V k).data.toList) with
      | true =>
        have HR : Hid (findI p (mdF n P V) = k) := Lib.hid (findI_hit hget hq (fun j y hj hy => by
          rw [mdF_get n P V j (by omega)] at hy
          cases hy
          exact HA.out j hj))
        rw [hq] at hcall
        clear hq hget
        go_wp2_with (go_at_fn g; refine hcall.mono ?_; rintro e w' ⟨rfl, hb2⟩)
        go_ret
        rw [HR.out]
        exact ⟨rfl, below_step hb hb2⟩
      | false =>
        have HN : Hid (∀ j, j < k + 1 → p ((P j).data.toList, (V j).data.toList) = false) := Lib.hid (fun j hj => by
          by_cases e : j = k
          · subst e; exact hq
          · exact HA.out j (by omega))
        rw [hq] at hcall
        clear hq hget
        go_wp2_with (go_at_fn g; refine hcall.mono ?_; rintro e w' ⟨rfl, hb2⟩)
        go_roundw
        case rel => exact ⟨k + 1, by omega, by go_num, below_step hb hb2, HN⟩
        case measure => simp [intOf]; omega
    · obtain rfl : k = n := by omega
      have HR : Hid (findI p (mdF k P V) = -1) := Lib.hid (findI_none (fun j y hy => by
        have hj : j < k := by have := (List.getElem?_eq_some_iff.1 hy).1; rwa [mdF_length] at this
        rw [mdF_get k P V j hj] at hy
        cases hy
        exact HA.out j hj))
      go_wp2_with fail
      go_ret
      rw [HR.out]
      exact ⟨rfl, hb⟩

theorem Tryz.enters_find1 : ∀ args w, (callFunc 137 args).run Tryz.prog w = .ok (.enter 137 args) w := Go.Proofs.enters_of Tryz.func137 (by kernel_rfl) rfl
theorem find1_calls (p v s : ByteArray) (b : Nat) (w : World) (hc : w.cell? ⟨b, 0, none⟩ = some (.string s)) :
    Calls Tryz.prog 137 #[.agg #[.string p, .string v], .pointer (some ⟨b, 0, none⟩)] w fun e w' => e = .returned (.bool (decide (p.data.toList = s.data.toList))) ∧ Below w.heap.size w w' := by
  have hb := below_alloc w (.cells #[.string p, .string v] 26)
  have c0 := Below.cell_some hb hc
  have HD : Hid (decide (p.data.toList = s.data.toList) = (p.toList == s.toList)) := Lib.hid (by
    rw [toList_data, toList_data, Bool.eq_iff_iff, decide_eq_true_iff, beq_iff_eq])
  go_enter Tryz.func137, Tryz.ntmps137
  go_wp2_with fail
  go_ret
  rw [HD.out]
  exact ⟨rfl, hb⟩

theorem modFind_calls (v : Value) (l : List Md) (s : ByteArray) (w : World) (h : ModsAt w v l) (hl : l.length ≤ 1000000) :
    Calls Tryz.prog 84 #[v, .string s] w fun e w' => e = .returned (.int .i64 (findI (fun m : Md => decide (m.1 = s.data.toList)) l)) ∧ Below w.heap.size w w' := by
  obtain ⟨a, n, cap, P, V, rfl, rfl, hnc, hcap, hc⟩ := h
  rw [mdF_length] at hl
  have hb := below_alloc w (.cells #[.string s] 9)
  have hcs : (w.alloc (.cells #[.string s] 9)).cell? ⟨w.heap.size, 0, none⟩ = some (.string s) := by simp
  have hi := indexFuncM_calls 137 #[.pointer (some ⟨w.heap.size, 0, none⟩)] Tryz.enters_find1 (fun m : Md => decide (m.1 = s.data.toList)) a n cap (w.alloc (.cells #[.string s] 9)).heap.size P V (w.alloc (.cells #[.string s] 9)) hl (Nat.le_refl _)
    (fun j hj => let ⟨b, o, e, h1, h2⟩ := hc j hj; ⟨b, o, e, Below.cell_some hb h1, Below.cell_some hb h2⟩)
    (fun W hW j hj => find1_calls (P j) (V j) s w.heap.size W (Below.cell_some hW hcs))
  generalize findI (fun m : Md => decide (m.1 = s.data.toList)) (mdF n P V) = x at hi ⊢
  replace hi := Lib.hid hi
  clear hc hcs
  go_enter Tryz.func84, Tryz.ntmps84
  go_wp2_with fail
  refine hi.out.mono ?_
  rintro e w1 ⟨rfl, hb1⟩
  go_wp2_with fail
  go_ret
  exact ⟨rfl, below_step hb hb1⟩
end Go.Proofs.Pw

/- slices.IndexFunc at entries and modules; index.Find. -/
namespace Go.Proofs.Pw
open Go.RowKit
open Go.Lib hiding intOf

/-- slices that stand as values of slice form -/
theorem EntsIn.forms {w : World} {a n cap P V R K B Rv Kv} (h : EntsIn w a n cap P V R K B Rv Kv) {j : Nat} (hj : j < n) : ∃ a1 n1 c1 a2 n2 c2, Rv j = .slice a1 n1 c1 ∧ Kv j = .slice a2 n2 c2 := by
  obtain ⟨a1, n1, c1, _, _, e1, _⟩ := h.reqs j hj
  obtain ⟨a2, n2, c2, _, e2, _⟩ := h.packs j hj
  exact ⟨_, _, _, _, _, _, e1, e2⟩

/-- a test of entries by a function value, in whatever world that stands over w from block base on -/
def TestsE (g : Nat) (lb : Array Value) (p : Nat → Bool) (n : Nat) (P V : Nat → ByteArray) (Rv Kv : Nat → Value) (B : Nat → Bool) (base : Nat) (w : World) : Prop :=
  ∀ W, Below base w W → ∀ j, j < n → Calls Tryz.prog g (#[.agg #[.string (P j), .string (V j), Rv j, Kv j, .bool (B j)]] ++ lb) W fun e w'' => e = .returned (.bool (p j)) ∧ Below W.heap.size W w''

set_option maxHeartbeats 1000000 in
set_option maxRecDepth 100000 in
theorem indexFuncE_calls (g : Nat) (lb : Array Value) (eg : ∀ args w, (callFunc g args).run Tryz.prog w = .ok (.enter g args) w) (p : Nat → Bool) (q : En → Bool) (a : Option Addr) (n cap base : Nat) (P V : Nat → ByteArray) (R : Nat → List Md) (K : Nat → List Str) (B : Nat → Bool) (Rv Kv : Nat → Value) (w : World) (hn : n ≤ 1000000) (hbase : base ≤ w.heap.size)
    (hc : EntsIn w a n cap P V R K B Rv Kv) (hq : ∀ j, j < n → q (enAt (enF n P V R K B) j) = p j) (hT : TestsE g lb p n P V Rv Kv B base w) :
    Calls Tryz.prog 143 #[.slice a n cap, .func (.func g) #[] lb] w fun e w' => e = .returned (.int .i64 (findI q (enF n P V R K B))) ∧ Below w.heap.size w w' := by
  replace hc := Lib.hid hc
  replace hT := Lib.hid hT
  replace hq := Lib.hid hq
  go_enter Tryz.func143, Tryz.ntmps143
  go_wp2_with fail
  go_loopw [8] (fun i wr => ∃ k : Nat, k ≤ n ∧ i = .int .i64 k ∧ Below w.heap.size w wr ∧ Hid (∀ j, j < k → p j = false)) (fun i _ => n - (intOf i).toNat)
  case atStart => exact ⟨0, by omega, rfl, Below.refl _ _, Lib.hid (fun j hj => absurd hj (Nat.not_lt_zero _))⟩
  case round =>
    obtain ⟨k, hk, rfl, hb, HA⟩ := hrel
    by_cases hlt : k < n
    · obtain ⟨b1, o1, rfl, hcell⟩ := hc.out.at_ k hlt
      obtain ⟨c0, c1, c2, c3, c4⟩ := hcell.below hb
      have hcall := hT.out wr (hb.mono hbase) k hlt
      have hget := enF_get n P V R K B k hlt
      obtain ⟨a1, n1, s1, a2, n2, s2, e1, e2⟩ := hc.out.forms hlt
      rw [e1] at c2
      rw [e2] at c3
      rw [e1, e2] at hcall
      clear hcell
      cases hp : p k with
      | true =>
        have HR : Hid (findI q (enF n P V R K B) = k) := Lib.hid (findI_hit hget (by have := hq.out k hlt; rw [enAt_enF hlt] at this; rw [this, hp]) (fun j y hj hy => by
          rw [enF_get n P V R K B j (by omega)] at hy
          have h1 := hq.out j (by omega)
          rw [enAt_enF (by omega)] at h1
          cases hy
          rw [h1]; exact HA.out j hj))
        rw [hp] at hcall
        clear hp hget e1 e2
        go_wp2_with (go_at_fn g; refine hcall.mono ?_; rintro e w' ⟨rfl, hb2⟩)
        go_ret
        rw [HR.out]
        exact ⟨rfl, below_step hb hb2⟩
      | false =>
        have HN : Hid (∀ j, j < k + 1 → p j = false) := Lib.hid (fun j hj => by
          by_cases e : j = k
          · subst e; exact hp
          · exact HA.out j (by omega))
        rw [hp] at hcall
        clear hp hget e1 e2
        go_wp2_with (go_at_fn g; refine hcall.mono ?_; rintro e w' ⟨rfl, hb2⟩)
        go_roundw
        case rel => exact ⟨k + 1, by omega, by go_num, below_step hb hb2, HN⟩
        case measure => simp [intOf]; omega
    · obtain rfl : k = n := by omega
      have HR : Hid (findI q (enF k P V R K B) = -1) := Lib.hid (findI_none (fun j y hy => by
        have hj : j < k := by have := (List.getElem?_eq_some_iff.1 hy).1; rwa [enF_length] at this
        have h1 := hq.out j hj
        rw [enAt_enF hj] at h1
        rw [enF_get k P V R K B j hj] at hy
        cases hy
        rw [h1]; exact HA.out j hj))
      go_wp2_with fail
      go_ret
      rw [HR.out]
      exact ⟨rfl, hb⟩

theorem Tryz.enters_ifind1 : ∀ args w, (callFunc 144 args).run Tryz.prog w = .ok (.enter 144 args) w := Go.Proofs.enters_of Tryz.func144 (by kernel_rfl) rfl
theorem idxFind1_calls (p v s u : ByteArray) (a1 a2 : Option Addr) (n1 c1 n2 c2 : Nat) (bk : Bool) (b : Nat) (w : World) (h0 : w.cell? ⟨b, 0, none⟩ = some (.string s)) (h1 : w.cell? ⟨b, 1, none⟩ = some (.string u)) :
    Calls Tryz.prog 144 #[.agg #[.string p, .string v, .slice a1 n1 c1, .slice a2 n2 c2, .bool bk], .pointer (some ⟨b, 0, none⟩)] w fun e w' => e = .returned (.bool (decide (p = s ∧ v = u))) ∧ Below w.heap.size w w' := by
  have hb := below_alloc w (.cells #[.string p, .string v, .slice a1 n1 c1, .slice a2 n2 c2, .bool bk] 63)
  have d0 := Below.cell_some hb h0
  have d1 := Below.cell_some hb h1
  have hg := Tryz.md_guard
  have hq := md_eql p v s u
  generalize decide (p = s ∧ v = u) = X at hq ⊢
  go_enter Tryz.func144, Tryz.ntmps144
  go_wp2_with fail
  go_ret
  exact ⟨rfl, hb⟩

theorem idxFind_in (a : Option Addr) (n cap : Nat) (P V : Nat → ByteArray) (R : Nat → List Md) (K : Nat → List Str) (B : Nat → Bool) (Rv Kv : Nat → Value) (p v : ByteArray) (w : World) (h : EntsIn w a n cap P V R K B Rv Kv) (hl : n ≤ 1000000) :
    Calls Tryz.prog 95 #[.slice a n cap, .agg #[.string p, .string v]] w fun e w' => e = .returned (.int .i64 (findE (enF n P V R K B) (p.data.toList, v.data.toList))) ∧ Below w.heap.size w w' := by
  have hb := below_alloc w (.cells #[.string p, .string v] 26)
  have hz := box2_alloc w (.string p) (.string v) 26
  have hi := indexFuncE_calls 144 #[.pointer (some ⟨w.heap.size, 0, none⟩)] Tryz.enters_ifind1 (fun j => decide (P j = p ∧ V j = v)) (isMd (p.data.toList, v.data.toList)) a n cap (w.alloc (.cells #[.string p, .string v] 26)).heap.size P V R K B Rv Kv (w.alloc (.cells #[.string p, .string v] 26)) hl (Nat.le_refl _) (h.below hb)
    (fun j hj => by
      rw [enAt_enF hj]
      unfold isMd
      rw [Bool.eq_iff_iff, decide_eq_true_iff, decide_eq_true_iff]
      exact bytes_pair)
    (fun W hW j hj => by
      obtain ⟨a1, n1, s1, a2, n2, s2, e1, e2⟩ := h.forms hj
      rw [e1, e2]
      exact idxFind1_calls (P j) (V j) p v a1 a2 n1 s1 n2 s2 (B j) w.heap.size W (Below.cell_some hW hz.c0) (Below.cell_some hW hz.c1))
  show Calls _ _ _ _ fun e w' => e = .returned (.int .i64 (findI (isMd (p.data.toList, v.data.toList)) (enF n P V R K B))) ∧ Below w.heap.size w w'
  generalize findI (isMd (p.data.toList, v.data.toList)) (enF n P V R K B) = x at hi ⊢
  replace hi := Lib.hid hi
  clear hz h
  go_enter Tryz.func95, Tryz.ntmps95
  go_wp2_with fail
  refine hi.out.mono ?_
  rintro e w1 ⟨rfl, hb1⟩
  go_wp2_with fail
  go_ret
  exact ⟨rfl, below_step hb hb1⟩
theorem idxFind_calls (v : Value) (l : List En) (p q : ByteArray) (w : World) (h : EntsAt w v l) (hl : l.length ≤ 1000000) :
    Calls Tryz.prog 95 #[v, .agg #[.string p, .string q]] w fun e w' => e = .returned (.int .i64 (findE l (p.data.toList, q.data.toList))) ∧ Below w.heap.size w w' := by
  obtain ⟨a, n, cap, P, V, R, K, B, Rv, Kv, rfl, rfl, hin⟩ := h
  rw [enF_length] at hl
  exact idxFind_in a n cap P V R K B Rv Kv p q w hin hl
end Go.Proofs.Pw

/- index.reqs, index.packs. Conditions: texts of at most 1000000 bytes, lists of at most 1000000. -/
namespace Go.Proofs.Pw
open Go.RowKit
open Go.Lib hiding intOf

def reqsE (p : Str) (R : List Md) : Nat := if 20 < R.length then 7 else (firstE (reqE p R) R.length).1
def packsE (K : List Str) : Nat := if 10 < K.length then 7 else if K.all packOk then (firstE (packE K) K.length).1 else 1


/-- the errors that an index's check names -/
def IdxKs (ks : List Nat) : Prop := 3 ∈ ks ∧ 4 ∈ ks ∧ 5 ∈ ks ∧ 7 ∈ ks ∧ 8 ∈ ks

set_option maxHeartbeats 4000000 in
set_option maxRecDepth 100000 in
theorem idxReqs_calls (ks : List Nat) (A : Nat → Addr) (hks : IdxKs ks) (p v : ByteArray) (rv : Value) (a2 : Option Addr) (n2 s2 : Nat) (bk : Bool) (R : List Md) (w : World) (hE : EnvP ks A w) (hr : ModsAt w rv R) (hs : Short R) :
    Calls Tryz.prog 193 #[.agg #[.string p, .string v, rv, .slice a2 n2 s2, .bool bk]] w fun e w' => e = .returned (errV A (reqsE p.data.toList R)) ∧ Below w.heap.size w w' := by
  obtain ⟨a, n, cap, P, V, rfl, rfl, hnc, hcap, hc⟩ := hr
  have hP : Hid (∀ j, j < n → (P j).size ≤ 1000000 ∧ (V j).size ≤ 1000000) := Lib.hid (fun j hj => by
    have := hs.2 _ (List.mem_of_getElem? (mdF_get n P V j hj))
    rw [size_eq, size_eq]; exact this)
  have hn : n ≤ 1000000 := by have := hs.1; rw [mdF_length] at this; exact this
  have hB := below_alloc w (.cells #[.string p, .string v, .slice a n cap, .slice a2 n2 s2, .bool bk] 63)
  have z0 : (w.alloc (.cells #[.string p, .string v, .slice a n cap, .slice a2 n2 s2, .bool bk] 63)).cell? ⟨w.heap.size, 0, none⟩ = some (.string p) := by simp
  have z1 : (w.alloc (.cells #[.string p, .string v, .slice a n cap, .slice a2 n2 s2, .bool bk] 63)).cell? ⟨w.heap.size, 2, none⟩ = some (.slice a n cap) := by simp
  replace hc : ∀ j, j < n → ∃ b o, a = some ⟨b, o, none⟩ ∧ (w.alloc (.cells #[.string p, .string v, .slice a n cap, .slice a2 n2 s2, .bool bk] 63)).cell? ⟨b, o + j * 2, none⟩ = some (.string (P j)) ∧ (w.alloc (.cells #[.string p, .string v, .slice a n cap, .slice a2 n2 s2, .bool bk] 63)).cell? ⟨b, o + j * 2 + 1, none⟩ = some (.string (V j)) := fun j hj =>
    let ⟨b, o, e, h1, h2⟩ := hc j hj; ⟨b, o, e, Below.cell_some hB h1, Below.cell_some hB h2⟩
  replace hE := hE.below hB
  replace hc := Lib.hid hc
  clear hs
  by_cases h20 : 20 < n
  · have h20' : (20 : Int) < (n : Int) := by omega
    have HF : Hid (reqsE p.data.toList (mdF n P V) = 7) := Lib.hid (by unfold reqsE; rw [if_pos (by rw [mdF_length]; exact h20)])
    have g7 := hE.errs.var 7 hks.2.2.2.1
    simp only [errG] at g7
    go_enter Tryz.func193, Tryz.ntmps193
    go_wp2_with fail
    go_ret
    rw [HF.out]
    exact ⟨rfl, hB⟩
  · have h20' : ¬ (20 : Int) < (n : Int) := by omega
    go_enter Tryz.func193, Tryz.ntmps193
    go_wp2_with fail
    generalize hw1 : w.alloc (.cells #[.string p, .string v, .slice a n cap, .slice a2 n2 s2, .bool bk] 63) = w1 at *
    clear hw1
    go_loopw [14] (fun i wr => ∃ k : Nat, k ≤ n ∧ i = .int .i64 k ∧ Below w1.heap.size w1 wr ∧ Hid (∀ j, j < k → reqE p.data.toList (mdF n P V) j = 0)) (fun i _ => n - (intOf i).toNat)
    case atStart => exact ⟨0, Nat.zero_le _, rfl, Below.refl _ _, Lib.hid (fun j hj => absurd hj (Nat.not_lt_zero _))⟩
    case round =>
      obtain ⟨k, hk, rfl, hb, HA⟩ := hrel
      by_cases hlt : k < n
      · have hkn0 : (k : Int) < (n : Int) := by omega
        obtain ⟨b1, o1, rfl, c1, c2⟩ := hc.out k hlt
        have hba := below_alloc wr (.cells #[.string (P k), .string (V k)] 26)
        have hBr := below_step (below_step hB hb) hba
        have hB1 := below_step hb hba
        have hE2 := (hE.below hb).below hba
        have d0 := Below.cell_some hB1 z0
        have d1 := Below.cell_some hB1 z1
        obtain ⟨y0, y1, _⟩ := box2_alloc wr (.string (P k)) (.string (V k)) 26
        replace c1 := Below.cell_some hb c1
        replace c2 := Below.cell_some hb c2
        have hck := fun W hW => modCheck_calls ks A hks.2.1 (P k) (V k) W hW (by have := (hP.out k hlt).1; omega) (by have := (hP.out k hlt).2; omega)
        have hR : reqE p.data.toList (mdF n P V) k = if modErr (P k).data.toList (V k).data.toList ≠ 0 then modErr (P k).data.toList (V k).data.toList else if (P k).data.toList = p.data.toList then 3 else if 0 < k ∧ compareBytes (P k).data.toList (mdAt (mdF n P V) (k - 1)).1 ≤ 0 then 8 else 0 := by
          unfold reqE
          rw [mdAt_mdF hlt]; rfl
        by_cases h0 : modErr (P k).data.toList (V k).data.toList = 0
        · rw [if_neg (by simp [h0])] at hR
          rw [h0, errV_zero] at hck
          by_cases hp : (P k).data.toList = p.data.toList
          · rw [if_pos hp] at hR
            have hpb := bytes_eq.1 hp
            have HF : Hid (reqsE p.data.toList (mdF n P V) = 3) := Lib.hid (by
              unfold reqsE
              rw [if_neg (by rw [mdF_length]; exact h20), mdF_length, firstE_hit (by rw [hR]; decide) HA.out hlt, hR])
            replace hck := Lib.hid hck
            have hp1 : ((P k).toList == p.toList) = true := by rw [hpb]; simp
            clear hpb h0 hp hR z0 z1 hb hba
            go_wp2_with fail
            refine (hck.out _ hE2).mono ?_
            rintro e w2 ⟨rfl, hb⟩
            have hB := below_step hBr hb
            replace hE2 := hE2.below hb
            replace d0 := Below.cell_some hb d0
            replace y0 := Below.cell_some hb y0
            have g3 := hE2.errs.var 3 hks.1
            simp only [errG] at g3
            go_wp2_with fail
            go_ret
            rw [HF.out]
            exact ⟨rfl, hB⟩
          · rw [if_neg hp] at hR
            have hp1 : ((P k).toList == p.toList) = false := by rw [toList_data, toList_data]; exact beq_eq_false_iff_ne.2 hp
            have hp2 : (P k).toList ≠ p.toList := by rw [toList_data, toList_data]; exact hp
            have hp3 : P k ≠ p := fun e => hp (by rw [e])
            by_cases hi0 : k = 0
            · subst hi0
              rw [if_neg (by omega)] at hR
              have HN : Hid (∀ j, j < 0 + 1 → reqE p.data.toList (mdF n P V) j = 0) := Lib.hid (fun j hj => by
                obtain rfl : j = 0 := by omega
                exact hR)
              replace hck := Lib.hid hck
              simp only [Nat.zero_mul, Nat.add_zero] at c1 c2
              clear h0 hp hR z0 z1 hb hba
              go_wp2_with fail
              refine (hck.out _ hE2).mono ?_
              rintro e w2 ⟨rfl, hb⟩
              replace hB1 := below_step hB1 hb
              replace d0 := Below.cell_some hb d0
              replace d1 := Below.cell_some hb d1
              replace y0 := Below.cell_some hb y0
              clear hb
              go_wp2_with fail
              have kqy0 := fun d os => cell_patch (d := d) (os := os) y0
              have kqd1 := fun d os => cell_patch (d := d) (os := os) d1
              refine wp_region_quiet_patch (by kernel_rfl) (by kernel_rfl) ?_
              repeat (go_big_quiet_step (fail))
              refine wpQuiet_nil ?_
              intro _ hw'
              obtain ⟨⟨dq, osq⟩, hw''⟩ := hw'
              subst hw''
              clear kqy0 kqd1
              have hb := below_patch w2 dq osq
              replace hB1 := below_step hB1 hb
              clear hb
              generalize patch w2 dq osq = w3 at hB1 ⊢
              clear y0 d0 d1
              go_wp2_with fail
              go_roundw
              case rel => exact ⟨1, by omega, by go_num, hB1, HN⟩
              case measure => simp [intOf]; omega
            · obtain ⟨m, rfl⟩ : ∃ m, k = m + 1 := ⟨k - 1, by omega⟩
              rw [Nat.add_sub_cancel, mdAt_mdF (show m < n by omega)] at hR
              have hle := leq_eq (P (m + 1)) (P m)
              have hk0 : (0 : Int) < ((m + 1 : Nat) : Int) := by omega
              have hk1 : ((m + 1 : Nat) : Int) - 1 = (m : Int) := by omega
              have hkw := wrap_nat m (by omega)
              have hkn : m < n := by omega
              have hkn2 : (m : Int) < (n : Int) := by omega
              obtain ⟨b2, o2, e1, c3, _⟩ := hc.out m (by omega)
              injection e1 with e1
              injection e1 with e1 e2
              subst e1 e2
              have d3 := Below.cell_some hB1 c3
              clear c3
              by_cases hc0 : compareBytes (P (m + 1)).data.toList (P m).data.toList ≤ 0
              · rw [if_pos ⟨Nat.succ_pos m, hc0⟩] at hR
                rw [decide_eq_true hc0] at hle
                have HF : Hid (reqsE p.data.toList (mdF n P V) = 8) := Lib.hid (by
                  unfold reqsE
                  rw [if_neg (by rw [mdF_length]; exact h20), mdF_length, firstE_hit (by rw [hR]; decide) HA.out hlt, hR])
                replace hck := Lib.hid hck
                clear h0 hp hR z0 z1 hb hba hc0
                go_wp2_with fail
                refine (hck.out _ hE2).mono ?_
                rintro e w2 ⟨rfl, hb⟩
                replace hBr := below_step hBr hb
                replace hE2 := hE2.below hb
                replace d0 := Below.cell_some hb d0
                replace d1 := Below.cell_some hb d1
                replace d3 := Below.cell_some hb d3
                replace y0 := Below.cell_some hb y0
                clear hb
                go_wp2_with fail
                have kqy0 := fun d os => cell_patch (d := d) (os := os) y0
                have kqd1 := fun d os => cell_patch (d := d) (os := os) d1
                have kqd3 := fun d os => cell_patch (d := d) (os := os) d3
                refine wp_region_quiet_patch (by kernel_rfl) (by kernel_rfl) ?_
                repeat (go_big_quiet_step (fail))
                refine wpQuiet_nil ?_
                intro _ hw'
                obtain ⟨⟨dq, osq⟩, hw''⟩ := hw'
                subst hw''
                clear kqy0 kqd1 kqd3
                have hb := below_patch w2 dq osq
                replace hBr := below_step hBr hb
                replace hE2 := hE2.below hb
                clear hb
                generalize patch w2 dq osq = w3 at hBr hE2 ⊢
                clear y0 d1 d3 d0
                have g8 := hE2.errs.var 8 hks.2.2.2.2
                simp only [errG] at g8
                go_wp2_with fail
                go_ret
                rw [HF.out]
                exact ⟨rfl, hBr⟩
              · rw [if_neg (fun h => hc0 h.2)] at hR
                rw [decide_eq_false hc0] at hle
                have HN : Hid (∀ j, j < m + 1 + 1 → reqE p.data.toList (mdF n P V) j = 0) := Lib.hid (fun j hj => by
                  by_cases e : j = m + 1
                  · subst e; exact hR
                  · exact HA.out j (by omega))
                replace hck := Lib.hid hck
                clear h0 hp hR z0 z1 hb hba hc0
                go_wp2_with fail
                refine (hck.out _ hE2).mono ?_
                rintro e w2 ⟨rfl, hb⟩
                replace hB1 := below_step hB1 hb
                replace d0 := Below.cell_some hb d0
                replace d1 := Below.cell_some hb d1
                replace d3 := Below.cell_some hb d3
                replace y0 := Below.cell_some hb y0
                clear hb
                go_wp2_with fail
                have kqy0 := fun d os => cell_patch (d := d) (os := os) y0
                have kqd1 := fun d os => cell_patch (d := d) (os := os) d1
                have kqd3 := fun d os => cell_patch (d := d) (os := os) d3
                refine wp_region_quiet_patch (by kernel_rfl) (by kernel_rfl) ?_
                repeat (go_big_quiet_step (fail))
                refine wpQuiet_nil ?_
                intro _ hw'
                obtain ⟨⟨dq, osq⟩, hw''⟩ := hw'
                subst hw''
                clear kqy0 kqd1 kqd3
                have hb := below_patch w2 dq osq
                replace hB1 := below_step hB1 hb
                clear hb
                generalize patch w2 dq osq = w3 at hB1 ⊢
                clear y0 d1 d3 d0
                go_wp2_with fail
                go_roundw
                case rel => exact ⟨m + 1 + 1, by omega, by go_num, hB1, HN⟩
                case measure => simp [intOf]; omega
        · rw [if_pos h0] at hR
          rw [errV_pos A h0] at hck
          have HF : Hid (errV A (reqsE p.data.toList (mdF n P V)) = .iface 283 (.pointer (some (A (modErr (P k).data.toList (V k).data.toList))))) := Lib.hid (by
            unfold reqsE
            rw [if_neg (by rw [mdF_length]; exact h20), mdF_length, firstE_hit (by rw [hR]; exact h0) HA.out hlt, hR]
            exact errV_pos A h0)
          replace hck := Lib.hid hck
          clear h0 hR z0 z1 hb hba
          go_wp2_with fail
          refine (hck.out _ hE2).mono ?_
          rintro e w2 ⟨rfl, hb⟩
          have hB := below_step hBr hb
          go_wp2_with fail
          go_ret
          rw [HF.out]
          exact ⟨rfl, hB⟩
      · obtain rfl : k = n := by omega
        have HF : Hid (reqsE p.data.toList (mdF k P V) = 0) := Lib.hid (by
          unfold reqsE
          rw [if_neg (by rw [mdF_length]; exact h20), mdF_length, firstE_none HA.out])
        have hBB := below_step hB hb
        go_wp2_with fail
        go_ret
        rw [HF.out]
        exact ⟨rfl, hBB⟩

/-! ### packages -/
set_option maxHeartbeats 400000 in
theorem indexFuncT_calls (g : Nat) (lb : Array Value) (eg : ∀ args w, (callFunc g args).run Tryz.prog w = .ok (.enter g args) w) (p : Str → Bool) (a : Option Addr) (n cap : Nat) (L : Nat → ByteArray) (w : World) (hn : n ≤ 4000000001)
    (hc : ∀ j, j < n → ∃ b o, a = some ⟨b, o, none⟩ ∧ w.cell? ⟨b, o + j, none⟩ = some (.string (L j))) (hT : Tests g lb p n L w) :
    Calls Tryz.prog 168 #[.slice a n cap, .func (.func g) #[] lb] w fun e w' => (∃ i : Int, e = .returned (.int .i64 i) ∧ (0 ≤ i ↔ (lstF n L).any p = true)) ∧ Below w.heap.size w w' := by
  replace hc := Lib.hid hc
  replace hT := Lib.hid hT
  go_enter Tryz.func168, Tryz.ntmps168
  go_wp2_with fail
  go_loopw [8] (fun i wr => ∃ k : Nat, k ≤ n ∧ i = .int .i64 k ∧ Below w.heap.size w wr ∧ Hid (∀ j, j < k → p (L j).data.toList = false)) (fun i _ => n - (intOf i).toNat)
  case atStart => exact ⟨0, by omega, rfl, Below.refl _ _, Lib.hid (fun j hj => absurd hj (Nat.not_lt_zero _))⟩
  case round =>
    obtain ⟨k, hk, rfl, hb, HA⟩ := hrel
    by_cases hlt : k < n
    · obtain ⟨b1, o1, rfl, c0⟩ := hc.out k hlt
      have hck := Below.cell_some hb c0
      have hcall := hT.out wr hb k hlt
      clear c0
      cases hq : p (L k).data.toList with
      | true =>
        have HF : Hid ((lstF n L).any p = true) := Lib.hid ((any_lstF p L n).2 ⟨k, hlt, hq⟩)
        rw [hq] at hcall
        clear hq
        go_wp2_with (go_at_fn g; refine hcall.mono ?_; rintro e w' ⟨rfl, hb2⟩)
        go_ret
        exact ⟨⟨_, rfl, iff_of_true (by omega) HF.out⟩, below_step hb hb2⟩
      | false =>
        have HN : Hid (∀ j, j < k + 1 → p (L j).data.toList = false) := Lib.hid (fun j hj => by
          by_cases e : j = k
          · subst e; exact hq
          · exact HA.out j (by omega))
        rw [hq] at hcall
        clear hq
        go_wp2_with (go_at_fn g; refine hcall.mono ?_; rintro e w' ⟨rfl, hb2⟩)
        go_roundw
        case rel => exact ⟨k + 1, by omega, by go_num, below_step hb hb2, HN⟩
        case measure => simp [intOf]; omega
    · obtain rfl : k = n := by omega
      go_wp2_with fail
      go_ret
      refine ⟨⟨_, rfl, iff_of_false (by decide) ?_⟩, hb⟩
      intro h
      obtain ⟨j, hj, h2⟩ := (any_lstF p L k).1 h
      rw [HA.out j hj] at h2
      cases h2
theorem containsT_calls (g : Nat) (lb : Array Value) (eg : ∀ args w, (callFunc g args).run Tryz.prog w = .ok (.enter g args) w) (p : Str → Bool) (a : Option Addr) (n cap : Nat) (L : Nat → ByteArray) (w : World) (hn : n ≤ 4000000001)
    (hc : ∀ j, j < n → ∃ b o, a = some ⟨b, o, none⟩ ∧ w.cell? ⟨b, o + j, none⟩ = some (.string (L j))) (hT : Tests g lb p n L w) :
    Calls Tryz.prog 122 #[.slice a n cap, .func (.func g) #[] lb] w fun e w' => e = .returned (.bool ((lstF n L).any p)) ∧ Below w.heap.size w w' := by
  have hi := indexFuncT_calls g lb eg p a n cap L w hn hc hT
  generalize (lstF n L).any p = X at hi ⊢
  replace hi := Lib.hid hi
  clear hc hT
  go_enter Tryz.func122, Tryz.ntmps122
  go_wp2_with fail
  refine hi.out.mono ?_
  rintro e w1 ⟨⟨i, rfl, hiff⟩, hb⟩
  cases X with
  | true =>
    have h0 := hiff.2 rfl
    clear hiff
    go_wp2_with fail
    go_ret
    exact ⟨rfl, hb⟩
  | false =>
    have h0 : ¬ (0 ≤ i) := fun h => by have := hiff.1 h; cases this
    clear hiff
    go_wp2_with fail
    go_ret
    refine ⟨?_, hb⟩
    show Ending.returned (Value.bool (decide (0 ≤ i))) = _
    rw [decide_eq_false (by omega)]

theorem Tryz.enters_packs1 : ∀ args w, (callFunc 227 args).run Tryz.prog w = .ok (.enter 227 args) w := Go.Proofs.enters_of Tryz.func227 (by kernel_rfl) rfl
theorem packs1_calls (ks : List Nat) (A : Nat → Addr) (h4 : 4 ∈ ks) (s : ByteArray) (w : World) (hE : EnvP ks A w) (hs : s.size ≤ 1000000) :
    Calls Tryz.prog 227 #[.string s] w fun e w' => e = .returned (.bool (!packOk s.data.toList)) ∧ Below w.heap.size w w' := by
  have hpa := path_calls ks A h4 s w hE (by omega)
  by_cases h1 : s.data.toList = [46]
  · have HF : Hid ((!packOk s.data.toList) = false) := Lib.hid (by unfold packOk; rw [decide_eq_true h1]; rfl)
    have h2 : (s.toList != [46]) = false := by rw [toList_data, h1]; rfl
    have h3 : s.toList = [46] := by rw [toList_data, h1]
    clear h1 hpa
    go_enter Tryz.func227, Tryz.ntmps227
    go_wp2_with fail
    go_ret
    rw [HF.out]
    exact ⟨rfl, Below.refl _ _⟩
  · have h2 : (s.toList != [46]) = true := by rw [toList_data]; exact bne_iff_ne.2 h1
    have h3 : s.toList ≠ [46] := by rw [toList_data]; exact h1
    have h5 : (s.toList == [46]) = false := beq_eq_false_iff_ne.2 h3
    by_cases h0 : pathErr s.data.toList = 0
    · have HF : Hid ((!packOk s.data.toList) = false) := Lib.hid (by unfold packOk; rw [decide_eq_true h0, Bool.or_true]; rfl)
      rw [h0, errV_zero] at hpa
      clear h0 h1
      replace hpa := Lib.hid hpa
      go_enter Tryz.func227, Tryz.ntmps227
      go_wp2_with fail
      refine hpa.out.mono ?_
      rintro e w1 ⟨rfl, hb⟩
      go_wp2_with fail
      go_ret
      rw [HF.out]
      exact ⟨rfl, hb⟩
    · have HF : Hid ((!packOk s.data.toList) = true) := Lib.hid (by unfold packOk; rw [decide_eq_false h0, decide_eq_false h1]; rfl)
      rw [errV_pos A h0] at hpa
      clear h0 h1
      replace hpa := Lib.hid hpa
      go_enter Tryz.func227, Tryz.ntmps227
      go_wp2_with fail
      refine hpa.out.mono ?_
      rintro e w1 ⟨rfl, hb⟩
      go_wp2_with fail
      go_ret
      rw [HF.out]
      exact ⟨rfl, hb⟩

theorem getD_lstF {n : Nat} {L : Nat → ByteArray} {j : Nat} (h : j < n) : (lstF n L).getD j [] = (L j).data.toList := by
  rw [List.getD_eq_getElem?_getD]
  simp [lstF, h]
set_option maxHeartbeats 2000000 in
set_option maxRecDepth 100000 in
theorem idxPacks_calls (ks : List Nat) (A : Nat → Addr) (hks : IdxKs ks) (p v : ByteArray) (kv : Value) (a1 : Option Addr) (n1 s1 : Nat) (bk : Bool) (K : List Str) (w : World) (hE : EnvP ks A w) (hk : StrsAt w kv K) (hK : K.length ≤ 1000000) (hs : ∀ s ∈ K, s.length ≤ 1000000) :
    Calls Tryz.prog 194 #[.agg #[.string p, .string v, .slice a1 n1 s1, kv, .bool bk]] w fun e w' => e = .returned (errV A (packsE K)) ∧ Below w.heap.size w w' := by
  obtain ⟨a, n, cap, L, rfl, rfl, hnc, hcap, hc⟩ := hk
  have hn : n ≤ 1000000 := by simpa [lstF] using hK
  have hL : Hid (∀ j, j < n → (L j).size ≤ 1000000) := Lib.hid (fun j hj => by
    rw [size_eq]
    exact hs _ (List.mem_of_getElem? (show (lstF n L)[j]? = some (L j).data.toList by simp [lstF, hj])))
  have hlen : (lstF n L).length = n := by simp [lstF]
  have hB := below_alloc w (.cells #[.string p, .string v, .slice a1 n1 s1, .slice a n cap, .bool bk] 63)
  have z1 : (w.alloc (.cells #[.string p, .string v, .slice a1 n1 s1, .slice a n cap, .bool bk] 63)).cell? ⟨w.heap.size, 3, none⟩ = some (.slice a n cap) := by simp
  replace hc : ∀ j, j < n → ∃ b o, a = some ⟨b, o, none⟩ ∧ (w.alloc (.cells #[.string p, .string v, .slice a1 n1 s1, .slice a n cap, .bool bk] 63)).cell? ⟨b, o + j, none⟩ = some (.string (L j)) := fun j hj =>
    let ⟨b, o, e, h1⟩ := hc j hj; ⟨b, o, e, Below.cell_some hB h1⟩
  replace hE := hE.below hB
  have hct := containsT_calls 227 #[] Tryz.enters_packs1 (fun s => !packOk s) a n cap L (w.alloc (.cells #[.string p, .string v, .slice a1 n1 s1, .slice a n cap, .bool bk] 63)) (by omega) hc
    (fun W hW j hj => packs1_calls ks A hks.2.1 (L j) W (hE.below hW) (hL.out j hj))
  replace hc := Lib.hid hc
  clear hs hK hL
  by_cases h10 : 10 < n
  · have h10' : (10 : Int) < (n : Int) := by omega
    have HF : Hid (packsE (lstF n L) = 7) := Lib.hid (by unfold packsE; rw [if_pos (by rw [hlen]; exact h10)])
    have g7 := hE.errs.var 7 hks.2.2.2.1
    simp only [errG] at g7
    clear hct
    go_enter Tryz.func194, Tryz.ntmps194
    go_wp2_with fail
    go_ret
    rw [HF.out]
    exact ⟨rfl, hB⟩
  · have h10' : ¬ (10 : Int) < (n : Int) := by omega
    by_cases hall : (lstF n L).all packOk = true
    · have HF0 : Hid (packsE (lstF n L) = (firstE (packE (lstF n L)) n).1) := Lib.hid (by unfold packsE; rw [if_neg (by rw [hlen]; exact h10), if_pos hall, hlen])
      have e0 : (lstF n L).any (fun s => !packOk s) = false := by
        rw [List.all_eq_true] at hall
        rw [List.any_eq_false]
        intro x hx
        rw [hall x hx]; decide
      rw [e0] at hct
      clear hall e0
      replace hct := Lib.hid hct
      go_enter Tryz.func194, Tryz.ntmps194
      go_wp2_with fail
      refine hct.out.mono ?_
      rintro e w1 ⟨rfl, hb⟩
      replace z1 := Below.cell_some hb z1
      replace hE := hE.below hb
      have hc1 : Hid (∀ j, j < n → ∃ b o, a = some ⟨b, o, none⟩ ∧ w1.cell? ⟨b, o + j, none⟩ = some (.string (L j))) := Lib.hid (fun j hj => let ⟨b, o, e, h1⟩ := hc.out j hj; ⟨b, o, e, Below.cell_some hb h1⟩)
      replace hB := below_step hB hb
      clear hct hb hc
      go_wp2_with fail
      go_loopw [3] (fun i wr => ∃ k : Nat, k ≤ n ∧ i = .int .i64 ((k : Int) + 1) ∧ Below w1.heap.size w1 wr ∧ Hid (∀ j, j < k + 1 → j < n → packE (lstF n L) j = 0)) (fun i _ => n + 1 - (intOf i).toNat)
      case atStart => exact ⟨0, Nat.zero_le _, rfl, Below.refl _ _, Lib.hid (fun j hj _ => by
        obtain rfl : j = 0 := by omega
        unfold packE
        rw [if_neg (fun h => absurd h.1 (Nat.lt_irrefl _))])⟩
      case round =>
        obtain ⟨m, hm, rfl, hb, HA⟩ := hrel
        have d1 := Below.cell_some hb z1
        have hwm := wrap_nat (m + 1) (by omega)
        by_cases hlt : m + 1 < n
        · have hlt' : (m : Int) + 1 < (n : Int) := by omega
          obtain ⟨b1, o1, rfl, c1⟩ := hc1.out (m + 1) hlt
          obtain ⟨b2, o2, e1, c2⟩ := hc1.out m (by omega)
          injection e1 with e1
          injection e1 with e1 e2
          subst e1 e2
          replace c1 := Below.cell_some hb c1
          replace c2 := Below.cell_some hb c2
          have hle := leq_eq (L (m + 1)) (L m)
          have hR : packE (lstF n L) (m + 1) = if compareBytes (L (m + 1)).data.toList (L m).data.toList ≤ 0 then 8 else 0 := by
            unfold packE
            rw [getD_lstF hlt, Nat.add_sub_cancel, getD_lstF (by omega)]
            by_cases hq : compareBytes (L (m + 1)).data.toList (L m).data.toList ≤ 0
            · rw [if_pos ⟨Nat.succ_pos _, hq⟩, if_pos hq]
            · rw [if_neg (fun h => hq h.2), if_neg hq]
          have hkw := wrap_nat m (by omega)
          have hwm' : IntKind.i64.wrap ((m : Int) + 1) = (m : Int) + 1 := by have := hwm; push_cast at this; exact this
          have hm0 : ((m : Int) + 1 - 1) = (m : Int) := by omega
          have hm1 : (m : Int) < (n : Int) := by omega
          have hm2 : ((m : Int) + 1).toNat = m + 1 := by omega
          have hm3 : (0 : Int) ≤ (m : Int) + 1 := by omega
          have hm4 : ¬ ((m : Int) + 1 < 0) := by omega
          by_cases hc0 : compareBytes (L (m + 1)).data.toList (L m).data.toList ≤ 0
          · rw [if_pos hc0] at hR
            rw [decide_eq_true hc0] at hle
            have HF : Hid (packsE (lstF n L) = 8) := Lib.hid (by
              rw [HF0.out, firstE_hit (by rw [hR]; decide) (fun j hj => HA.out j (by omega) (by omega)) hlt, hR])
            have hE2 := hE.below hb
            have hBr := below_step hB hb
            clear hc0 hR HF0 HA z1 hb
            go_wp2_with fail
            have kqc1 := fun d os => cell_patch (d := d) (os := os) c1
            have kqd1 := fun d os => cell_patch (d := d) (os := os) d1
            have kqc2 := fun d os => cell_patch (d := d) (os := os) c2
            refine wp_region_quiet_patch (by kernel_rfl) (by kernel_rfl) ?_
            repeat (go_big_quiet_step (fail))
            refine wpQuiet_nil ?_
            intro _ hw'
            obtain ⟨⟨dq, osq⟩, hw''⟩ := hw'
            subst hw''
            clear kqc1 kqd1 kqc2
            have hb := below_patch wr dq osq
            replace hBr := below_step hBr hb
            replace hE2 := hE2.below hb
            clear hb
            generalize patch wr dq osq = w3 at hBr hE2 ⊢
            clear c1 d1 c2
            have g8 := hE2.errs.var 8 hks.2.2.2.2
            simp only [errG] at g8
            go_wp2_with fail
            go_ret
            rw [HF.out]
            exact ⟨rfl, hBr⟩
          · rw [if_neg hc0] at hR
            rw [decide_eq_false hc0] at hle
            have HN : Hid (∀ j, j < m + 1 + 1 → j < n → packE (lstF n L) j = 0) := Lib.hid (fun j hj hjn => by
              by_cases e : j = m + 1
              · subst e; exact hR
              · exact HA.out j (by omega) hjn)
            clear hc0 hR z1
            have hB1 := hb
            clear hb
            go_wp2_with fail
            have kqc1 := fun d os => cell_patch (d := d) (os := os) c1
            have kqd1 := fun d os => cell_patch (d := d) (os := os) d1
            have kqc2 := fun d os => cell_patch (d := d) (os := os) c2
            refine wp_region_quiet_patch (by kernel_rfl) (by kernel_rfl) ?_
            repeat (go_big_quiet_step (fail))
            refine wpQuiet_nil ?_
            intro _ hw'
            obtain ⟨⟨dq, osq⟩, hw''⟩ := hw'
            subst hw''
            clear kqc1 kqd1 kqc2
            have hb := below_patch wr dq osq
            replace hB1 := below_step hB1 hb
            clear hb
            generalize patch wr dq osq = w3 at hB1 ⊢
            clear c1 d1 c2
            go_wp2_with fail
            go_roundw
            case rel => exact ⟨m + 1, by omega, by go_num, hB1, HN⟩
            case measure => simp [intOf]; omega
        · have hlt' : ¬ (m : Int) + 1 < (n : Int) := by omega
          have HF : Hid (packsE (lstF n L) = 0) := Lib.hid (by
            rw [HF0.out, firstE_none (fun j hj => HA.out j (by omega) hj)])
          have hBB := below_step hB hb
          go_wp2_with fail
          go_ret
          rw [HF.out]
          exact ⟨rfl, hBB⟩
    · have HF : Hid (packsE (lstF n L) = 1) := Lib.hid (by unfold packsE; rw [if_neg (by rw [hlen]; exact h10), if_neg hall])
      have e0 : (lstF n L).any (fun s => !packOk s) = true := by
        by_cases h : (lstF n L).any (fun s => !packOk s) = true
        · exact h
        · exfalso
          apply hall
          rw [List.all_eq_true]
          intro x hx
          by_cases hx2 : packOk x = true
          · exact hx2
          · exact absurd (List.any_eq_true.2 ⟨x, hx, by simpa using hx2⟩) h
      rw [e0] at hct
      clear hall e0
      replace hct := Lib.hid hct
      go_enter Tryz.func194, Tryz.ntmps194
      go_wp2_with fail
      refine hct.out.mono ?_
      rintro e w1 ⟨rfl, hb⟩
      replace hE := hE.below hb
      replace hB := below_step hB hb
      have g1 := hE.errs.var 1 hE.has.1
      simp only [errG] at g1
      go_wp2_with fail
      go_ret
      rw [HF.out]
      exact ⟨rfl, hB⟩
end Go.Proofs.Pw

/- index.entry. -/
namespace Go.Proofs.Pw
open Go.RowKit
open Go.Lib hiding intOf

theorem reqsE_of (e : En) : reqsErr e = reqsE e.md.1 e.reqs := rfl
theorem packsE_of (e : En) : packsErr e = packsE e.packs := rfl

/-- the four stages of an entry -/
def stagesE (a : Nat) (b : Bool) (c d : Nat) : Nat := if a ≠ 0 then a else if b = true then 8 else if c ≠ 0 then c else d
theorem entErr_stages (l : List En) (i : Nat) : entErr l i = stagesE (mdErr (enAt l i).md) (decide (0 < i ∧ modAhead (enAt l (i - 1)).md (enAt l i).md = false)) (reqsErr (enAt l i)) (packsErr (enAt l i)) := by
  unfold entErr stagesE
  simp only [decide_eq_true_eq]


set_option maxHeartbeats 4000000 in
set_option maxRecDepth 100000 in
theorem idxEntry_calls (ks : List Nat) (A : Nat → Addr) (hks : IdxKs ks) (a : Option Addr) (n cap : Nat) (P V : Nat → ByteArray) (R : Nat → List Md) (K : Nat → List Str) (B : Nat → Bool) (Rv Kv : Nat → Value) (i : Nat) (w : World) (hE : EnvP ks A w) (h : EntsIn w a n cap P V R K B Rv Kv) (hs : ShortI (enF n P V R K B)) (hi : i < n) :
    Calls Tryz.prog 148 #[.slice a n cap, .int .i64 i] w fun e w' => e = .returned (errV A (entErr (enF n P V R K B) i)) ∧ Below w.heap.size w w' := by
  have hB := Below.refl w.heap.size w
  obtain ⟨hn, hp1, hv1, hsr, hk1, hk2⟩ := hs.at_ hi
  have HS0 := entErr_stages (enF n P V R K B) i
  rw [reqsE_of, packsE_of, enAt_enF hi] at HS0
  have hck := fun W hW => modCheck_calls ks A hks.2.1 (P i) (V i) W hW (by omega) (by omega)
  obtain ⟨b1, o1, ea, hcell⟩ := h.at_ i hi
  obtain ⟨a1, n1, s1, a2, n2, s2, e1, e2⟩ := h.forms hi
  have hrq := fun W (hW : EnvP ks A W) (hb : Below w.heap.size w W) => idxReqs_calls ks A hks (P i) (V i) (Rv i) a2 n2 s2 (B i) (R i) W hW ((h.reqs i hi).below hb) hsr
  have hpk := fun W (hW : EnvP ks A W) (hb : Below w.heap.size w W) => idxPacks_calls ks A hks (P i) (V i) (Kv i) a1 n1 s1 (B i) (K i) W hW ((h.packs i hi).below hb) hk1 hk2
  rw [e1, e2] at hcell
  simp only [e1] at hrq
  simp only [e2] at hpk
  have hki : (i : Int) < (n : Int) := by omega
  by_cases h0 : modErr (P i).data.toList (V i).data.toList = 0
  · rw [h0, errV_zero] at hck
    by_cases hi0 : i = 0
    · subst hi0
      rw [decide_eq_false (p := _ ∧ _) (fun h => absurd h.1 (by omega))] at HS0
      have HS := Lib.hid HS0
      clear HS0
      simp only [Nat.zero_mul, Nat.add_zero] at hcell
      subst ea
      replace hck := Lib.hid hck
      replace h0 := Lib.hid h0
      clear h hs e1 e2
      obtain ⟨c0, c1, c2, c3, c4⟩ := id hcell
      go_enter Tryz.func148, Tryz.ntmps148
      go_wp2_with fail
      refine (hck.out _ hE).mono ?_
      rintro e w1 ⟨rfl, hb⟩
      replace hB := below_step hB hb
      replace hE := hE.below hb
      replace hcell := hcell.below hb
      clear hb
      clear c0 c1 c2 c3 c4
      go_wp2_with fail
      refine wp_region_quiet_patch (by kernel_rfl) (by kernel_rfl) ?_
      repeat (go_big_quiet_step (fail))
      refine wpQuiet_nil ?_
      intro _ hw'
      obtain ⟨⟨dq, osq⟩, hw''⟩ := hw'
      subst hw''
      have hb := below_patch w1 dq osq
      replace hB := below_step hB hb
      replace hE := hE.below hb
      replace hcell := hcell.below hb
      clear hb
      generalize patch w1 dq osq = w2 at hB hE hcell ⊢
      obtain ⟨c0, c1, c2, c3, c4⟩ := id hcell
      cases hq : decide (reqsE (P 0).data.toList (R 0) = 0) with
      | true =>
        have hq := of_decide_eq_true hq
        rw [hq, errV_zero] at hrq
        have HF2 : Hid (entErr (enF n P V R K B) 0 = packsE (K 0)) := Lib.hid (by rw [HS.out]; unfold stagesE; rw [if_neg (fun h => h h0.out), if_neg (by simp), if_neg (by simp [hq])])
        replace hrq := Lib.hid hrq
        replace hpk := Lib.hid hpk
        clear hq
        go_wp2_with fail
        refine (hrq.out _ hE hB).mono ?_
        rintro e w5 ⟨rfl, hb⟩
        replace hB := below_step hB hb
        replace hE := hE.below hb
        replace hcell := hcell.below hb
        clear hb
        clear c0 c1 c2 c3 c4
        obtain ⟨c0, c1, c2, c3, c4⟩ := id hcell
        go_wp2_with fail
        refine (hpk.out _ hE hB).mono ?_
        rintro e w6 ⟨rfl, hb⟩
        have hB6 := below_step hB hb
        go_wp2_with fail
        go_ret
        rw [HF2.out]
        exact ⟨rfl, hB6⟩
      | false =>
        have hq := of_decide_eq_false hq
        have HF2 : Hid (entErr (enF n P V R K B) 0 = reqsE (P 0).data.toList (R 0)) := Lib.hid (by rw [HS.out]; unfold stagesE; rw [if_neg (fun h => h h0.out), if_neg (by simp), if_pos hq])
        have HF3 : Hid (errV A (reqsE (P 0).data.toList (R 0)) = .iface 283 (.pointer (some (A (reqsE (P 0).data.toList (R 0)))))) := Lib.hid (errV_pos A hq)
        rw [errV_pos A hq] at hrq
        replace hrq := Lib.hid hrq
        replace hpk := Lib.hid hpk
        clear hq
        go_wp2_with fail
        refine (hrq.out _ hE hB).mono ?_
        rintro e w5 ⟨rfl, hb⟩
        have hB5 := below_step hB hb
        go_wp2_with fail
        go_ret
        rw [HF2.out, HF3.out]
        exact ⟨rfl, hB5⟩
    · obtain ⟨k, rfl⟩ : ∃ k, i = k + 1 := ⟨i - 1, by omega⟩
      have hkn : k < n := by omega
      obtain ⟨_, hp2, hv2, _, _, _⟩ := hs.at_ hkn
      rw [Nat.add_sub_cancel, enAt_enF hkn] at HS0
      have hk0 : (0 : Int) < ((k + 1 : Nat) : Int) := by omega
      have hk1' : ((k + 1 : Nat) : Int) - 1 = (k : Int) := by omega
      have hkw := wrap_nat k (by omega)
      have hkw1 := wrap_nat (k + 1) (by omega)
      have hkn2 : (k : Int) < (n : Int) := by omega
      have hkn3 : (k : Int) + 1 < (n : Int) := by omega
      have hkn4 : ((k : Int) + 1).toNat = k + 1 := by omega
      have hkn5 : (0 : Int) ≤ (k : Int) + 1 := by omega
      have hkn6 : ¬ ((k : Int) + 1 < 0) := by omega
      obtain ⟨b2, o2, eb, hcell2⟩ := h.at_ k hkn
      rw [ea] at eb
      injection eb with eb
      injection eb with eb1 eb2
      subst eb1 eb2
      obtain ⟨d0, d1, d2, d3, d4⟩ := hcell2
      subst ea
      have hah := fun W hW => modAhead_calls ks A (P k) (V k) (P (k + 1)) (V (k + 1)) W hW (by omega) (by omega)
      cases hX : modAhead ((P k).data.toList, (V k).data.toList) ((P (k + 1)).data.toList, (V (k + 1)).data.toList) with
      | true =>
        rw [hX] at hah
        rw [decide_eq_false (p := _ ∧ _) (fun h => by rw [hX] at h; cases h.2)] at HS0
        have HS := Lib.hid HS0
        clear HS0
        replace hck := Lib.hid hck
        replace hah := Lib.hid hah
        replace h0 := Lib.hid h0
        clear h hs e1 e2 hX d2 d3 d4
        obtain ⟨c0, c1, c2, c3, c4⟩ := id hcell
        go_enter Tryz.func148, Tryz.ntmps148
        go_wp2_with fail
        refine (hck.out _ hE).mono ?_
        rintro e w1 ⟨rfl, hb⟩
        replace hB := below_step hB hb
        replace hE := hE.below hb
        replace hcell := hcell.below hb
        replace c0 := Below.cell_some hb c0
        replace c1 := Below.cell_some hb c1
        replace d0 := Below.cell_some hb d0
        replace d1 := Below.cell_some hb d1
        clear hb
        go_wp2_with fail
        have kE := Lib.hid (fun d os => hE.below (below_patch w1 d os))
        have kqc0 := fun d os => cell_patch (d := d) (os := os) c0
        have kqc1 := fun d os => cell_patch (d := d) (os := os) c1
        have kqd0 := fun d os => cell_patch (d := d) (os := os) d0
        have kqd1 := fun d os => cell_patch (d := d) (os := os) d1
        refine wp_region_quiet_patch (by kernel_rfl) (by kernel_rfl) ?_
        repeat (go_big_quiet_step ((go_at_call 65; with_reducible exact Calls.patch_of (hah.out _ (kE.out _ _)))))
        refine wpQuiet_nil ?_
        intro _ hw'
        obtain ⟨⟨dq, osq⟩, hw''⟩ := hw'
        subst hw''
        clear kqc0 kqc1 kqd0 kqd1
        have hb := below_patch w1 dq osq
        replace hB := below_step hB hb
        replace hE := hE.below hb
        replace hcell := hcell.below hb
        clear hb
        generalize patch w1 dq osq = w2 at hB hE hcell ⊢
        clear c0 c1 c2 c3 c4 d0 d1
        obtain ⟨c0, c1, c2, c3, c4⟩ := id hcell
        cases hq : decide (reqsE (P (k + 1)).data.toList (R (k + 1)) = 0) with
        | true =>
          have hq := of_decide_eq_true hq
          rw [hq, errV_zero] at hrq
          have HF2 : Hid (entErr (enF n P V R K B) (k + 1) = packsE (K (k + 1))) := Lib.hid (by rw [HS.out]; unfold stagesE; rw [if_neg (fun h => h h0.out), if_neg (by simp), if_neg (by simp [hq])])
          replace hrq := Lib.hid hrq
          replace hpk := Lib.hid hpk
          clear hq
          go_wp2_with fail
          refine (hrq.out _ hE hB).mono ?_
          rintro e w5 ⟨rfl, hb⟩
          replace hB := below_step hB hb
          replace hE := hE.below hb
          replace hcell := hcell.below hb
          clear hb
          clear c0 c1 c2 c3 c4
          obtain ⟨c0, c1, c2, c3, c4⟩ := id hcell
          go_wp2_with fail
          refine (hpk.out _ hE hB).mono ?_
          rintro e w6 ⟨rfl, hb⟩
          have hB6 := below_step hB hb
          go_wp2_with fail
          go_ret
          rw [HF2.out]
          exact ⟨rfl, hB6⟩
        | false =>
          have hq := of_decide_eq_false hq
          have HF2 : Hid (entErr (enF n P V R K B) (k + 1) = reqsE (P (k + 1)).data.toList (R (k + 1))) := Lib.hid (by rw [HS.out]; unfold stagesE; rw [if_neg (fun h => h h0.out), if_neg (by simp), if_pos hq])
          have HF3 : Hid (errV A (reqsE (P (k + 1)).data.toList (R (k + 1))) = .iface 283 (.pointer (some (A (reqsE (P (k + 1)).data.toList (R (k + 1))))))) := Lib.hid (errV_pos A hq)
          rw [errV_pos A hq] at hrq
          replace hrq := Lib.hid hrq
          replace hpk := Lib.hid hpk
          clear hq
          go_wp2_with fail
          refine (hrq.out _ hE hB).mono ?_
          rintro e w5 ⟨rfl, hb⟩
          have hB5 := below_step hB hb
          go_wp2_with fail
          go_ret
          rw [HF2.out, HF3.out]
          exact ⟨rfl, hB5⟩
      | false =>
        rw [hX] at hah
        rw [decide_eq_true (p := _ ∧ _) ⟨Nat.succ_pos k, hX⟩] at HS0
        have HF : Hid (entErr (enF n P V R K B) (k + 1) = 8) := Lib.hid (by rw [HS0]; unfold stagesE; rw [if_neg (by show ¬ mdErr _ ≠ 0; simp [mdErr, h0]), if_pos rfl])
        clear HS0
        replace hck := Lib.hid hck
        replace hah := Lib.hid hah
        replace h0 := Lib.hid h0
        obtain ⟨c0, c1, c2, c3, c4⟩ := hcell
        clear h hs e1 e2 hX d2 d3 d4 c2 c3 c4 hrq hpk
        go_enter Tryz.func148, Tryz.ntmps148
        go_wp2_with fail
        refine (hck.out _ hE).mono ?_
        rintro e w1 ⟨rfl, hb⟩
        replace hB := below_step hB hb
        replace hE := hE.below hb
        replace c0 := Below.cell_some hb c0
        replace c1 := Below.cell_some hb c1
        replace d0 := Below.cell_some hb d0
        replace d1 := Below.cell_some hb d1
        clear hb
        go_wp2_with fail
        have kE := Lib.hid (fun d os => hE.below (below_patch w1 d os))
        have kqc0 := fun d os => cell_patch (d := d) (os := os) c0
        have kqc1 := fun d os => cell_patch (d := d) (os := os) c1
        have kqd0 := fun d os => cell_patch (d := d) (os := os) d0
        have kqd1 := fun d os => cell_patch (d := d) (os := os) d1
        refine wp_region_quiet_patch (by kernel_rfl) (by kernel_rfl) ?_
        repeat (go_big_quiet_step ((go_at_call 65; with_reducible exact Calls.patch_of (hah.out _ (kE.out _ _)))))
        refine wpQuiet_nil ?_
        intro _ hw'
        obtain ⟨⟨dq, osq⟩, hw''⟩ := hw'
        subst hw''
        clear kqc0 kqc1 kqd0 kqd1
        have hb := below_patch w1 dq osq
        replace hB := below_step hB hb
        replace hE := hE.below hb
        clear hb
        generalize patch w1 dq osq = w2 at hB hE ⊢
        clear c0 c1 d0 d1
        have g8 := hE.errs.var 8 hks.2.2.2.2
        simp only [errG] at g8
        go_wp2_with fail
        go_ret
        rw [HF.out]
        exact ⟨rfl, hB⟩
  · have HF : Hid (errV A (entErr (enF n P V R K B) i) = .iface 283 (.pointer (some (A (modErr (P i).data.toList (V i).data.toList))))) := Lib.hid (by
      rw [HS0]
      unfold stagesE
      rw [if_pos (by exact h0)]
      exact errV_pos A h0)
    rw [errV_pos A h0] at hck
    subst ea
    replace hck := Lib.hid hck
    obtain ⟨c0, c1, c2, c3, c4⟩ := hcell
    clear h hs e1 e2 hrq hpk HS0 c2 c3 c4
    go_enter Tryz.func148, Tryz.ntmps148
    go_wp2_with fail
    refine (hck.out _ hE).mono ?_
    rintro e w1 ⟨rfl, hb⟩
    replace hB := below_step hB hb
    clear hb
    go_wp2_with fail
    go_ret
    rw [HF.out]
    exact ⟨rfl, hB⟩
end Go.Proofs.Pw

/- index.Check. Conditions: texts of at most 1000000 bytes, lists of at most 1000000. -/
namespace Go.Proofs.Pw
open Go.RowKit
open Go.Lib hiding intOf

theorem any_findI {α : Type} {p : α → Bool} {l : List α} : l.any p = true ↔ 0 ≤ findI p l := by
  by_cases h : findI p l < 0
  · refine iff_of_false (fun h2 => ?_) (by omega)
    obtain ⟨x, hx, h3⟩ := List.any_eq_true.1 h2
    have := findI_eq_none.1 h x hx
    rw [this] at h3; cases h3
  · refine iff_of_true ?_ (by omega)
    obtain ⟨x, hx, h3⟩ := findI_spec (show findI p l = ((findI p l).toNat : Int) by omega)
    exact List.any_eq_true.2 ⟨x, List.mem_of_getElem? hx, h3⟩

theorem containsMf_calls (g : Nat) (lb : Array Value) (eg : ∀ args w, (callFunc g args).run Tryz.prog w = .ok (.enter g args) w) (p : Md → Bool) (a : Option Addr) (n cap base : Nat) (P V : Nat → ByteArray) (w : World) (hn : n ≤ 1000000) (hbase : base ≤ w.heap.size)
    (hc : ∀ j, j < n → ∃ b o, a = some ⟨b, o, none⟩ ∧ w.cell? ⟨b, o + j * 2, none⟩ = some (.string (P j)) ∧ w.cell? ⟨b, o + j * 2 + 1, none⟩ = some (.string (V j))) (hT : TestsM g lb p n P V base w) :
    Calls Tryz.prog 103 #[.slice a n cap, .func (.func g) #[] lb] w fun e w' => e = .returned (.bool ((mdF n P V).any p)) ∧ Below w.heap.size w w' := by
  have hi := indexFuncM_calls g lb eg p a n cap base P V w hn hbase hc hT
  have hany := any_findI (p := p) (l := mdF n P V)
  generalize (mdF n P V).any p = X at hany ⊢
  generalize findI p (mdF n P V) = i at hany hi
  replace hi := Lib.hid hi
  clear hc hT
  go_enter Tryz.func103, Tryz.ntmps103
  go_wp2_with fail
  refine hi.out.mono ?_
  rintro e w1 ⟨rfl, hb⟩
  cases X with
  | true =>
    have h0 := hany.1 rfl
    clear hany
    go_wp2_with fail
    go_ret
    exact ⟨rfl, hb⟩
  | false =>
    have h0 : ¬ (0 ≤ i) := fun h => by have := hany.2 h; cases this
    clear hany
    go_wp2_with fail
    go_ret
    refine ⟨?_, hb⟩
    show Ending.returned (Value.bool (decide (0 ≤ i))) = _
    rw [decide_eq_false (by omega)]

theorem Tryz.enters_icheck1 : ∀ args w, (callFunc 149 args).run Tryz.prog w = .ok (.enter 149 args) w := Go.Proofs.enters_of Tryz.func149 (by kernel_rfl) rfl
theorem idxCheck1_calls (a : Option Addr) (n cap : Nat) (P V : Nat → ByteArray) (R : Nat → List Md) (K : Nat → List Str) (B : Nat → Bool) (Rv Kv : Nat → Value) (b : Nat) (p v : ByteArray) (w : World) (h : EntsIn w a n cap P V R K B Rv Kv) (hl : n ≤ 1000000) (z : w.cell? ⟨b, 0, none⟩ = some (.slice a n cap)) :
    Calls Tryz.prog 149 #[.agg #[.string p, .string v], .pointer (some ⟨b, 0, none⟩)] w fun e w' => e = .returned (.bool (lost (enF n P V R K B) (p.data.toList, v.data.toList))) ∧ Below w.heap.size w w' := by
  have hb := below_alloc w (.cells #[.string p, .string v] 26)
  have hz := box2_alloc w (.string p) (.string v) 26
  have z1 := Below.cell_some hb z
  have hf := idxFind_in a n cap P V R K B Rv Kv p v (w.alloc (.cells #[.string p, .string v] 26)) (h.below hb) hl
  show Calls _ _ _ _ fun e w' => e = .returned (.bool (decide (findE (enF n P V R K B) (p.data.toList, v.data.toList) < 0))) ∧ Below w.heap.size w w'
  generalize findE (enF n P V R K B) (p.data.toList, v.data.toList) = x at hf ⊢
  replace hf := Lib.hid hf
  clear h z
  obtain ⟨y0, y1, _⟩ := hz
  go_enter Tryz.func149, Tryz.ntmps149
  go_wp2_with fail
  refine hf.out.mono ?_
  rintro e w1 ⟨rfl, hb1⟩
  go_wp2_with fail
  go_ret
  exact ⟨rfl, below_step hb hb1⟩

set_option maxHeartbeats 4000000 in
set_option maxRecDepth 100000 in
theorem idxCheck_in (ks : List Nat) (A : Nat → Addr) (hks : IdxKs ks) (a : Option Addr) (n cap : Nat) (P V : Nat → ByteArray) (R : Nat → List Md) (K : Nat → List Str) (B : Nat → Bool) (Rv Kv : Nat → Value) (w : World) (hE : EnvP ks A w) (h : EntsIn w a n cap P V R K B Rv Kv) (hs : ShortI (enF n P V R K B)) :
    Calls Tryz.prog 108 #[.slice a n cap] w fun e w' => (∃ v, e = .returned v ∧ FaultAt A w' v (idxErr (enF n P V R K B))) ∧ Below w.heap.size w w' := by
  have hB := below_alloc w (.cells #[.slice a n cap] 50)
  have z1 : (w.alloc (.cells #[.slice a n cap] 50)).cell? ⟨w.heap.size, 0, none⟩ = some (.slice a n cap) := by simp
  have hn : n ≤ 1000000 := by have := hs.len; rw [enF_length] at this; exact this
  replace hE := hE.below hB
  have HE : Hid (idxErr (enF n P V R K B) = if 100 < n then (7, -1) else orE (firstE (entErr (enF n P V R K B)) n) (firstE (lostE (enF n P V R K B)) n)) := Lib.hid (by unfold idxErr; rw [enF_length])
  have H := Lib.hid h
  have HS := Lib.hid hs
  clear h hs
  by_cases h100 : 100 < n
  · have h100' : (100 : Int) < (n : Int) := by omega
    have HF : Hid (idxErr (enF n P V R K B) = (7, -1)) := Lib.hid (by rw [HE.out, if_pos h100])
    have HR : Hid (∀ W, FaultAt A W (errV A 7) (7, -1)) := Lib.hid (fun W => .inr (.inl ⟨by decide, rfl, rfl⟩))
    rw [errV_pos A (c := 7) (by decide)] at HR
    have g7 := hE.errs.var 7 hks.2.2.2.1
    simp only [errG] at g7
    go_enter Tryz.func108, Tryz.ntmps108
    go_wp2_with fail
    go_ret
    rw [HF.out]
    exact ⟨⟨_, rfl, HR.out _⟩, hB⟩
  · have h100' : ¬ (100 : Int) < (n : Int) := by omega
    have HE1 : Hid (idxErr (enF n P V R K B) = orE (firstE (entErr (enF n P V R K B)) n) (firstE (lostE (enF n P V R K B)) n)) := Lib.hid (by rw [HE.out, if_neg h100])
    clear HE h100
    go_enter Tryz.func108, Tryz.ntmps108
    go_wp2_with fail
    generalize hw1 : w.alloc (.cells #[.slice a n cap] 50) = w1 at *
    clear hw1 h100'
    go_loopw [13] (fun i wr => ∃ k : Nat, k ≤ n ∧ i = .int .i64 k ∧ Below w1.heap.size w1 wr ∧ Hid (∀ j, j < k → entErr (enF n P V R K B) j = 0)) (fun i _ => n - (intOf i).toNat)
    case atStart => exact ⟨0, Nat.zero_le _, rfl, Below.refl _ _, Lib.hid (fun j hj => absurd hj (Nat.not_lt_zero _))⟩
    case round =>
      obtain ⟨k, hk, rfl, hb, HA⟩ := hrel
      have hBr := below_step hB hb
      have d1 := Below.cell_some hb z1
      by_cases hlt : k < n
      · have hkn : (k : Int) < (n : Int) := by omega
        have hen := idxEntry_calls ks A hks a n cap P V R K B Rv Kv k wr (hE.below hb) (H.out.below hBr) HS.out hlt
        by_cases h0 : entErr (enF n P V R K B) k = 0
        · have HN : Hid (∀ j, j < k + 1 → entErr (enF n P V R K B) j = 0) := Lib.hid (fun j hj => by
            by_cases e : j = k
            · subst e; exact h0
            · exact HA.out j (by omega))
          rw [h0, errV_zero] at hen
          clear h0
          replace hen := Lib.hid hen
          go_wp2_with fail
          refine hen.out.mono ?_
          rintro e w3 ⟨rfl, hb3⟩
          go_wp2_with fail
          go_roundw
          case rel => exact ⟨k + 1, by omega, by go_num, below_step hb hb3, HN⟩
          case measure => simp [intOf]; omega
        · have HF : Hid (idxErr (enF n P V R K B) = (entErr (enF n P V R K B) k, (k : Int))) := Lib.hid (by
            rw [HE1.out]; unfold orE; rw [firstE_hit h0 HA.out hlt, if_pos h0])
          have H0 := Lib.hid h0
          rw [errV_pos A h0] at hen
          clear h0
          replace hen := Lib.hid hen
          go_wp2_with fail
          refine hen.out.mono ?_
          rintro e w3 ⟨rfl, hb3⟩
          go_wp2_with fail
          go_ret
          rw [HF.out]
          refine ⟨⟨_, rfl, .inr (.inr ⟨H0.out, w3.heap.size, rfl, by simp, ?_⟩)⟩, (below_step hBr hb3).alloc (below_step hBr hb3).size _⟩
          rw [errV_pos A H0.out]
          simp
      · obtain rfl : n = k := by omega
        have HE2 : Hid (idxErr (enF n P V R K B) = firstE (lostE (enF n P V R K B)) n) := Lib.hid (by
          rw [HE1.out]; unfold orE; rw [firstE_none HA.out, if_neg (by decide)])
        have hE5 := hE.below hb
        clear HE1 HA hlt hk z1 hE hB hb
        go_wp2_with fail
        generalize wr = w5 at *
        go_loopw [29] (fun i wr => ∃ k : Nat, k ≤ n ∧ i = .int .i64 k ∧ Below w5.heap.size w5 wr ∧ Hid (∀ j, j < k → lostE (enF n P V R K B) j = 0)) (fun i _ => n - (intOf i).toNat)
        case atStart => exact ⟨0, Nat.zero_le _, rfl, Below.refl _ _, Lib.hid (fun j hj => absurd hj (Nat.not_lt_zero _))⟩
        case round =>
          obtain ⟨k, hk, rfl, hb, HA⟩ := hrel
          have hB6 := below_step hBr hb
          replace d1 := Below.cell_some hb d1
          by_cases hlt : k < n
          · have hkn : (k : Int) < (n : Int) := by omega
            obtain ⟨b1, o1, ea, hcell⟩ := (H.out.below hB6).at_ k hlt
            obtain ⟨a1, n1, s1, a2, n2, s2, e1, e2⟩ := H.out.forms hlt
            have hM := (H.out.below hB6).reqs k hlt
            have hsR := (HS.out.at_ hlt).2.2.2.1
            rw [e1, e2] at hcell
            rw [e1] at hM
            obtain ⟨aM, nM, cM, P2, V2, e3, e4, h5, h6, h7⟩ := hM
            injection e3 with e5 e6 e7
            subst e5 e6 e7
            have hnM : n1 ≤ 1000000 := by have := hsR.1; rw [e4, mdF_length] at this; exact this
            have hba := below_alloc wr (.cells #[.string (P k), .string (V k), .slice a1 n1 s1, .slice a2 n2 s2, .bool (B k)] 63)
            have y2 : (wr.alloc (.cells #[.string (P k), .string (V k), .slice a1 n1 s1, .slice a2 n2 s2, .bool (B k)] 63)).cell? ⟨wr.heap.size, 2, none⟩ = some (.slice a1 n1 s1) := by simp
            have hB7 := below_step hB6 hba
            have hb7 := below_step hb hba
            have hcm := containsMf_calls 149 #[.pointer (some ⟨w.heap.size, 0, none⟩)] Tryz.enters_icheck1 (lost (enF n P V R K B)) a1 n1 s1 (wr.alloc (.cells #[.string (P k), .string (V k), .slice a1 n1 s1, .slice a2 n2 s2, .bool (B k)] 63)).heap.size P2 V2 (wr.alloc (.cells #[.string (P k), .string (V k), .slice a1 n1 s1, .slice a2 n2 s2, .bool (B k)] 63)) hnM (Nat.le_refl _)
              (fun j hj => let ⟨b, o, e, h1, h2⟩ := h7 j hj; ⟨b, o, e, Below.cell_some hba h1, Below.cell_some hba h2⟩)
              (fun W hW j hj => idxCheck1_calls a n cap P V R K B Rv Kv w.heap.size (P2 j) (V2 j) W ((H.out.below hB7).below hW) hn (Below.cell_some hW (Below.cell_some hba d1)))
            have hR : lostE (enF n P V R K B) k = if (mdF n1 P2 V2).any (lost (enF n P V R K B)) = true then 5 else 0 := by
              unfold lostE
              rw [enAt_enF hlt]
              show (if (R k).any _ = true then 5 else 0) = _
              rw [e4]
            have hE7 := hE5.below hb7
            subst ea
            obtain ⟨c0, c1, c2, c3, c4⟩ := hcell
            clear e1 e2 e4 h5 h6 h7 hsR hnM hB6
            cases hX : (mdF n1 P2 V2).any (lost (enF n P V R K B)) with
            | false =>
              rw [hX] at hcm
              rw [hX, if_neg (by decide)] at hR
              have HN : Hid (∀ j, j < k + 1 → lostE (enF n P V R K B) j = 0) := Lib.hid (fun j hj => by
                by_cases e : j = k
                · subst e; exact hR
                · exact HA.out j (by omega))
              clear hX hR
              replace hcm := Lib.hid hcm
              go_wp2_with fail
              refine hcm.out.mono ?_
              rintro e w8 ⟨rfl, hb8⟩
              go_wp2_with fail
              go_roundw
              case rel => exact ⟨k + 1, by omega, by go_num, below_step hb7 hb8, HN⟩
              case measure => simp [intOf]; omega
            | true =>
              rw [hX] at hcm
              rw [hX, if_pos rfl] at hR
              have HF : Hid (idxErr (enF n P V R K B) = (5, (k : Int))) := Lib.hid (by
                rw [HE2.out, firstE_hit (by rw [hR]; decide) HA.out hlt, hR])
              clear hX hR
              replace hcm := Lib.hid hcm
              go_wp2_with fail
              refine hcm.out.mono ?_
              rintro e w8 ⟨rfl, hb8⟩
              have hE8 := hE7.below hb8
              have g5 := hE8.errs.var 5 hks.2.2.1
              simp only [errG] at g5
              go_wp2_with fail
              go_ret
              rw [HF.out]
              refine ⟨⟨_, rfl, .inr (.inr ⟨(show (5 : Nat) ≠ 0 by decide), w8.heap.size, rfl, by simp, ?_⟩)⟩, (below_step hB7 hb8).alloc (below_step hB7 hb8).size _⟩
              show _ = some (errV A 5)
              rw [errV_pos A (show (5 : Nat) ≠ 0 by decide)]
              simp
          · obtain rfl : n = k := by omega
            have HF : Hid (idxErr (enF n P V R K B) = (0, -1)) := Lib.hid (by rw [HE2.out, firstE_none HA.out])
            go_wp2_with fail
            go_ret
            rw [HF.out]
            exact ⟨⟨_, rfl, .inl ⟨rfl, rfl, rfl⟩⟩, hB6⟩
theorem idxCheck_calls (ks : List Nat) (A : Nat → Addr) (hks : IdxKs ks) (v : Value) (l : List En) (w : World) (hE : EnvP ks A w) (h : EntsAt w v l) (hs : ShortI l) :
    Calls Tryz.prog 108 #[v] w fun e w' => (∃ v, e = .returned v ∧ FaultAt A w' v (idxErr l)) ∧ Below w.heap.size w w' := by
  obtain ⟨a, n, cap, P, V, R, K, B, Rv, Kv, rfl, rfl, hin⟩ := h
  exact idxCheck_in ks A hks a n cap P V R K B Rv Kv w hE hin hs
end Go.Proofs.Pw

/- Rows of a call's own; faults by form. -/
namespace Go.Proofs.Pw
open Go.RowKit
open Go.Lib hiding intOf

theorem ownsRow_kept {w w' : World} {base e size n : Nat} {v : Value} {xs : List Value} (h : w.ownsRow base e size v n xs) (hb : Below w.heap.size w w') : w'.ownsRow base e size v n xs := by
  refine ⟨h.1, ?_⟩
  rcases h.2 with h2 | ⟨g, c, cur, h1, h2, h3, h4⟩
  · exact .inl h2
  · exact .inr ⟨g, c, cur, h1, h2, (hb.block g (Array.getElem?_eq_some_iff.1 h3).1).trans h3, h4⟩
theorem _root_.Go.World.ownsRow.below {w w' : World} {base e size n : Nat} {v : Value} {xs : List Value} (h : w.ownsRow base e size v n xs) (hb : Below w.heap.size w w') : w'.ownsRow base e size v n xs := ownsRow_kept h hb
theorem ownsRow_set {w : World} {base e k n b j : Nat} {v : Value} {xs : List Value} (h : w.ownsRow base e k v n xs) (hn : v.ownBlock ≠ some b) (u : Value) : (w.setCell ⟨b, j, none⟩ u).ownsRow base e k v n xs := by
  refine ⟨h.1, ?_⟩
  rcases h.2 with h2 | ⟨g, c, cur, rfl, h2, h3, h4⟩
  · exact .inl h2
  · have hg : g ≠ b := fun e => hn (by rw [e]; rfl)
    exact .inr ⟨g, c, cur, rfl, h2, (Go.Deep.blk_setCell_other _ _ _ _ hg).trans h3, h4⟩
theorem cell_two_new (w : World) (x y : ByteArray) (t : TypeId) : ∀ j u, ([.string x, .string y] : List Value)[j]? = some u → (w.alloc (.cells #[.string x, .string y] t)).cell? ((⟨w.heap.size, 0, none⟩ : Addr).add j) = some u :=
  World.news_of_block (cs := #[.string x, .string y]) (Go.Deep.blk_alloc_new w _)
theorem mdVs_snoc (l : List (ByteArray × ByteArray)) (x y : ByteArray) : mdVs l ++ [.string x, .string y] = mdVs (l ++ [(x, y)]) := by rw [mdVs_append]; rfl
theorem apart_row {u o : Value} (h : ∀ b, o.ownBlock = some b → u.ownBlock ≠ some b) : u.ownBlock = none ∨ u.ownBlock ≠ o.ownBlock := by
  by_cases hu : u.ownBlock = none
  · exact .inl hu
  · refine .inr (fun e => ?_)
    cases ho : o.ownBlock with
    | none => exact hu (e.trans ho)
    | some b => exact h b ho (e.trans ho)
theorem own_form {w : World} {base e k n : Nat} {v : Value} {xs : List Value} (h : w.ownsRow base e k v n xs) : ∃ a m c, v = .slice a m c := by
  rcases h.2 with ⟨rfl, _⟩ | ⟨g, cap, cur, rfl, _⟩
  · exact ⟨_, _, _, rfl⟩
  · exact ⟨_, _, _, rfl⟩
theorem own_ne {w : World} {base e k n b : Nat} {v : Value} {xs : List Value} (h : w.ownsRow base e k v n xs) (hb : b < base) : v.ownBlock ≠ some b := fun e => by
  have := (h.lt b e).1
  omega
theorem fault_form {A : Nat → Addr} {w : World} {v : Value} {r : Nat × Int} (h : FaultAt A w v r) : (r.1 = 0 ∧ v = .nilIface) ∨ (r.1 ≠ 0 ∧ ∃ t q, v = .iface t (.pointer q)) := by
  rcases h with h | h | ⟨h, b, rfl, _⟩
  · exact .inl ⟨h.1, h.2.2⟩
  · refine .inr ⟨h.1, ?_⟩
    rw [h.2.2, errV_pos A h.1]; exact ⟨_, _, rfl⟩
  · exact .inr ⟨h, _, _, rfl⟩
theorem ModsAt.cells {w : World} {v : Value} {l : List Md} (h : ModsAt w v l) : ∃ a c P V, v = .slice a l.length c ∧ l = mdF l.length P V ∧ ∀ j, j < l.length → ∃ b o, a = some ⟨b, o, none⟩ ∧ w.cell? ⟨b, o + j * 2, none⟩ = some (.string (P j)) ∧ w.cell? ⟨b, o + j * 2 + 1, none⟩ = some (.string (V j)) := by
  obtain ⟨a, n, cap, P, V, rfl, rfl, h3, h4, h5⟩ := h
  rw [mdF_length]
  exact ⟨a, cap, P, V, rfl, rfl, h5⟩
/-- the cells at a place -/
theorem ModsAt.cell {w : World} {v : Value} {l : List Md} {k : Nat} {p q : ByteArray} (h : ModsAt w v l) (hk : l[k]? = some (p.data.toList, q.data.toList)) : ∃ b o c, v = .slice (some ⟨b, o, none⟩) l.length c ∧ k < l.length ∧ w.cell? ⟨b, o + k * 2, none⟩ = some (.string p) ∧ w.cell? ⟨b, o + k * 2 + 1, none⟩ = some (.string q) := by
  obtain ⟨a, n, cap, P, V, rfl, rfl, h3, h4, h5⟩ := h
  have hl : k < n := by have := (List.getElem?_eq_some_iff.1 hk).1; rwa [mdF_length] at this
  obtain ⟨b, o, rfl, e1, e2⟩ := h5 k hl
  rw [mdF_get n P V k hl] at hk
  have := bytes_pair.1 (Option.some.inj hk)
  rw [this.1] at e1
  rw [this.2] at e2
  rw [mdF_length]
  exact ⟨b, o, cap, rfl, hl, e1, e2⟩
end Go.Proofs.Pw

/- Plain mathematics of package graph: what is reached from roots. No program in sight. -/
namespace Go.Proofs.Pw
open Go.Lib hiding intOf

inductive Reached (l : List En) (roots : List Md) : Md → Prop
  | root {m : Md} : m ∈ roots → Reached l roots m
  | step {e : En} {r : Md} : e ∈ l → Reached l roots e.md → r ∈ e.reqs → Reached l roots r

noncomputable def isReached (l : List En) (roots : List Md) (m : Md) : Bool := @decide (Reached l roots m) (Classical.propDecidable _)
theorem isReached_iff {l : List En} {roots : List Md} {m : Md} : isReached l roots m = true ↔ Reached l roots m := by
  unfold isReached
  exact @decide_eq_true_iff _ (Classical.propDecidable _)
noncomputable def reachL (l : List En) (roots : List Md) : List Md := (l.map (·.md)).filter (isReached l roots)

def rootE (l : List En) (roots : List Md) (i : Nat) : Nat := if findE l (mdAt roots i) < 0 then 5 else 0
def rootsErr (l : List En) (roots : List Md) : Nat × Int := firstE (rootE l roots) roots.length
def startErr (l : List En) (roots : List Md) : Nat × Int := orE (idxErr l) (rootsErr l roots)

/-- roots of an index, both right -/
structure RightG (l : List En) (roots : List Md) : Prop where
  idx : RightI l
  at_ : ∀ m ∈ roots, ∃ e ∈ l, e.md = m
theorem rootsErr_zero {l : List En} {roots : List Md} : (rootsErr l roots).1 = 0 ↔ ∀ m ∈ roots, ∃ e ∈ l, e.md = m := by
  constructor
  · intro h m hm
    obtain ⟨i, hi⟩ := List.getElem?_of_mem hm
    have hl := (List.getElem?_eq_some_iff.1 hi).1
    have h1 := firstE_zero h i hl
    unfold rootE at h1
    rw [mdAt_get hl] at hi
    rw [Option.some.inj hi] at h1
    by_cases h2 : findE l m < 0
    · rw [if_pos h2] at h1; cases h1
    · obtain ⟨k, _, hk, e⟩ := findE_nat h2
      exact ⟨_, enAt_mem hk, e⟩
  · intro h
    unfold rootsErr
    rw [firstE_none fun i hi => ?_]
    unfold rootE
    rw [if_neg]
    rw [findE_lt]
    obtain ⟨e, he, h1⟩ := h _ (mdAt_mem hi)
    exact fun h2 => h2 e he h1
theorem rightG_of {l : List En} {roots : List Md} (h : (startErr l roots).1 = 0) : RightG l roots := by
  unfold startErr at h
  rw [orE_zero] at h
  exact ⟨rightI_of h.1, rootsErr_zero.1 h.2⟩
theorem startErr_app {l : List En} {a b : List Md} : (startErr l (a ++ b)).1 = 0 ↔ (startErr l a).1 = 0 ∧ (startErr l b).1 = 0 := by
  unfold startErr
  rw [orE_zero, orE_zero, orE_zero, rootsErr_zero, rootsErr_zero, rootsErr_zero]
  constructor
  · rintro ⟨h1, h2⟩
    exact ⟨⟨h1, fun m hm => h2 m (by simp [hm])⟩, h1, fun m hm => h2 m (by simp [hm])⟩
  · rintro ⟨⟨h1, h2⟩, _, h3⟩
    refine ⟨h1, fun m hm => ?_⟩
    rcases List.mem_append.1 hm with h | h
    · exact h2 m h
    · exact h3 m h
theorem startErr_at {l : List En} {roots : List Md} (h : (startErr l roots).1 = 0) : startErr l roots = (0, -1) := by
  unfold startErr at h ⊢
  rw [orE_zero] at h
  unfold orE
  rw [if_neg (by simp [h.1])]
  unfold rootsErr at h ⊢
  exact firstE_none (firstE_zero h.2)

theorem reached_closed {l : List En} {roots T : List Md} (h1 : ∀ m ∈ roots, m ∈ T) (h2 : ∀ e ∈ l, e.md ∈ T → ∀ r ∈ e.reqs, r ∈ T) {m : Md} (h : Reached l roots m) : m ∈ T := by
  induction h with
  | root hm => exact h1 _ hm
  | step he _ hr ih => exact h2 _ he ih _ hr
theorem RightG.entry {l : List En} {roots : List Md} (h : RightG l roots) {m : Md} (hm : Reached l roots m) : ∃ e ∈ l, e.md = m := by
  induction hm with
  | root hm => exact h.at_ _ hm
  | step he _ hr _ => exact h.idx.all _ he _ hr
theorem RightG.mem {l : List En} {roots : List Md} (h : RightG l roots) {m : Md} : m ∈ reachL l roots ↔ Reached l roots m := by
  unfold reachL
  rw [List.mem_filter, isReached_iff]
  exact ⟨fun h => h.2, fun hm => by
    obtain ⟨e, he, h1⟩ := h.entry hm
    exact ⟨List.mem_map.2 ⟨e, he, h1⟩, hm⟩⟩
theorem reachL_rises {l : List En} (h : RightI l) (roots : List Md) : Rises modCmp (reachL l roots) := List.Pairwise.sublist List.filter_sublist h.rise
/-- a rising list of all that is reached -/
theorem RightG.is {l : List En} {roots x : List Md} (h : RightG l roots) (hx : Rises modCmp x) (hm : ∀ m, m ∈ x ↔ Reached l roots m) : x = reachL l roots :=
  rises_ext modCmp_ord hx (reachL_rises h.idx roots) fun m => by rw [hm, h.mem]
theorem reached_sub {l : List En} {a b : List Md} (h : ∀ m ∈ a, Reached l b m) {m : Md} (hm : Reached l a m) : Reached l b m := by
  induction hm with
  | root hm => exact h _ hm
  | step he _ hr ih => exact .step he ih hr
theorem reached_app {l : List En} {a b : List Md} {m : Md} : Reached l (a ++ b) m ↔ Reached l a m ∨ Reached l b m := by
  constructor
  · intro h
    induction h with
    | root hm =>
      rcases List.mem_append.1 hm with h | h
      · exact .inl (.root h)
      · exact .inr (.root h)
    | step he _ hr ih =>
      rcases ih with h | h
      · exact .inl (.step he h hr)
      · exact .inr (.step he h hr)
  · rintro (h | h)
    · exact reached_sub (fun m hm => .root (by simp [hm])) h
    · exact reached_sub (fun m hm => .root (by simp [hm])) h
theorem RightG.right {l : List En} {roots : List Md} (h : RightG l roots) {m : Md} (hm : Reached l roots m) : mdErr m = 0 := by
  obtain ⟨e, he, rfl⟩ := h.entry hm
  exact h.idx.mds e he
end Go.Proofs.Pw

/- graph.start. Conditions: texts of at most 1000000 bytes, lists of at most 1000000. -/
namespace Go.Proofs.Pw
open Go.RowKit
open Go.Lib hiding intOf

set_option maxHeartbeats 4000000 in
set_option maxRecDepth 100000 in
theorem grStart_in (ks : List Nat) (A : Nat → Addr) (hks : IdxKs ks) (a : Option Addr) (n cap : Nat) (P V : Nat → ByteArray) (R : Nat → List Md) (K : Nat → List Str) (B : Nat → Bool) (Rv Kv : Nat → Value) (rv : Value) (roots : List Md) (w : World) (hE : EnvP ks A w) (h : EntsIn w a n cap P V R K B Rv Kv) (hs : ShortI (enF n P V R K B)) (hr : ModsAt w rv roots) (hl : roots.length ≤ 1000000) :
    Calls Tryz.prog 88 #[.slice a n cap, rv] w fun e w' => (∃ v, e = .returned v ∧ FaultAt A w' v (startErr (enF n P V R K B) roots)) ∧ Below w.heap.size w w' := by
  have hn : n ≤ 1000000 := by have := hs.len; rw [enF_length] at this; exact this
  have hck := idxCheck_in ks A hks a n cap P V R K B Rv Kv w hE h hs
  have HE : Hid (startErr (enF n P V R K B) roots = orE (idxErr (enF n P V R K B)) (firstE (rootE (enF n P V R K B) roots) roots.length)) := Lib.hid rfl
  have H := Lib.hid h
  clear h hs
  obtain ⟨ar, rn, rc, P2, V2, rfl, rfl, h5, h6, h7⟩ := hr
  rw [mdF_length] at hl HE
  replace hck := Lib.hid hck
  replace h7 := Lib.hid h7
  clear h5 h6
  go_enter Tryz.func88, Tryz.ntmps88
  go_wp2_with fail
  refine hck.out.mono ?_
  rintro e w1 ⟨⟨v, rfl, hv⟩, hB⟩
  have hE1 := hE.below hB
  clear hck hE
  rcases fault_form hv with ⟨h0, rfl⟩ | ⟨h0, ty, q, rfl⟩
  · have HE1 : Hid (startErr (enF n P V R K B) (mdF rn P2 V2) = firstE (rootE (enF n P V R K B) (mdF rn P2 V2)) rn) := Lib.hid (by rw [HE.out]; unfold orE; rw [if_neg (by simp [h0])])
    clear HE h0 hv
    go_wp2_with fail
    go_loopw [15] (fun i wr => ∃ k : Nat, k ≤ rn ∧ i = .int .i64 k ∧ Below w1.heap.size w1 wr ∧ Hid (∀ j, j < k → rootE (enF n P V R K B) (mdF rn P2 V2) j = 0)) (fun i _ => rn - (intOf i).toNat)
    case atStart => exact ⟨0, Nat.zero_le _, rfl, Below.refl _ _, Lib.hid (fun j hj => absurd hj (Nat.not_lt_zero _))⟩
    case round =>
      obtain ⟨k, hk, rfl, hb, HA⟩ := hrel
      have hBr := below_step hB hb
      by_cases hlt : k < rn
      · have hkn : (k : Int) < (rn : Int) := by omega
        obtain ⟨b1, o1, ea, c0, c1⟩ := h7.out k hlt
        replace c0 := Below.cell_some hBr c0
        replace c1 := Below.cell_some hBr c1
        have hba := below_alloc wr (.cells #[.string (P2 k), .string (V2 k)] 26)
        obtain ⟨y0, y1, _⟩ := box2_alloc wr (.string (P2 k)) (.string (V2 k)) 26
        have hB2 := below_step hBr hba
        have hb2 := below_step hb hba
        have hE2 := hE1.below hb2
        have hf := idxFind_in a n cap P V R K B Rv Kv (P2 k) (V2 k) (wr.alloc (.cells #[.string (P2 k), .string (V2 k)] 26)) (H.out.below hB2) hn
        have hR : rootE (enF n P V R K B) (mdF rn P2 V2) k = if findE (enF n P V R K B) ((P2 k).data.toList, (V2 k).data.toList) < 0 then 5 else 0 := by
          unfold rootE
          rw [mdAt_mdF hlt]
        generalize findE (enF n P V R K B) ((P2 k).data.toList, (V2 k).data.toList) = x at hf hR
        subst ea
        replace hf := Lib.hid hf
        by_cases hx : x < 0
        · rw [if_pos hx] at hR
          have HF : Hid (startErr (enF n P V R K B) (mdF rn P2 V2) = (5, (k : Int))) := Lib.hid (by rw [HE1.out, firstE_hit (by rw [hR]; decide) HA.out hlt, hR])
          clear hR hk
          go_wp2_with fail
          refine hf.out.mono ?_
          rintro e w8 ⟨rfl, hb8⟩
          have hE8 := hE2.below hb8
          have g5 := hE8.errs.var 5 hks.2.2.1
          simp only [errG] at g5
          go_wp2_with fail
          go_ret
          rw [HF.out]
          refine ⟨⟨_, rfl, .inr (.inr ⟨(show (5 : Nat) ≠ 0 by decide), w8.heap.size, rfl, by simp, ?_⟩)⟩, (below_step hB2 hb8).alloc (below_step hB2 hb8).size _⟩
          show _ = some (errV A 5)
          rw [errV_pos A (show (5 : Nat) ≠ 0 by decide)]
          simp
        · rw [if_neg hx] at hR
          have HN : Hid (∀ j, j < k + 1 → rootE (enF n P V R K B) (mdF rn P2 V2) j = 0) := Lib.hid (fun j hj => by
            by_cases e : j = k
            · subst e; exact hR
            · exact HA.out j (by omega))
          clear hR hk
          go_wp2_with fail
          refine hf.out.mono ?_
          rintro e w8 ⟨rfl, hb8⟩
          go_wp2_with fail
          go_roundw
          case rel => exact ⟨k + 1, by omega, by go_num, below_step hb2 hb8, HN⟩
          case measure => simp [intOf]; omega
      · obtain rfl : rn = k := by omega
        have HF : Hid (startErr (enF n P V R K B) (mdF rn P2 V2) = (0, -1)) := Lib.hid (by rw [HE1.out, firstE_none HA.out])
        go_wp2_with fail
        go_ret
        rw [HF.out]
        exact ⟨⟨_, rfl, .inl ⟨rfl, rfl, rfl⟩⟩, hBr⟩
  · have HF : Hid (startErr (enF n P V R K B) (mdF rn P2 V2) = idxErr (enF n P V R K B)) := Lib.hid (by rw [HE.out]; unfold orE; rw [if_pos h0])
    have HV := Lib.hid hv
    clear hv h0
    go_wp2_with fail
    go_ret
    rw [HF.out]
    exact ⟨⟨_, rfl, HV.out⟩, hB⟩
end Go.Proofs.Pw

/- A map from modules to modules in memory: look-up, a new entry. -/
namespace Go.Proofs.Pw
open Go.RowKit
open Go.Lib hiding intOf

abbrev MB := ByteArray × ByteArray
def mdV (m : MB) : Value := .agg #[.string m.1, .string m.2]
def noMB : MB := (⟨#[]⟩, ⟨#[]⟩)
def mapF (S : List (MB × MB)) (k : MB) : Option MB := (S.find? fun p => decide (k = p.1)).map (·.2)
def MapIs (w : World) (b : Nat) (S : List (MB × MB)) : Prop :=
  ∃ es clock, w.heap[b]? = some (.map es clock) ∧ es.toList.map (fun e => (e.key, e.val)) = S.map fun p => (mdV p.1, mdV p.2)

theorem mdV_equal (k m : MB) (w : World) : (Op.equal 26 (mdV k) (mdV m)).run Tryz.prog w = .ok (decide (k = m)) w := by
  have h := md_equal k.1 k.2 m.1 m.2 w
  have e : decide (k.1 = m.1 ∧ k.2 = m.2) = decide (k = m) := by
    exact decide_eq_decide.2 (Prod.ext_iff (x := k) (y := m)).symm
  rw [e] at h
  exact h
theorem run_findAsking_md (k : MB) (w : World) : ∀ (es : List MapEntry) (S : List (MB × MB)) (i : Nat), es.map (fun e => (e.key, e.val)) = S.map (fun p => (mdV p.1, mdV p.2)) →
    ∃ r, (Instr.findAsking 26 (mdV k) es i).run Tryz.prog w = .ok r w ∧ r.map (·.2) = (mapF S k).map mdV
  | [], [], i, _ => ⟨none, rfl, rfl⟩
  | [], _ :: _, i, h => by cases h
  | _ :: _, [], i, h => by cases h
  | e :: es, p :: S, i, h => by
    rw [List.map_cons, List.map_cons] at h
    injection h with h1 h2
    injection h1 with h3 h4
    have hq := mdV_equal k p.1 w
    unfold Instr.findAsking mapF
    rw [List.find?_cons, h3]
    by_cases hk : k = p.1
    · rw [decide_eq_true hk] at hq
      simp only [decide_eq_true hk]
      refine ⟨some (i, e.val), ?_, by simp [h4]⟩
      simp only [Sem.run_bind, hq, Result.andThen_ok, if_true, Sem.run_pure]
    · rw [decide_eq_false hk] at hq
      simp only [decide_eq_false hk]
      obtain ⟨r, hr, e2⟩ := run_findAsking_md k w es S (i + 1) h2
      refine ⟨r, ?_, e2⟩
      simp only [Sem.run_bind, hq, Result.andThen_ok, Bool.false_eq_true, if_false, hr]
theorem run_findKey_md (k : MB) (w : World) (es : List MapEntry) (S : List (MB × MB)) (h : es.map (fun e => (e.key, e.val)) = S.map (fun p => (mdV p.1, mdV p.2))) :
    ∃ r, (Instr.findKey 26 (mdV k) es).run Tryz.prog w = .ok r w ∧ r.map (·.2) = (mapF S k).map mdV := by
  unfold Instr.findKey
  simp only [Sem.run_bind, run_underlying Tryz.md_fields, Result.andThen_ok]
  cases es with
  | nil =>
    cases S with
    | nil => exact ⟨none, rfl, rfl⟩
    | cons _ _ => cases h
  | cons e es =>
    have : Instr.findNow (.struct (Tryz.prog.fieldsOf 26)) (mdV k) (e :: es) 0 = none := rfl
    rw [this]
    exact run_findAsking_md k w _ S 0 h
theorem md_part0 (p q : ByteArray) (w : World) : (part 9 #[.string p, .string q] 0).run Tryz.prog w = .ok (.string p) w := by
  have hu := Tryz.isAgg9
  have hs := Tryz.sizeOf9
  simp [part, hu, hs]
theorem md_part1 (p q : ByteArray) (w : World) : (part 9 #[.string p, .string q] 1).run Tryz.prog w = .ok (.string q) w := by
  have hu := Tryz.isAgg9
  have hs := Tryz.sizeOf9
  simp [part, hu, hs]
theorem run_checkKey_str (em : Bool) (n : Nat) (p : ByteArray) (w : World) : (Instr.checkKey em (n + 1) 9 (.string p)).run Tryz.prog w = .ok () w := by
  have hs := Tryz.underlying9
  rw [Instr.checkKey]
  simp only [Sem.run_bind, run_underlying hs, Result.andThen_ok]
  rfl
theorem run_checkKey_md (em : Bool) (k : MB) (w : World) : (Instr.checkKey em 10000 26 (mdV k)).run Tryz.prog w = .ok () w := by
  have hu := Tryz.underlying26
  unfold mdV
  rw [show (10000 : Nat) = 9998 + 1 + 1 from rfl, Instr.checkKey]
  simp only [Sem.run_bind, run_underlying hu, Result.andThen_ok]
  rw [← Array.forIn_toList]
  simp only [List.forIn_cons, List.forIn_nil, Sem.run_bind, Sem.run_pure, if_pos (show "Path" ≠ "_" by decide), if_pos (show "Ver" ≠ "_" by decide), md_part0, md_part1, run_checkKey_str, Result.andThen_ok]
theorem mapF_none {S : List (MB × MB)} {k : MB} : mapF S k = none ↔ k ∉ S.map (·.1) := by
  unfold mapF
  rw [Option.map_eq_none_iff, List.find?_eq_none]
  constructor
  · intro h hm
    obtain ⟨p, hp, e⟩ := List.mem_map.1 hm
    exact h p hp (by simp [e])
  · intro h p hp
    simp only [decide_eq_true_eq]
    exact fun e => h (e ▸ List.mem_map.2 ⟨p, hp, rfl⟩)
theorem run_zero_md (w : World) : (zeroValue 26).run Tryz.prog w = .ok (mdV noMB) w := Tryz.zeroValue26 w
/-- 'v, is := m[k]' -/
theorem md_lookup {w : World} {b : Nat} {S : List (MB × MB)} (h : MapIs w b S) (k : MB) (c : Bool) :
    (Instr.lookup 116 (.map (some b)) (mdV k) c).run Tryz.prog w = .ok (if c then .tuple #[mdV ((mapF S k).getD noMB), .bool (mapF S k).isSome] else mdV ((mapF S k).getD noMB)) w := by
  obtain ⟨es, clock, hb, he⟩ := h
  obtain ⟨r, hr, e⟩ := run_findKey_md k w es.toList S he
  unfold Instr.lookup
  simp only [Sem.run_bind, run_underlying Tryz.underlying116, Result.andThen_ok, MapKept.run_getObj_map hb, Sem.run_pure, run_checkKey_md, hr]
  cases r with
  | none =>
    rw [Option.map_none] at e
    have e' : mapF S k = none := by
      cases hm : mapF S k with
      | none => rfl
      | some _ => rw [hm] at e; cases e
    rw [e']
    simp only [Sem.run_bind, run_zero_md, Result.andThen_ok, Sem.run_pure]
    cases c <;> rfl
  | some jv =>
    cases hm : mapF S k with
    | none => rw [hm] at e; cases e
    | some m =>
      rw [hm] at e
      have e2 : jv.2 = mdV m := Option.some.inj e
      obtain ⟨j, v⟩ := jv
      simp only at e2
      subst e2
      simp only [Sem.run_bind, Result.andThen_ok, Sem.run_pure]
      cases c <;> rfl
/-- 'm[k] = v', at a new key -/
theorem md_new {w : World} {b : Nat} {S : List (MB × MB)} (h : MapIs w b S) (k v : MB) (hk : k ∉ S.map (·.1)) :
    ∃ w', (Instr.mapUpdate 116 (.map (some b)) (mdV k) (mdV v)).run Tryz.prog w = .ok () w' ∧ MapIs w' b (S ++ [(k, v)]) ∧ w.grownBy w' (some b) := by
  obtain ⟨es, clock, hb, he⟩ := h
  obtain ⟨r, hr, e⟩ := run_findKey_md k w es.toList S he
  have hn : r = none := by
    rw [mapF_none.2 hk] at e
    cases r with
    | none => rfl
    | some _ => cases e
  subst hn
  have hh := MapKept.heap_set (o' := .map (es.push { key := mdV k, val := mdV v, born := clock }) (clock + 1)) hb
  refine ⟨{ w with heap := w.heap.setIfInBounds b (.map (es.push { key := mdV k, val := mdV v, born := clock }) (clock + 1)) }, ?_, ⟨_, _, hh.1, ?_⟩, ⟨rfl, rfl, rfl, by simp, fun i _ hi => hh.2 i (fun e => hi (by rw [e]))⟩⟩
  · unfold Instr.mapUpdate
    simp only [Sem.run_bind, run_underlying Tryz.underlying116, Result.andThen_ok, MapKept.run_getObj_map hb, run_checkKey_md, hr, MapKept.run_setObj_map _ hb]
  · simp [he]
theorem MapIs.grown {w w' : World} {b : Nat} {S : List (MB × MB)} {row : Option Nat} (h : MapIs w b S) (hg : w.grownBy w' row) (hne : some b ≠ row) : MapIs w' b S := by
  obtain ⟨es, clock, hb, he⟩ := h
  have hl : b < w.heap.size := (Array.getElem?_eq_some_iff.1 hb).1
  exact ⟨es, clock, by rw [hg.block b hl hne]; exact hb, he⟩
theorem MapIs.below {w w' : World} {b : Nat} {S : List (MB × MB)} (h : MapIs w b S) (hb : Below w.heap.size w w') : MapIs w' b S := by
  obtain ⟨es, clock, h1, he⟩ := h
  have hl : b < w.heap.size := (Array.getElem?_eq_some_iff.1 h1).1
  exact ⟨es, clock, by rw [hb.block b hl]; exact h1, he⟩
theorem mapIs_made (w : World) : MapIs (w.alloc (.map #[] 0)) w.heap.size [] := ⟨#[], 0, Go.Deep.blk_alloc_new w _, rfl⟩
end Go.Proofs.Pw

/- graph.walk's closure: a module comes. -/
namespace Go.Proofs.Pw
open Go.RowKit
open Go.Lib hiding intOf

/-- what walk has made: a map (block B), its variable's box (B + 1), the row's box (B + 2); the row stands behind them -/
structure Going (B : Nat) (w : World) (x : Value) (S : List (MB × MB)) : Prop where
  cm : w.cell? ⟨B + 1, 0, none⟩ = some (.map (some B))
  ct : w.cell? ⟨B + 2, 0, none⟩ = some x
  ft : ∀ i, w.frozen? ⟨B + 2, i, none⟩ = false
  own : w.ownsRow (B + 3) 26 2 x (S.map (·.1)).length (mdVs (S.map (·.1)))
  map : MapIs w B S
theorem Going.below {B : Nat} {w w' : World} {x : Value} {S : List (MB × MB)} (h : Going B w x S) (hb : Below w.heap.size w w') : Going B w' x S :=
  ⟨Below.cell_some hb h.cm, Below.cell_some hb h.ct, fun i => (hb.frozen (p := ⟨B + 2, i, none⟩) (show B + 2 < w.heap.size from lt_of_cell h.ct)).trans (h.ft i), ownsRow_kept h.own hb, h.map.below hb⟩
theorem Going.lt {B : Nat} {w : World} {x : Value} {S : List (MB × MB)} (h : Going B w x S) : B + 2 < w.heap.size := lt_of_cell h.ct
theorem Going.ne {B : Nat} {w : World} {x : Value} {S : List (MB × MB)} (h : Going B w x S) {k : Nat} (hk : k < B + 3) : some k ≠ x.ownBlock := fun e => by
  have := (h.own.lt k e.symm).1; omega
theorem MapIs.setCell {w : World} {b c : Nat} {S : List (MB × MB)} (h : MapIs w b S) (hc : b ≠ c) (u : Value) : MapIs (w.setCell ⟨c, 0, none⟩ u) b S := by
  obtain ⟨es, clock, h1, he⟩ := h
  exact ⟨es, clock, (Go.Deep.blk_setCell_other _ _ _ _ hc).trans h1, he⟩
def comeB (S : List (MB × MB)) (m f : MB) : List (MB × MB) := if (mapF S m).isSome then S else S ++ [(m, f)]

set_option maxHeartbeats 2000000 in
set_option maxRecDepth 100000 in
theorem come_new (B : Nat) (p v q u : ByteArray) (x : Value) (S : List (MB × MB)) (w : World) (hG : Going B w x S) (hm : (p, v) ∉ S.map (·.1)) (hl : S.length ≤ 1000000) :
    Calls Tryz.prog 138 #[.agg #[.string p, .string v], .agg #[.string q, .string u], .pointer (some ⟨B + 1, 0, none⟩), .pointer (some ⟨B + 2, 0, none⟩)] w fun e w' => e = .returned (.tuple #[]) ∧ (∃ x', Going B w' x' (S ++ [((p, v), (q, u))])) ∧ Below B w w' := by
  obtain ⟨i0, hi0, hz0, hz1, hz2⟩ := info_parts Tryz.infoMod
  have hlt := hG.lt
  have hb1 := below_alloc w (.cells #[.string p, .string v] 26)
  have hb2 := below_alloc (w.alloc (.cells #[.string p, .string v] 26)) (.cells #[.string q, .string u] 26)
  have hb3 := below_alloc ((w.alloc (.cells #[.string p, .string v] 26)).alloc (.cells #[.string q, .string u] 26)) (.cells #[.string ⟨#[]⟩, .string ⟨#[]⟩] 26)
  have hB := below_step (below_step hb1 hb2) hb3
  obtain ⟨m0, m1, _⟩ := ((box2_alloc w (.string p) (.string v) 26).below hb2).below hb3
  obtain ⟨f0, f1, _⟩ := (box2_alloc (w.alloc (.cells #[.string p, .string v] 26)) (.string q) (.string u) 26).below hb3
  simp only [World.size_alloc] at f0 f1
  have hG3 := hG.below hB
  have hmf : mapF S (p, v) = none := mapF_none.2 hm
  have hlk := fun W (h : MapIs W B S) => md_lookup h (p, v) true
  simp only [hmf, Option.getD_none, Option.isSome_none, if_true, mdV, noMB] at hlk
  have hlk2 := hlk _ ((hG.map.below hb1).below hb2)
  obtain ⟨wD, hup, hMD, hgD⟩ := md_new hG3.map (p, v) (q, u) hm
  have hBD : Below B w wD := by
    have h1 := hB.mono (show B ≤ w.heap.size by omega)
    exact h1.grown hgD (by have := hB.size; omega) (fun k hk => by cases hk; exact Nat.le_refl _)
  simp only [mdV] at hup
  have nB : ∀ k, k ≠ B → some k ≠ some B := fun k h e => h (Option.some.inj e)
  have t0 := hgD.cell hG3.ct (nB (B + 2) (by omega))
  have t1 := hgD.cell hG3.cm (nB (B + 1) (by omega))
  have tf := fun i => (hgD.frozen_far ⟨B + 2, i, none⟩ (show B + 2 < _ from lt_of_cell hG3.ct) (nB (B + 2) (by omega))).trans (hG3.ft i)
  have n0 := hgD.cell m0 (nB w.heap.size (by omega))
  have n1 := hgD.cell m1 (nB w.heap.size (by omega))
  have hownD : wD.ownsRow (B + 3) 26 2 x (S.map (·.1)).length (mdVs (S.map (·.1))) := hG3.own.kept hgD (apart_row (o := .slice (some ⟨B, 0, none⟩) 0 0) (fun b hb e => by
    have := (hG3.own.lt b e).1
    have : b = B := (Option.some.inj hb).symm
    omega))
  have hszD := hBD.size
  have nx1 : some (B + 1) ≠ x.ownBlock := hG.ne (by omega)
  have nx2 : some (B + 2) ≠ x.ownBlock := hG.ne (by omega)
  have nx0 : some B ≠ x.ownBlock := hG.ne (by omega)
  have hge := fun k (e : x.ownBlock = some k) => (hownD.lt k e).1
  have hlen : (S.map (·.1)).length ≤ 1000000 := by rw [List.length_map]; exact hl
  have hba := below_alloc wD (.cells #[.string p, .string v] 26)
  have g0 := Below.cell_some hba t0
  have g1 := Below.cell_some hba t1
  have gl : B + 2 < (wD.alloc (.cells #[.string p, .string v] 26)).heap.size := lt_of_cell g0
  have gf := fun i => (hba.frozen (p := ⟨B + 2, i, none⟩) (show B + 2 < wD.heap.size from lt_of_cell t0)).trans (tf i)
  have gM := hMD.below hba
  have HH := Lib.hid (And.intro hownD (And.intro hge (And.intro gM (And.intro nx1 (And.intro nx2 nx0)))))
  have HG := Lib.hid (And.intro g0 (And.intro g1 gf))
  have HB := Lib.hid (hBD.alloc (show B ≤ wD.heap.size by omega) (.cells #[.string p, .string v] 26))
  obtain ⟨cm, ct, _, _, _⟩ := hG
  have c1 := Below.cell_some (below_step hb1 hb2) cm
  have c2 := Below.cell_some hB cm
  have c3 := Below.cell_some hB ct
  clear hlk hmf hm hG3 hgD hMD hownD hge g0 g1 gf gM nx1 nx2 nx0 nB tf hBD hb1 hb2 hb3 hB t1
  go_enter Tryz.func138, Tryz.ntmps138
  go_wp2_with (at_builtin; refine wpList_append_own _ rfl _ _ 22 rfl (B + 3) 26 i0 (.agg #[.string ⟨#[]⟩, .string ⟨#[]⟩]) 2 32 Tryz.underlying22 hi0 hz0 hz1 hz2 rfl (by decide) _ _ _ rfl (HH.out.1.alloc _) ⟨wD.heap.size, 0, none⟩ 1 1 [.string p, .string v] rfl rfl (cell_two_new _ _ _ _) (by intro u hu; simp at hu; rcases hu with rfl | rfl <;> rfl) (by unfold maxLen; omega) (by omega) (by simp; omega) ?_; intro x' wE hownE hgE _; obtain ⟨ax, nx, cx, rfl⟩ := own_form hownE; have e0 := hgE.cell HG.out.1 HH.out.2.2.2.2.1; have ef := fun i => (hgE.frozen_far ⟨B + 2, i, none⟩ gl HH.out.2.2.2.2.1).trans (HG.out.2.2 i))
  go_end0
  have hS : (S ++ [((p, v), (q, u))]).map (·.1) = S.map (·.1) ++ [(p, v)] := by simp
  have hE1 := hgE.cell HG.out.2.1 HH.out.2.2.2.1
  have hME := HH.out.2.2.1.grown hgE HH.out.2.2.2.2.2
  have hBE : Below B w wE := HB.out.grown hgE (by have := HB.out.size; omega) (fun k hk => by have := HH.out.2.1 k hk; omega)
  have hxne : (Value.slice ax nx cx).ownBlock ≠ some (B + 2) := own_ne hownE (by omega)
  refine ⟨rfl, ⟨.slice ax nx cx, ?_, set_same _ e0, fun i => by simp [ef i], ?_, hME.setCell (by omega) _⟩, hBE.setCell (p := ⟨B + 2, 0, none⟩) (by show B ≤ B + 2; omega) _⟩
  · rw [set_blk _ (by omega)]; exact hE1
  · rw [hS]
    have h := ownsRow_set (b := B + 2) (j := 0) hownE hxne (.slice ax nx cx)
    rw [mdVs_snoc] at h
    simpa using h

set_option maxRecDepth 100000 in
theorem come_old (B : Nat) (p v q u : ByteArray) (x : Value) (S : List (MB × MB)) (w : World) (hG : Going B w x S) (hm : (p, v) ∈ S.map (·.1)) :
    Calls Tryz.prog 138 #[.agg #[.string p, .string v], .agg #[.string q, .string u], .pointer (some ⟨B + 1, 0, none⟩), .pointer (some ⟨B + 2, 0, none⟩)] w fun e w' => e = .returned (.tuple #[]) ∧ Below w.heap.size w w' := by
  have hb1 := below_alloc w (.cells #[.string p, .string v] 26)
  have hb2 := below_alloc (w.alloc (.cells #[.string p, .string v] 26)) (.cells #[.string q, .string u] 26)
  have hB := below_step hb1 hb2
  obtain ⟨m0, m1, _⟩ := (box2_alloc w (.string p) (.string v) 26).below hb2
  have hlk := md_lookup ((hG.map.below hb1).below hb2) (p, v) true
  obtain ⟨f, hf⟩ : ∃ f, mapF S (p, v) = some f := by
    cases h : mapF S (p, v) with
    | none => exact absurd hm (mapF_none.1 h)
    | some f => exact ⟨f, rfl⟩
  simp only [hf, Option.getD_some, Option.isSome_some, if_true, mdV] at hlk
  have hB3 := hB.alloc hB.size (.cells #[.string f.1, .string f.2] 26)
  have cm := hG.cm
  have c1 := Below.cell_some hB cm
  clear hf hm hG hb1 hb2 cm
  go_enter Tryz.func138, Tryz.ntmps138
  go_wp2_with fail
  go_end0
  exact ⟨rfl, hB3⟩
theorem come_calls (B : Nat) (p v q u : ByteArray) (x : Value) (S : List (MB × MB)) (w : World) (hG : Going B w x S) (hl : S.length ≤ 1000000) :
    Calls Tryz.prog 138 #[.agg #[.string p, .string v], .agg #[.string q, .string u], .pointer (some ⟨B + 1, 0, none⟩), .pointer (some ⟨B + 2, 0, none⟩)] w fun e w' => e = .returned (.tuple #[]) ∧ (∃ x', Going B w' x' (comeB S (p, v) (q, u))) ∧ Below B w w' := by
  unfold comeB
  cases h : mapF S (p, v) with
  | none => exact come_new B p v q u x S w hG (mapF_none.1 h) hl
  | some f =>
    have hm : (p, v) ∈ S.map (·.1) := by
      by_cases h2 : (p, v) ∈ S.map (·.1)
      · exact h2
      · rw [mapF_none.2 h2] at h; cases h
    refine (come_old B p v q u x S w hG hm).mono ?_
    rintro e w' ⟨rfl, hb⟩
    exact ⟨rfl, ⟨x, hG.below hb⟩, hb.mono (Nat.le_of_lt (Nat.lt_of_le_of_lt (Nat.le_add_right B 2) hG.lt))⟩
end Go.Proofs.Pw

/- Plain mathematics of package graph: the walk, step by step. No program in sight. -/
namespace Go.Proofs.Pw
open Go.Lib hiding intOf

/-- who came, by whom -/
abbrev Came := List (Md × Md)
def noMd : Md := ([], [])
def comeS (S : Came) (m f : Md) : Came := if m ∈ S.map (·.1) then S else S ++ [(m, f)]
def comeAll (S : Came) (f : Md) (l : List Md) : Came := l.foldl (fun S m => comeS S m f) S
def reqsOf (l : List En) (m : Md) : List Md := (enAt l (findE l m).toNat).reqs
def atS (S : Came) (i : Nat) : Md := (S.getD i (noMd, noMd)).1
theorem atS_get {S : Came} {i : Nat} (h : i < S.length) : ∃ f, S[i]? = some (atS S i, f) := by
  unfold atS
  rw [List.getD_eq_getElem?_getD, List.getElem?_eq_getElem h]
  exact ⟨S[i].2, rfl⟩
theorem atS_mem {S : Came} {i : Nat} (h : i < S.length) : atS S i ∈ S.map (·.1) := by
  obtain ⟨f, hf⟩ := atS_get h
  exact List.mem_map.2 ⟨_, List.mem_of_getElem? hf, rfl⟩
def stepS (l : List En) (S : Came) (i : Nat) : Came := comeAll S (atS S i) (reqsOf l (atS S i))
def runS (l : List En) : Nat → Came → Nat → Came
  | 0, S, _ => S
  | n + 1, S, i => if i < S.length then runS l n (stepS l S i) (i + 1) else S
def walkS (l : List En) (roots : List Md) : Came := runS l (l.length + 1) (comeAll [] noMd roots) 0

theorem comeS_pre (S : Came) (m f : Md) : S <+: comeS S m f := by
  unfold comeS
  split
  · exact List.prefix_refl _
  · exact List.prefix_append _ _
theorem comeS_mem (S : Came) (m f x : Md) : x ∈ (comeS S m f).map (·.1) ↔ x ∈ S.map (·.1) ∨ x = m := by
  unfold comeS
  split
  · rename_i h
    exact ⟨fun hx => .inl hx, fun hx => by rcases hx with hx | rfl <;> assumption⟩
  · simp [or_comm, eq_comm]
theorem comeS_nd {S : Came} (m f : Md) (h : (S.map (·.1)).Nodup) : ((comeS S m f).map (·.1)).Nodup := by
  unfold comeS
  split
  · exact h
  · rename_i hm
    rw [List.map_append, List.nodup_append]
    exact ⟨h, by simp, fun a ha b hb => by simp at hb; subst hb; exact fun e => hm (e ▸ ha)⟩
theorem comeAll_cons (S : Came) (f m : Md) (l : List Md) : comeAll S f (m :: l) = comeAll (comeS S m f) f l := rfl
theorem comeAll_snoc (S : Came) (f m : Md) (l : List Md) : comeAll S f (l ++ [m]) = comeS (comeAll S f l) m f := by simp [comeAll]
theorem comeAll_pre (f : Md) : ∀ (l : List Md) (S : Came), S <+: comeAll S f l
  | [], _ => List.prefix_refl _
  | m :: l, S => (comeS_pre S m f).trans (comeAll_pre f l _)
theorem comeAll_mem (f x : Md) : ∀ (l : List Md) (S : Came), x ∈ (comeAll S f l).map (·.1) ↔ x ∈ S.map (·.1) ∨ x ∈ l
  | [], S => by simp [comeAll]
  | m :: l, S => by
    rw [comeAll_cons, comeAll_mem f x l, comeS_mem, List.mem_cons, or_assoc]
theorem comeAll_nd (f : Md) : ∀ (l : List Md) (S : Came), (S.map (·.1)).Nodup → ((comeAll S f l).map (·.1)).Nodup
  | [], _, h => h
  | m :: l, _, h => comeAll_nd f l _ (comeS_nd m f h)
/-- whoever is new came by the one that is named -/
theorem comeAll_new (f : Md) : ∀ (l : List Md) (S : Came) (k : Nat) (p : Md × Md), (comeAll S f l)[k]? = some p → S[k]? = some p ∨ (S.length ≤ k ∧ p.2 = f ∧ p.1 ∈ l)
  | [], S, k, p, h => .inl h
  | m :: l, S, k, p, h => by
    rcases comeAll_new f l (comeS S m f) k p h with h1 | ⟨h1, h2, h3⟩
    · unfold comeS at h1
      split at h1
      · exact .inl h1
      · by_cases hk : k < S.length
        · rw [List.getElem?_append_left hk] at h1
          exact .inl h1
        · rw [List.getElem?_append_right (by omega)] at h1
          have hk2 : k - S.length = 0 := by
            have := (List.getElem?_eq_some_iff.1 h1).1
            simp at this; omega
          rw [hk2] at h1
          simp at h1
          exact .inr ⟨by omega, by rw [← h1], by rw [← h1]; simp⟩
    · exact .inr ⟨Nat.le_trans (comeS_pre S m f).length_le h1, h2, by simp [h3]⟩

/-- what holds of the walk ahead of round i -/
structure Walked (l : List En) (roots : List Md) (S : Came) (i : Nat) : Prop where
  nd : (S.map (·.1)).Nodup
  all : ∀ m ∈ S.map (·.1), Reached l roots m
  start : ∀ m ∈ roots, m ∈ S.map (·.1)
  done : ∀ j, j < i → j < S.length → ∀ r ∈ reqsOf l (atS S j), r ∈ S.map (·.1)
  by_ : ∀ k p, S[k]? = some p → (p.2 = noMd ∧ p.1 ∈ roots) ∨ ∃ j, j < k ∧ p.2 = atS S j ∧ p.1 ∈ reqsOf l (atS S j)
theorem reqsOf_entry {l : List En} (h : RightI l) {e : En} (he : e ∈ l) : reqsOf l e.md = e.reqs := by
  unfold reqsOf
  have h0 : ¬ findE l e.md < 0 := fun hn => findE_lt.1 hn e he rfl
  obtain ⟨k, hk, hl, e1⟩ := findE_nat h0
  rw [hk]
  show (enAt l k).reqs = _
  rw [h.one (enAt_mem hl) he e1]
theorem atS_pre {S T : Came} (h : S <+: T) {i : Nat} (hi : i < S.length) : atS T i = atS S i := by
  obtain ⟨R, rfl⟩ := h
  unfold atS
  rw [List.getD_eq_getElem?_getD, List.getD_eq_getElem?_getD, List.getElem?_append_left hi]
theorem walked_start {l : List En} {roots : List Md} : Walked l roots (comeAll [] noMd roots) 0 := by
  refine ⟨comeAll_nd _ _ _ (by simp), fun m hm => ?_, fun m hm => (comeAll_mem _ _ _ _).2 (.inr hm), fun j hj => absurd hj (Nat.not_lt_zero _), fun k p hp => ?_⟩
  · rcases (comeAll_mem _ _ _ _).1 hm with h | h
    · simp at h
    · exact .root h
  · rcases comeAll_new _ _ _ k p hp with h | ⟨_, h1, h2⟩
    · simp at h
    · exact .inl ⟨h1, h2⟩
theorem walked_step {l : List En} {roots : List Md} {S : Came} {i : Nat} (hG : RightG l roots) (h : Walked l roots S i) (hi : i < S.length) : Walked l roots (stepS l S i) (i + 1) := by
  have hpre := comeAll_pre (atS S i) (reqsOf l (atS S i)) S
  refine ⟨comeAll_nd _ _ _ h.nd, fun m hm => ?_, fun m hm => (comeAll_mem _ _ _ _).2 (.inl (h.start m hm)), fun j hj hjl r hr => ?_, fun k p hp => ?_⟩
  · rcases (comeAll_mem _ _ _ _).1 hm with h1 | h1
    · exact h.all m h1
    · have hR := h.all _ (atS_mem hi)
      obtain ⟨e, he, e1⟩ := hG.entry hR
      rw [← e1] at hR h1
      rw [reqsOf_entry hG.idx he] at h1
      exact .step he hR h1
  · unfold stepS at hr ⊢
    rw [comeAll_mem]
    have hjS : j < S.length := by omega
    rw [atS_pre hpre hjS] at hr
    by_cases e : j = i
    · subst e; exact .inr hr
    · exact .inl (h.done j (by omega) hjS r hr)
  · rcases comeAll_new _ _ _ k p hp with h1 | ⟨h1, h2, h3⟩
    · rcases h.by_ k p h1 with h2 | ⟨j, hj, h2, h3⟩
      · exact .inl h2
      · have hk := (List.getElem?_eq_some_iff.1 h1).1
        refine .inr ⟨j, hj, ?_⟩
        unfold stepS
        rw [atS_pre hpre (by omega)]
        exact ⟨h2, h3⟩
    · refine .inr ⟨i, by omega, ?_⟩
      unfold stepS
      rw [atS_pre hpre hi]
      exact ⟨h2, h3⟩
theorem nodup_len {α : Type} [DecidableEq α] : ∀ (a b : List α), a.Nodup → (∀ x ∈ a, x ∈ b) → a.length ≤ b.length
  | [], b, _, _ => Nat.zero_le _
  | x :: a, b, hn, hs => by
    rw [List.nodup_cons] at hn
    have hx := hs x (by simp)
    have h1 := nodup_len a (b.erase x) hn.2 (fun y hy => by
      have hne : y ≠ x := fun e => hn.1 (e ▸ hy)
      exact (List.mem_erase_of_ne hne).2 (hs y (by simp [hy])))
    rw [List.length_erase_of_mem hx] at h1
    have := List.length_pos_of_mem hx
    rw [List.length_cons]
    omega
theorem Walked.len {l : List En} {roots : List Md} {S : Came} {i : Nat} (hG : RightG l roots) (h : Walked l roots S i) : S.length ≤ l.length := by
  have := nodup_len (S.map (·.1)) (l.map (·.md)) h.nd (fun m hm => by
    obtain ⟨e, he, e1⟩ := hG.entry (h.all m hm)
    exact List.mem_map.2 ⟨e, he, e1⟩)
  simpa using this
theorem runS_done {l : List En} : ∀ (n : Nat) {S : Came} {i : Nat}, S.length ≤ i → runS l n S i = S
  | 0, _, _, _ => rfl
  | n + 1, S, i, h => by rw [runS, if_neg (by omega)]
theorem runS_walked {l : List En} {roots : List Md} (hG : RightG l roots) : ∀ (n : Nat) {S : Came} {i : Nat}, Walked l roots S i → l.length ≤ n + i → Walked l roots (runS l n S i) (runS l n S i).length
  | 0, S, i, h, hn => by
    have hl := h.len hG
    show Walked l roots S S.length
    exact ⟨h.nd, h.all, h.start, fun j _ hj => h.done j (by omega) hj, h.by_⟩
  | n + 1, S, i, h, hn => by
    rw [runS]
    by_cases hi : i < S.length
    · rw [if_pos hi]
      exact runS_walked hG n (walked_step hG h hi) (by omega)
    · rw [if_neg hi]
      exact ⟨h.nd, h.all, h.start, fun j hj hjl => h.done j (by omega) hjl, h.by_⟩
theorem walkS_walked {l : List En} {roots : List Md} (hG : RightG l roots) : Walked l roots (walkS l roots) (walkS l roots).length := runS_walked hG _ walked_start (by omega)
theorem walkS_mem {l : List En} {roots : List Md} (hG : RightG l roots) (m : Md) : m ∈ (walkS l roots).map (·.1) ↔ Reached l roots m := by
  have h := walkS_walked hG
  refine ⟨h.all m, fun hm => ?_⟩
  refine reached_closed h.start (fun e he hT r hr => ?_) hm
  obtain ⟨p, hp, e1⟩ := List.mem_map.1 hT
  obtain ⟨j, hj⟩ := List.getElem?_of_mem hp
  have hjl := (List.getElem?_eq_some_iff.1 hj).1
  have ha : atS (walkS l roots) j = e.md := by
    unfold atS
    rw [List.getD_eq_getElem?_getD, hj]
    exact e1
  refine h.done j hjl hjl r ?_
  rw [ha, reqsOf_entry hG.idx he]
  exact hr
end Go.Proofs.Pw
