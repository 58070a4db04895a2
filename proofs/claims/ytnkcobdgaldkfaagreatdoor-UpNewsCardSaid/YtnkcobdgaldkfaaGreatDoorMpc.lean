/- Mp: walks and plain laws, joined: RefP2 RefO RefP3 ModOrd FileRef RefEnt RefRoots RefIdx MvsMath MvsMath2 Own OwnIdx AppM SlModK SlIns SlDelM SlCat Great. Conditions: at each theorem. -/
import Derived.Test.YtnkcobdgaldkfaaGreatDoorMpb
import Derived.Test.YtnkcobdgaldkfaaGreatDoorMpa
import Derived.RegionTactic
import Derived.BigRegion
import Derived.Deep.AppendLies
import Derived.Deep.RegionLaw
import Derived.Laws.CopyRow
import Derived.Laws.CopyOwn
import Derived.Lib.Overlaps
import Derived.Lib.AppendZerosOnto
import Derived.Lib.SliceRun
import Derived.Shelf.RegionOpenPlain
import Derived.Shelf.Spec.SlicesGrow

/- R.PathError. Condition: a text of at most 1000000000 bytes. -/
namespace Go.Proofs.Pw
open Go.RowKit
open Go.Lib hiding intOf

theorem pathErr_elem {s x : Str} (hm : x ∈ split s [47]) (h : elemOk x = false) : pathErr s = 1 := by
  unfold pathErr
  simp only
  rw [if_pos (List.any_eq_true.2 ⟨x, hm, by rw [h]; rfl⟩)]
theorem pathErr_all {s : Str} (h : (split s [47]).all elemOk = true) : (split s [47]).any (fun w => !elemOk w) = false := by
  rw [Bool.eq_false_iff]
  intro e
  obtain ⟨x, hx, h2⟩ := List.any_eq_true.1 e
  rw [List.all_eq_true.1 h x hx] at h2
  cases h2
theorem pathErr_bound {s : Str} (h : (split s [47]).all elemOk = true) (hb : 5 < (split s [47]).length ∨ (split s [47]).any (fun w => decide (10 < w.length)) = true) : pathErr s = 2 := by
  unfold pathErr
  simp only
  rw [if_neg (by rw [pathErr_all h]; simp), if_pos hb]
theorem pathErr_rest {s : Str} (h : (split s [47]).all elemOk = true) (hb : ¬ (5 < (split s [47]).length ∨ (split s [47]).any (fun w => decide (10 < w.length)) = true)) :
    pathErr s = if 1 < (split s [47]).length ∧ sufWell ((split s [47]).getLast?.getD []) = false then 4 else 0 := by
  unfold pathErr
  simp only
  rw [if_neg (by rw [pathErr_all h]; simp), if_neg hb]
theorem refSuf_neg (x : Str) : refSuf x < 0 ↔ sufWell x = false := by
  unfold refSuf sufWell
  cases looksSuf x with
  | false => simp
  | true =>
    cases isSuf x with
    | true => simp
    | false => simp
theorem long_eq {n : Nat} {B : Bool} : (decide ((5 : Int) < (n : Int)) || B) = true ↔ (5 < n ∨ B = true) := by
  rw [Bool.or_eq_true, decide_eq_true_eq]
  have : (5 : Int) < (n : Int) ↔ 5 < n := by omega
  rw [this]

theorem refCut_slash (s : ByteArray) (w : World) (hs : s.size ≤ 1000000000) :
    Calls Tryz.prog 131 #[.string s, .int .u8 47] w fun e w' => (∃ v, e = .returned v ∧ StrsAt w' v (split s.data.toList [47]) ∧ NewRow w v) ∧ Below w.heap.size w w' := refCut_calls s 47 w hs

set_option maxHeartbeats 2000000 in
set_option maxRecDepth 100000 in
theorem refPath_calls (s : ByteArray) (w : World) (hs : s.size ≤ 1000000000) :
    Calls Tryz.prog 88 #[.string s] w fun e w' => e = .returned (.int .i64 (pathErr s.data.toList : Nat)) ∧ Below w.heap.size w w' := by
  go_enter Tryz.func88, Tryz.ntmps88
  go_wp2_with fail
  refine (refCut_slash s w hs).mono ?_
  rintro e w1 ⟨⟨v, rfl, hS, _⟩, hb1⟩
  obtain ⟨a, n, cap, L, rfl, hl, hn, hcap, hc⟩ := hS
  have hLs := lstF_mem_le (by decide) hl.symm
  have hs' : s.data.toList.length ≤ 1000000000 := by rw [← size_eq]; exact hs
  have hLs9 : ∀ j, j < n → (L j).size ≤ 1000000000 := fun j hj => Nat.le_trans (hLs j hj) hs'
  have hn1 : 1 ≤ n := by
    rcases Nat.eq_zero_or_pos n with rfl | h
    · exact absurd hl (split_ne 47 s.data.toList)
    · exact h
  have hn9 : n ≤ 1000000001 := by
    have h5 := congrArg List.length hl
    rw [lstF_length] at h5
    have := split_len 47 s.data.toList
    omega
  have HL : Hid (split s.data.toList [47] = lstF n L) := Lib.hid hl
  have HC := Lib.hid hc
  clear hl hc hLs hs'
  go_wp2_with fail
  go_loop [4, 5] (fun b i => ∃ (k : Nat) (C : Bool), k ≤ n ∧ i = .int .i64 k ∧ b = .bool C ∧ Hid ((decide ((5 : Int) < (n : Int)) || ((lstF n L).take k).any (fun w => decide (10 < w.length))) = C) ∧ Hid (((lstF n L).take k).all elemOk = true)) (fun _ i => n - (intOf i).toNat)
  case atStart => exact ⟨0, _, Nat.zero_le _, rfl, rfl, Lib.hid (by simp), Lib.hid rfl⟩
  case round =>
    obtain ⟨k, C, hk, rfl, rfl, HB, HA⟩ := hrel
    by_cases hlt : k < n
    · obtain ⟨b1, o1, rfl, hck⟩ := HC.out k hlt
      have hmem : (L k).data.toList ∈ split s.data.toList [47] := by rw [HL.out]; exact List.mem_of_getElem? (lstF_get n L k hlt)
      have HM := Lib.hid hmem
      have hp9 := hLs9 k hlt
      have HT : Hid ((lstF n L).take (k + 1) = (lstF n L).take k ++ [(L k).data.toList]) := Lib.hid (lstF_take_succ n L k hlt)
      clear hmem
      generalize L k = p at hck HM hp9 HT
      go_upto_block 2 with fail
      go_cut [6, 7, 8, 9, 10] from 22 to 83 (fun d _ _ _ _ wx => ∃ D : Bool, d = .bool D ∧ wx = w1 ∧ Hid (p.data.toList.all (· == 46) = D) ∧ Hid (p.data.toList.all isElemByte = true) ∧ Hid (NoOcc p.data.toList dots (p.size - 2)))
      case first =>
        go_wp2_with fail
        go_loop [6, 7, 8, 9, 10] (fun d i _ _ _ => ∃ (m : Nat) (D : Bool), m ≤ p.size ∧ i = .int .i64 m ∧ d = .bool D ∧ Hid ((p.data.toList.take m).all (· == 46) = D) ∧ Hid ((p.data.toList.take m).all isElemByte = true) ∧ Hid (NoOcc p.data.toList dots (m - 2))) (fun _ i _ _ _ => p.size - (intOf i).toNat)
        case atStart => exact ⟨0, true, Nat.zero_le _, rfl, rfl, Lib.hid rfl, Lib.hid rfl, Lib.hid (NoOcc.zero _ _)⟩
        case round =>
          obtain ⟨m, D, hm, rfl, rfl, HD, HE, HO⟩ := hrel
          by_cases hml : m < p.size
          · have hip := isElemByte_iff p[m]
            rcases elem_classes (p[m].toNat : Int) with h | h
            · have hyes : isElemByte p[m] = true := hip.2 (by omega)
              have HN : Hid ((p.data.toList.take (m + 1)).all isElemByte = true) := Lib.hid (by rw [take_snoc p m hml, List.all_append, HE.out]; simp [hyes])
              have HDn : Hid ((p.data.toList.take (m + 1)).all (· == 46) = (D && p[m] == 46)) := Lib.hid (by rw [take_snoc p m hml, List.all_append, HD.out]; simp)
              clear hip hyes
              by_cases h2 : m < 2
              · have HOn : Hid (NoOcc p.data.toList dots (m + 1 - 2)) := Lib.hid (noOcc_step HO.out (fun h => by omega))
                have h2' : ¬ (2 : Int) ≤ (m : Int) := by omega
                have HDa : Hid ((p[m].toNat : Int) = 46 → (p.data.toList.take (m + 1)).all (· == 46) = D) := Lib.hid (fun e => by rw [HDn.out, show p[m] = 46 from UInt8.toNat_inj.1 (by exact_mod_cast e)]; simp)
                have HDb : Hid ((p[m].toNat : Int) ≠ 46 → (p.data.toList.take (m + 1)).all (· == 46) = false) := Lib.hid (fun e => by rw [HDn.out, Bool.and_eq_false_iff]; right; exact beq_eq_false_iff_ne.2 (fun h => e (by rw [h]; rfl)))
                clear HDn
                cases D
                all_goals rcases h with ⟨c1, c2, c3, c4, c5⟩ | ⟨c1, c2, c3, c4, c5⟩ | h | h | h
                all_goals
                  go_wp2_with fail
                  go_round
                  case rel => exact ⟨m + 1, _, by omega, by go_num, rfl, Lib.hid (by first | exact HDa.out h | exact HDb.out (beq_eq_false_iff_ne.1 c5) | exact HDb.out (by omega)), HN, HOn⟩
                  case measure => simp [intOf]; omega
              · obtain ⟨m', rfl⟩ : ∃ m', m = m' + 2 := ⟨m - 2, by omega⟩
                have h2' : (2 : Int) ≤ ((m' + 2 : Nat) : Int) := by omega
                by_cases ho : (p.extract m' (m' + 3)).data.toList = dots
                · have HF : Hid (pathErr s.data.toList = 1) := Lib.hid (pathErr_elem HM.out (elem_occ (k := m') (by omega) (occ_dots.2 ho)))
                  have ho1 : p.extract m' (m' + 3) = ⟨#[46, 46, 46]⟩ := bytes_ext.1 ho
                  clear ho
                  cases D
                  all_goals rcases h with ⟨c1, c2, c3, c4, c5⟩ | ⟨c1, c2, c3, c4, c5⟩ | h | h | h
                  all_goals
                    go_wp2_with fail
                    go_ret
                    rw [HF.out]
                    exact ⟨rfl, hb1⟩
                · have HOn : Hid (NoOcc p.data.toList dots (m' + 2 + 1 - 2)) := Lib.hid (noOcc_step HO.out (fun _ => by
                    rw [Bool.eq_false_iff]; intro e; exact ho (occ_dots.1 e)))
                  have ho1 : p.extract m' (m' + 3) ≠ ⟨#[46, 46, 46]⟩ := fun e => ho (by rw [e]; rfl)
                  have ho2 : ((p.extract m' (m' + 3)).toList == [46, 46, 46]) = false := by rw [toList_data]; exact beq_eq_false_iff_ne.2 ho
                  clear ho
                  have HDa : Hid ((p[m' + 2].toNat : Int) = 46 → (p.data.toList.take (m' + 2 + 1)).all (· == 46) = D) := Lib.hid (fun e => by rw [HDn.out, show p[m' + 2] = 46 from UInt8.toNat_inj.1 (by exact_mod_cast e)]; simp)
                  have HDb : Hid ((p[m' + 2].toNat : Int) ≠ 46 → (p.data.toList.take (m' + 2 + 1)).all (· == 46) = false) := Lib.hid (fun e => by rw [HDn.out, Bool.and_eq_false_iff]; right; exact beq_eq_false_iff_ne.2 (fun h => e (by rw [h]; rfl)))
                  clear HDn
                  cases D
                  all_goals rcases h with ⟨c1, c2, c3, c4, c5⟩ | ⟨c1, c2, c3, c4, c5⟩ | h | h | h
                  all_goals
                    go_wp2_with fail
                    go_round
                    case rel => exact ⟨m' + 2 + 1, _, by omega, by go_num, rfl, Lib.hid (by first | exact HDa.out h | exact HDb.out (beq_eq_false_iff_ne.1 c5) | exact HDb.out (by omega)), HN, HOn⟩
                    case measure => simp [intOf]; omega
            · obtain ⟨⟨hd46, hd45, hd95⟩, hno, h⟩ := h
              have hnot : isElemByte p[m] = false := by
                rw [Bool.eq_false_iff]
                intro e
                have := hip.1 e
                have n46 : (p[m].toNat : Int) ≠ 46 := beq_eq_false_iff_ne.1 hd46
                have n45 : (p[m].toNat : Int) ≠ 45 := beq_eq_false_iff_ne.1 hd45
                have n95 : (p[m].toNat : Int) ≠ 95 := beq_eq_false_iff_ne.1 hd95
                omega
              have HF : Hid (pathErr s.data.toList = 1) := Lib.hid (pathErr_elem HM.out (elem_byte hml hnot))
              have hn46 : ((p[m].toNat : Int) != 46) = true := by unfold bne; rw [hd46]; rfl
              have hn45 : ((p[m].toNat : Int) != 45) = true := by unfold bne; rw [hd45]; rfl
              have hn95 : ((p[m].toNat : Int) != 95) = true := by unfold bne; rw [hd95]; rfl
              clear hip hnot hno
              rcases h with ⟨h1, h2, h3, h4⟩ | ⟨h1, h2, h3, h4⟩ | ⟨h1, h2, h3, h4⟩
              all_goals
                go_wp2_with fail
                go_ret
                rw [HF.out]
                exact ⟨rfl, hb1⟩
          · obtain rfl : m = p.size := by omega
            have HD2 : Hid (p.data.toList.all (· == 46) = D) := Lib.hid (by rw [← HD.out, take_size])
            have HE2 : Hid (p.data.toList.all isElemByte = true) := Lib.hid (by rw [← HE.out, take_size])
            go_wp2_with fail
            go_meet
            exact ⟨D, rfl, rfl, HD2, HE2, HO⟩
      case rest =>
        obtain ⟨D, rfl, rfl, HD, HE, HO⟩ := hcut
        cases D with
        | true =>
          have HF : Hid (pathErr s.data.toList = 1) := Lib.hid (pathErr_elem HM.out (elem_dot HD.out))
          go_wp2_with fail
          go_ret
          rw [HF.out]
          exact ⟨rfl, hb1⟩
        | false =>
          have HN : Hid (((lstF n L).take (k + 1)).all elemOk = true) := Lib.hid (by rw [HT.out, List.all_append, HA.out]; simp [elem_yes HE.out HD.out (by rw [← size_eq]; exact HO.out)])
          have HBn : Hid ((decide ((5 : Int) < (n : Int)) || ((lstF n L).take (k + 1)).any (fun w => decide (10 < w.length))) = (C || decide (10 < p.size))) := Lib.hid (by rw [HT.out, List.any_append, ← Bool.or_assoc, HB.out, size_eq]; simp)
          have HT2 : Hid (10 < p.size → (C || decide (10 < p.size)) = true) := Lib.hid (fun h => by simp [h])
          have HF2 : Hid (¬ 10 < p.size → (C || decide (10 < p.size)) = C) := Lib.hid (fun h => by simp [h])
          by_cases h10 : 10 < p.size
          · have h10' : (10 : Int) < (p.size : Int) := by omega
            rw [HT2.out h10] at HBn
            clear HT2 HF2
            cases C
            all_goals
              go_wp2_with fail
              go_round
              case rel => exact ⟨k + 1, true, by omega, by go_num, rfl, HBn, HN⟩
              case measure => simp [intOf]; omega
          · have h10' : ¬ (10 : Int) < (p.size : Int) := by omega
            rw [HF2.out h10] at HBn
            clear HT2 HF2
            cases C
            all_goals
              go_wp2_with fail
              go_round
              case rel => exact ⟨k + 1, _, by omega, by go_num, rfl, HBn, HN⟩
              case measure => simp [intOf]; omega
    · obtain rfl : k = n := by omega
      have HAll : Hid ((split s.data.toList [47]).all elemOk = true) := Lib.hid (by rw [HL.out, ← HA.out, lstF_take_all])
      have HLen : Hid ((split s.data.toList [47]).length = k) := Lib.hid (by rw [HL.out, lstF_length])
      have HBo : Hid ((5 < (split s.data.toList [47]).length ∨ (split s.data.toList [47]).any (fun w => decide (10 < w.length)) = true) ↔ C = true) := Lib.hid (by
        rw [HLen.out, ← long_eq, ← HB.out, lstF_take_all, HL.out])
      cases C with
      | true =>
        have HF : Hid (pathErr s.data.toList = 2) := Lib.hid (pathErr_bound HAll.out (HBo.out.2 rfl))
        go_wp2_with fail
        go_ret
        rw [HF.out]
        exact ⟨rfl, hb1⟩
      | false =>
        have HR : Hid (pathErr s.data.toList = if 1 < k ∧ sufWell ((L (k - 1)).data.toList) = false then 4 else 0) := Lib.hid (by
          rw [pathErr_rest HAll.out (fun h => by cases HBo.out.1 h), HLen.out, HL.out, getLast_lstF k L hn1])
        by_cases h1 : 1 < k
        · have h1' : (1 : Int) < (k : Int) := by omega
          obtain ⟨b1, o1, rfl, hck⟩ := HC.out (k - 1) (by omega)
          have hi : ((k : Int) - 1).toNat = k - 1 := by omega
          have hp9 := hLs9 (k - 1) (by omega)
          have hsu := refSuffix_calls (L (k - 1)) w1 hp9
          have hneg := refSuf_neg (L (k - 1)).data.toList
          generalize L (k - 1) = p at hck HR hsu hneg
          generalize refSuf p.data.toList = z at hsu hneg
          obtain ⟨k', rfl⟩ : ∃ k', k = k' + 1 := ⟨k - 1, by omega⟩
          simp only [Nat.add_sub_cancel] at hck
          have hk' : ((k' + 1 : Nat) : Int) - 1 = (k' : Int) := by omega
          have hk0 : (0 : Int) ≤ (k' : Int) := by omega
          clear hi
          by_cases hz : z < 0
          · have HF : Hid (pathErr s.data.toList = 4) := Lib.hid (by rw [HR.out, if_pos ⟨h1, hneg.1 hz⟩])
            clear hneg
            go_wp2_with fail
            refine hsu.mono ?_
            rintro e w' ⟨rfl, rfl⟩
            go_wp2_with fail
            go_ret
            rw [HF.out]
            exact ⟨rfl, hb1⟩
          · have HF : Hid (pathErr s.data.toList = 0) := Lib.hid (by rw [HR.out, if_neg (fun h => hz (hneg.2 h.2))])
            clear hneg
            go_wp2_with fail
            refine hsu.mono ?_
            rintro e w' ⟨rfl, rfl⟩
            go_wp2_with fail
            go_ret
            rw [HF.out]
            exact ⟨rfl, hb1⟩
        · have HF : Hid (pathErr s.data.toList = 0) := Lib.hid (by rw [HR.out, if_neg (fun h => h1 h.1)])
          have h1' : ¬ (1 : Int) < (k : Int) := by omega
          go_wp2_with fail
          go_ret
          rw [HF.out]
          exact ⟨rfl, hb1⟩
end Go.Proofs.Pw

/- The references' order of versions: sign, orderPart, OrderVer, IsVer, IsLess, MaxOf. -/
namespace Go.Proofs.Pw
open Go.RowKit
open Go.Lib hiding intOf

/-! ### the plain side -/
def sgnB (x y : Bool) : Int := if x then -1 else if y then 1 else 0
theorem sgnB_int (a b : Int) : sgnB (decide (a < b)) (decide (b < a)) = sgn (a - b) := by
  unfold sgnB sgn
  by_cases h : a < b
  · simp [h]; omega
  · by_cases h2 : b < a
    · simp [h, h2]; omega
    · simp [h, h2]; omega
theorem sgnB_bytes (a b : Str) : sgnB (Op.bytesLess a b) (!Op.bytesLess a b && !(a == b)) = sgn (compareBytes a b) := by
  rw [bytesLess_iff]
  unfold sgnB sgn
  by_cases h : compareBytes a b < 0
  · simp [h]
  · by_cases h2 : 0 < compareBytes a b
    · have : ¬ a = b := fun e => by subst e; rw [compareBytes_ord.self] at h2; omega
      simp [h, h2, this]
    · have : a = b := compareBytes_zero (by omega)
      subst this
      simp [compareBytes_ord.self]
theorem sgn_zero' : sgn 0 = 0 := rfl

/-- R.sign -/
theorem sign_calls (x y : Bool) (w : World) :
    Calls Tryz.prog 113 #[.bool x, .bool y] w fun e w' => e = .returned (.int .i64 (sgnB x y)) ∧ w' = w := by
  cases x with
  | true =>
    go_enter Tryz.func113, Tryz.ntmps113
    go_wp2_with fail
    go_ret
    exact ⟨rfl, rfl⟩
  | false =>
    cases y with
    | true =>
      go_enter Tryz.func113, Tryz.ntmps113
      go_wp2_with fail
      go_ret
      exact ⟨rfl, rfl⟩
    | false =>
      go_enter Tryz.func113, Tryz.ntmps113
      go_wp2_with fail
      go_ret
      exact ⟨rfl, rfl⟩

/-- R.orderPart -/
theorem orderPart_calls (a b : ByteArray) (w : World) (ha : a.size ≤ 4000000000) (hb : b.size ≤ 4000000000) :
    Calls Tryz.prog 114 #[.string a, .string b] w fun e w' => e = .returned (.int .i64 (ordPart a.data.toList b.data.toList)) ∧ w' = w := by
  have hm : ordPart a.data.toList b.data.toList = if areDigits a.data.toList && areDigits b.data.toList then sgnB (decide (((numberOf a.data.toList).1 : Int) < (numberOf b.data.toList).1)) (decide (((numberOf b.data.toList).1 : Int) < (numberOf a.data.toList).1)) else if areDigits a.data.toList || areDigits b.data.toList then sgnB (areDigits a.data.toList) (areDigits b.data.toList) else sgnB (Op.bytesLess a.toList b.toList) (!Op.bytesLess a.toList b.toList && !(a.toList == b.toList)) := by
    rw [toList_data, toList_data, sgnB_bytes, sgnB_int]
    unfold ordPart
    cases areDigits a.data.toList <;> cases areDigits b.data.toList <;> rfl
  generalize ordPart a.data.toList b.data.toList = R at hm ⊢
  have h1 := fun W => refDigits_calls a W ha
  have h2 := fun W => refDigits_calls b W hb
  have h3 := fun W => refNumber_calls a W ha
  have h4 := fun W => refNumber_calls b W hb
  generalize areDigits a.data.toList = x at h1 hm
  generalize areDigits b.data.toList = y at h2 hm
  generalize (numberOf a.data.toList).1 = m at h3 hm
  generalize (numberOf b.data.toList).1 = n at h4 hm
  have HM := Lib.hid hm
  have H1 := Lib.hid h1
  have H2 := Lib.hid h2
  have H3 := Lib.hid h3
  have H4 := Lib.hid h4
  clear hm h1 h2 h3 h4
  go_enter Tryz.func114, Tryz.ntmps114
  go_wp2_with fail
  refine (H1.out w).mono ?_
  rintro e w1 ⟨rfl, rfl⟩
  go_wp2_with fail
  refine (H2.out w).mono ?_
  rintro e w1 ⟨rfl, rfl⟩
  cases x <;> cases y
  case false.false =>
    go_wp2_with fail
    refine (sign_calls _ _ w).mono ?_
    rintro e w1 ⟨rfl, rfl⟩
    go_wp2_with fail
    go_ret
    rw [HM.out]
    exact ⟨by simp, rfl⟩
  case true.true =>
    go_wp2_with fail
    refine (H3.out w).mono ?_
    rintro e w1 ⟨rfl, rfl⟩
    go_wp2_with fail
    refine (H4.out w).mono ?_
    rintro e w1 ⟨rfl, rfl⟩
    go_wp2_with fail
    refine (sign_calls _ _ w).mono ?_
    rintro e w1 ⟨rfl, rfl⟩
    go_wp2_with fail
    go_ret
    rw [HM.out]
    exact ⟨by simp, rfl⟩
  all_goals
    go_wp2_with fail
    refine (sign_calls _ _ w).mono ?_
    rintro e w1 ⟨rfl, rfl⟩
    go_wp2_with fail
    go_ret
    rw [HM.out]
    exact ⟨rfl, rfl⟩

theorem verNums_at {a b : Str} {k : Nat} (hk : k < 3) (h0 : ∀ j, j < k → verNum a j = verNum b j) (hne : verNum a k ≠ verNum b k) : verNums a b = (verNum a k : Int) - verNum b k := by
  unfold verNums orI
  obtain rfl | rfl | rfl : k = 0 ∨ k = 1 ∨ k = 2 := by omega
  · rw [if_neg (by omega)]
  · have := h0 0 (by omega)
    rw [if_pos (by omega), if_neg (by omega)]
  · have := h0 0 (by omega)
    have := h0 1 (by omega)
    rw [if_pos (by omega), if_pos (by omega)]
theorem verNums_same {a b : Str} (h0 : ∀ j, j < 3 → verNum a j = verNum b j) : verNums a b = 0 := by
  have := h0 0 (by omega)
  have := h0 1 (by omega)
  have := h0 2 (by omega)
  unfold verNums orI
  rw [if_pos (by omega), if_pos (by omega)]
  omega
theorem sgn_verKey {a b : Str} : sgn (verKey a b) = sgn (verCmp a b) := by
  have := verCmp_sign a b
  have h3 := verKey_ord.anti a b
  unfold sgn
  split <;> split <;> (try split) <;> (try split) <;> omega
theorem verKey_nums {a b : Str} (h : verNums a b ≠ 0) : verKey a b = verNums a b := by unfold verKey orI; rw [if_neg h]
theorem verKey_pre {a b : Str} (h : verNums a b = 0) : verKey a b = orI (preEnd a - preEnd b) (cmpList (verPre a) (verPre b)) := by unfold verKey; rw [h]; rfl

theorem sgnB_ne {x y : Nat} (h : x ≠ y) : sgnB (decide ((x : Int) < y)) true = sgn ((x : Int) - y) := by
  by_cases h1 : x < y
  · rw [sgn_neg (by omega)]
    simp [sgnB, h1]
  · rw [sgn_pos (by omega)]
    simp [sgnB, h1]
theorem ordEnd {a b : Str} {n1 n2 : Nat} {L1 L2 : Nat → ByteArray} (h : verNums a b = 0) (h1 : verPre a = lstF n1 L1) (h2 : verPre b = lstF n2 L2) :
    (n1 = 0 ∨ n2 = 0 → sgn (verKey a b) = sgnB (decide ((0 : Int) < n1)) (decide ((0 : Int) < n2))) ∧ (n1 ≠ 0 → n2 ≠ 0 → sgn (verKey a b) = sgn (cmpList (lstF n1 L1) (lstF n2 L2))) := by
  rw [verKey_pre h]
  unfold preEnd
  rw [h1, h2, lstF_length, lstF_length]
  refine ⟨fun h0 => ?_, fun q1 q2 => ?_⟩
  · by_cases q1 : n1 = 0
    · subst q1
      by_cases q2 : n2 = 0
      · subst q2; rfl
      · have hd : decide ((0 : Int) < n2) = true := decide_eq_true (by omega)
        rw [hd, if_pos rfl, if_neg q2]; rfl
    · obtain rfl : n2 = 0 := by omega
      have hd : decide ((0 : Int) < n1) = true := decide_eq_true (by omega)
      rw [hd, if_neg q1, if_pos rfl]; rfl
  · rw [if_neg q1, if_neg q2]; rfl
theorem cmpList_end1 {n m : Nat} {L M : Nat → ByteArray} {k : Nat} (h : k = n) (hm : k ≤ m) : sgn (cmpList ((lstF n L).drop k) ((lstF m M).drop k)) = sgnB (decide ((n : Int) < m)) (decide ((m : Int) < n)) := by
  subst h
  rw [List.drop_of_length_le (l := lstF k L) (by rw [lstF_length]; exact Nat.le_refl _)]
  by_cases h2 : k < m
  · rw [List.drop_eq_getElem_cons (by rw [lstF_length]; exact h2), decide_eq_true (show (k : Int) < m by omega)]; rfl
  · rw [List.drop_of_length_le (by rw [lstF_length]; omega), decide_eq_false (show ¬ (k : Int) < m by omega), decide_eq_false (show ¬ (m : Int) < k by omega)]; rfl
theorem cmpList_end2 {n m : Nat} {L M : Nat → ByteArray} {k : Nat} (h : k = m) (hm : k < n) : sgn (cmpList ((lstF n L).drop k) ((lstF m M).drop k)) = sgnB (decide ((n : Int) < m)) (decide ((m : Int) < n)) := by
  subst h
  rw [List.drop_of_length_le (l := lstF k M) (by rw [lstF_length]; exact Nat.le_refl _), List.drop_eq_getElem_cons (by rw [lstF_length]; exact hm), decide_eq_false (show ¬ (n : Int) < k by omega), decide_eq_true (show (k : Int) < n by omega)]; rfl

structure NumsAt (w : World) (b : Nat) (s : Str) (v3 : Value) : Prop where
  c : ∀ j, j < 3 → w.cell? ⟨b, j, none⟩ = some (.int .i64 (verNum s j : Nat))
  c3 : w.cell? ⟨b, 3, none⟩ = some v3
theorem NumsAt.below {w w' : World} {b : Nat} {s : Str} {v3 : Value} (h : NumsAt w b s v3) (hb : Below w.heap.size w w') : NumsAt w' b s v3 :=
  ⟨fun j hj => Below.cell_some hb (h.c j hj), Below.cell_some hb h.c3⟩
theorem numsAt_alloc (w : World) (s : Str) (v3 : Value) (t : TypeId) : NumsAt (w.alloc (.cells #[.int .i64 (verNum s 0 : Nat), .int .i64 (verNum s 1 : Nat), .int .i64 (verNum s 2 : Nat), v3] t)) w.heap.size s v3 :=
  ⟨fun j hj => by obtain rfl | rfl | rfl : j = 0 ∨ j = 1 ∨ j = 2 := by omega
                  all_goals simp, by simp⟩

set_option maxRecDepth 100000 in
set_option maxHeartbeats 1000000 in
/-- R.OrderVer -/
theorem orderVer_calls (a b : ByteArray) (w : World) (ha : a.size ≤ 1000000000) (hb : b.size ≤ 1000000000) :
    Calls Tryz.prog 68 #[.string a, .string b] w fun e w' => e = .returned (.int .i64 (sgn (verCmp a.data.toList b.data.toList))) ∧ Below w.heap.size w w' := by
  have hR := sgn_verKey (a := a.data.toList) (b := b.data.toList)
  rw [← hR]
  clear hR
  have hs1 := verPre_small a.data.toList
  have hs2 := verPre_small b.data.toList
  go_enter Tryz.func68, Tryz.ntmps68
  go_wp2_with fail
  refine (refVerOf_calls a w ha).mono ?_
  rintro e w1 ⟨⟨va, rfl, a1, n1, cap1, L1, rfl, HL1, hn1, hn1', hc1⟩, hb1⟩
  have hbA := below_alloc w1 (.cells #[.int .i64 (verNum a.data.toList 0 : Nat), .int .i64 (verNum a.data.toList 1 : Nat), .int .i64 (verNum a.data.toList 2 : Nat), .slice a1 n1 cap1] 108)
  have hzA := numsAt_alloc w1 a.data.toList (.slice a1 n1 cap1) 108
  have hb1A := below_step hb1 hbA
  go_wp2_with fail
  refine (refVerOf_calls b _ hb).mono ?_
  rintro e w2 ⟨⟨vb, rfl, a2, n2, cap2, L2, rfl, HL2, hn2, hn2', hc2⟩, hb2⟩
  have hbB := below_alloc w2 (.cells #[.int .i64 (verNum b.data.toList 0 : Nat), .int .i64 (verNum b.data.toList 1 : Nat), .int .i64 (verNum b.data.toList 2 : Nat), .slice a2 n2 cap2] 108)
  have hzB := numsAt_alloc w2 b.data.toList (.slice a2 n2 cap2) 108
  have hzA2 := (hzA.below hb2).below hbB
  have hbw := below_step (below_step hb1A hb2) hbB
  have hc1' := fun j (hj : j < n1) => (let ⟨b, o, e, h2⟩ := hc1 j hj; ⟨b, o, e, Below.cell_some (below_step hbA (below_step hb2 hbB)) h2⟩ : ∃ b o, a1 = some ⟨b, o, none⟩ ∧ _)
  have hc2' := fun j (hj : j < n2) => (let ⟨b, o, e, h2⟩ := hc2 j hj; ⟨b, o, e, Below.cell_some hbB h2⟩ : ∃ b o, a2 = some ⟨b, o, none⟩ ∧ _)
  rw [HL1] at hs1
  rw [HL2] at hs2
  rw [lstF_length] at hs1 hs2
  have hL1 : ∀ j, j < n1 → (L1 j).size ≤ 4000000000 ∧ partErr (L1 j).data.toList = 0 := fun j hj => by
    have := hs1.2 _ (List.mem_of_getElem? (lstF_get n1 L1 j hj))
    exact ⟨by rw [size_eq]; omega, this.2⟩
  have hL2 : ∀ j, j < n2 → (L2 j).size ≤ 4000000000 ∧ partErr (L2 j).data.toList = 0 := fun j hj => by
    have := hs2.2 _ (List.mem_of_getElem? (lstF_get n2 L2 j hj))
    exact ⟨by rw [size_eq]; omega, this.2⟩
  have hm1 := hs1.1
  have hm2 := hs2.1
  have HPA := Lib.hid HL1
  have HPB := Lib.hid HL2
  have HC1 := Lib.hid hc1'
  have HC2 := Lib.hid hc2'
  have HS1 := Lib.hid hL1
  have HS2 := Lib.hid hL2
  clear hs1 hs2 hL1 hL2 hc1 hc2 hc1' hc2' HL1 HL2 hzA hb1 hbA hb1A
  go_wp2_with fail
  generalize hwB : w2.alloc (.cells #[.int .i64 (verNum b.data.toList 0 : Nat), .int .i64 (verNum b.data.toList 1 : Nat), .int .i64 (verNum b.data.toList 2 : Nat), .slice a2 n2 cap2] 108) = wB at *
  clear hwB
  go_loopw [9] (fun i wr => ∃ k : Nat, k ≤ 3 ∧ i = .int .i64 k ∧ Below wB.heap.size wB wr ∧ Hid (∀ j, j < k → verNum a.data.toList j = verNum b.data.toList j)) (fun i _ => 3 - (intOf i).toNat)
  case atStart => exact ⟨0, by omega, rfl, Below.refl _ _, Lib.hid (fun j hj => absurd hj (Nat.not_lt_zero _))⟩
  case round =>
    obtain ⟨k, hk, rfl, hbr, HA⟩ := hrel
    have hbrw := below_step hbw hbr
    by_cases hlt : k < 3
    · have d1 := (hzA2.below hbr).c k hlt
      have d2 := (hzB.below hbr).c k hlt
      by_cases he : verNum a.data.toList k = verNum b.data.toList k
      · have HN : Hid (∀ j, j < k + 1 → verNum a.data.toList j = verNum b.data.toList j) := Lib.hid (fun j hj => by
          by_cases e : j = k
          · subst e; exact he
          · exact HA.out j (by omega))
        rw [he] at d1
        generalize verNum b.data.toList k = x at d1 d2
        clear he
        go_wp2_with fail
        go_region
        all_goals
          go_wp2_with fail
          go_roundw
          case rel => exact ⟨k + 1, by omega, by go_num, hbr.drew, HN⟩
          case measure => simp [intOf]; omega
      · have hX : sgn (verKey a.data.toList b.data.toList) = sgnB (decide ((verNum a.data.toList k : Int) < verNum b.data.toList k)) true := by
          have h1 := verNums_at hlt HA.out he
          rw [verKey_nums (by rw [h1]; omega), h1, sgnB_ne he]
        have hne : ((verNum a.data.toList k : Int) == (verNum b.data.toList k : Int)) = false := beq_eq_false_iff_ne.2 (by omega)
        generalize verNum a.data.toList k = x at d1 hX hne
        generalize verNum b.data.toList k = y at d2 hX hne
        have HX := Lib.hid hX
        clear he hX
        go_wp2_with fail
        go_region
        go_wp2_with fail
        have e1 : wr.drew.cell? _ = _ := d1
        have e2 : wr.drew.cell? _ = _ := d2
        have hbd := Below.drew hbrw
        generalize wr.drew = wd at e1 e2 hbd ⊢
        clear d1 d2
        go_quiet ((go_at_call 113; exact Calls.quiet_of_same (sign_calls _ _ _)))
        go_wp2_with fail
        go_ret
        rw [HX.out]
        exact ⟨by simp, Below.drewN hbd _⟩
    · obtain rfl : k = 3 := by omega
      have hEnd := ordEnd (verNums_same HA.out) HPA.out HPB.out
      have p3 := (hzA2.below hbr).c3
      have q3 := (hzB.below hbr).c3
      have hE1 := Lib.hid hEnd.1
      have hE2 := Lib.hid hEnd.2
      clear hEnd HA
      by_cases p1 : n1 = 0
      · have HX := Lib.hid (hE1.out (.inl p1))
        have p1' : ((n1 : Int) == 0) = true := beq_iff_eq.2 (by omega)
        have p1'' : ¬ (0 : Int) < (n1 : Int) := by omega
        clear p1
        go_wp2_with fail
        refine (sign_calls _ _ _).mono ?_
        rintro e w5 ⟨rfl, rfl⟩
        go_wp2_with fail
        go_ret
        rw [HX.out]
        exact ⟨by simp, hbrw⟩
      · have p1' : ((n1 : Int) == 0) = false := beq_eq_false_iff_ne.2 (by omega)
        have p1'' : (0 : Int) < (n1 : Int) := by omega
        by_cases p2 : n2 = 0
        · have HX := Lib.hid (hE1.out (.inr p2))
          have p2' : ((n2 : Int) == 0) = true := beq_iff_eq.2 (by omega)
          have p2'' : ¬ (0 : Int) < (n2 : Int) := by omega
          clear p1 p2
          go_wp2_with fail
          refine (sign_calls _ _ _).mono ?_
          rintro e w5 ⟨rfl, rfl⟩
          go_wp2_with fail
          go_ret
          rw [HX.out]
          exact ⟨by simp, hbrw⟩
        · have HX := Lib.hid (hE2.out p1 p2)
          have p2' : ((n2 : Int) == 0) = false := beq_eq_false_iff_ne.2 (by omega)
          clear p1 p2 p1'' hE1 hE2
          obtain ⟨wo, hwo⟩ : ∃ wo : World, wo = wr := ⟨_, rfl⟩
          subst hwo
          go_wp2_with fail
          go_loopw [10, 11] (fun i _ wq => ∃ m : Nat, m ≤ n1 ∧ m ≤ n2 ∧ i = .int .i64 m ∧ Below wo.heap.size wo wq ∧ Hid (sgn (verKey a.data.toList b.data.toList) = sgn (cmpList ((lstF n1 L1).drop m) ((lstF n2 L2).drop m)))) (fun i _ _ => n1 - (intOf i).toNat)
          case atStart => exact ⟨0, by omega, by omega, rfl, Below.refl _ _, HX⟩
          case round =>
            obtain ⟨m, hm, hm', rfl, hbq, HC⟩ := hrel
            have hbqw := below_step hbrw hbq
            have hbqB := below_step hbr hbq
            replace p3 := Below.cell_some hbq p3
            replace q3 := Below.cell_some hbq q3
            by_cases hl1 : m < n1
            · by_cases hl2 : m < n2
              · obtain ⟨b1, o1, rfl, e1⟩ := HC1.out m hl1
                obtain ⟨b2, o2, rfl, e2⟩ := HC2.out m hl2
                replace e1 := Below.cell_some hbqB e1
                replace e2 := Below.cell_some hbqB e2
                have hcall := fun W => orderPart_calls (L1 m) (L2 m) W (HS1.out m hl1).1 (HS2.out m hl2).1
                rw [ordPart_eq (HS1.out m hl1).2 (HS2.out m hl2).2] at hcall
                have hst := cmpList_drop n1 n2 L1 L2 m hl1 hl2
                generalize cmpPart (L1 m).data.toList (L2 m).data.toList = c at hcall hst
                by_cases hc : c = 0
                · subst hc
                  rw [orI_zero] at hst
                  rw [sgn_zero'] at hcall
                  have HN : Hid (sgn (verKey a.data.toList b.data.toList) = sgn (cmpList ((lstF n1 L1).drop (m + 1)) ((lstF n2 L2).drop (m + 1)))) := Lib.hid (by rw [HC.out, hst])
                  have HCall := Lib.hid hcall
                  clear hst hcall
                  go_wp2_with fail
                  go_quiet ((go_at_call 114; exact Calls.quiet_of_same (HCall.out _)))
                  go_wp2_with fail
                  go_roundw
                  case rel => exact ⟨m + 1, by omega, by omega, by go_num, Below.drewN hbq _, HN⟩
                  case measure => simp [intOf]; omega
                · have hne : (sgn c == 0) = false := beq_eq_false_iff_ne.2 (fun e => hc (sgn_zero.1 e))
                  rw [orI_left hc] at hst
                  have HN : Hid (sgn (verKey a.data.toList b.data.toList) = sgn c) := Lib.hid (by rw [HC.out, hst])
                  generalize sgn c = sc at hcall hne HN
                  have HCall := Lib.hid hcall
                  clear hst hcall hc
                  go_wp2_with fail
                  go_quiet ((go_at_call 114; exact Calls.quiet_of_same (HCall.out _)))
                  go_wp2_with fail
                  go_ret
                  rw [HN.out]
                  exact ⟨rfl, Below.drewN hbqw _⟩
              · have HN : Hid (sgn (verKey a.data.toList b.data.toList) = sgnB (decide ((n1 : Int) < n2)) (decide ((n2 : Int) < n1))) := Lib.hid (by rw [HC.out, cmpList_end2 (by omega) hl1])
                go_wp2_with fail
                refine (sign_calls _ _ _).mono ?_
                rintro e w5 ⟨rfl, rfl⟩
                go_wp2_with fail
                go_ret
                rw [HN.out]
                exact ⟨by simp, hbqw⟩
            · have HN : Hid (sgn (verKey a.data.toList b.data.toList) = sgnB (decide ((n1 : Int) < n2)) (decide ((n2 : Int) < n1))) := Lib.hid (by rw [HC.out, cmpList_end1 (by omega) hm'])
              go_wp2_with fail
              refine (sign_calls _ _ _).mono ?_
              rintro e w5 ⟨rfl, rfl⟩
              go_wp2_with fail
              go_ret
              rw [HN.out]
              exact ⟨by simp, hbqw⟩

/-- R.IsVer -/
theorem isVer_calls (a : ByteArray) (w : World) (ha : a.size ≤ 1000000000) :
    Calls Tryz.prog 67 #[.string a] w fun e w' => e = .returned (.bool (decide (verErr a.data.toList = 0))) ∧ Below w.heap.size w w' := by
  go_enter Tryz.func67, Tryz.ntmps67
  go_wp2_with fail
  refine (refVerOf_calls a w ha).mono ?_
  rintro e w1 ⟨⟨va, rfl, a1, n1, cap1, L1, rfl, _, _, _, _⟩, hb1⟩
  by_cases h : verErr a.data.toList = 0
  · have HF := Lib.hid (decide_eq_true h)
    rw [h]
    clear h
    go_wp2_with fail
    go_ret
    rw [HF.out]
    exact ⟨rfl, hb1.alloc hb1.size _⟩
  · have h' : ((verErr a.data.toList : Int) == 0) = false := beq_eq_false_iff_ne.2 (by omega)
    have HF := Lib.hid (decide_eq_false h)
    clear h
    go_wp2_with fail
    go_ret
    rw [HF.out]
    exact ⟨rfl, hb1.alloc hb1.size _⟩

/-- R.IsLess -/
theorem isLess_calls (a b : ByteArray) (w : World) (ha : a.size ≤ 1000000000) (hb : b.size ≤ 1000000000) :
    Calls Tryz.prog 23 #[.string a, .string b] w fun e w' => e = .returned (.bool (verLess a.data.toList b.data.toList)) ∧ Below w.heap.size w w' := by
  have hm : verLess a.data.toList b.data.toList = (decide (verErr a.data.toList = 0) && (decide (verErr b.data.toList = 0) && decide (sgn (verCmp a.data.toList b.data.toList) < 0))) := by
    unfold verLess
    rw [Bool.eq_iff_iff]
    simp [sgn_lt]
  generalize verLess a.data.toList b.data.toList = R at hm ⊢
  have h1 := fun W => isVer_calls a W ha
  have h2 := fun W => isVer_calls b W hb
  have h3 := fun W => orderVer_calls a b W ha hb
  generalize decide (verErr a.data.toList = 0) = x at h1 hm
  generalize decide (verErr b.data.toList = 0) = y at h2 hm
  generalize sgn (verCmp a.data.toList b.data.toList) = c at h3 hm
  have HM := Lib.hid hm
  have H1 := Lib.hid h1
  have H2 := Lib.hid h2
  have H3 := Lib.hid h3
  clear hm h1 h2 h3
  go_enter Tryz.func23, Tryz.ntmps23
  go_wp2_with fail
  refine (H1.out w).mono ?_
  rintro e w1 ⟨rfl, hb1⟩
  go_wp2_with fail
  refine (H2.out w1).mono ?_
  rintro e w2 ⟨rfl, hb2⟩
  have hb12 := below_step hb1 hb2
  cases x <;> cases y
  case true.true =>
    go_wp2_with fail
    refine (H3.out w2).mono ?_
    rintro e w3 ⟨rfl, hb3⟩
    have hb13 := below_step hb12 hb3
    go_wp2_with fail
    go_ret
    rw [HM.out]
    exact ⟨by simp, hb13⟩
  all_goals
    go_wp2_with fail
    go_ret
    rw [HM.out]
    exact ⟨rfl, hb12⟩

/-- the greater of two versions -/
def verMax (a b : Str) : Str := if verErr a ≠ 0 ∧ verErr b ≠ 0 then [] else if verErr a ≠ 0 then b else if verErr b ≠ 0 then a else if verCmp a b < 0 then b else a
theorem verMax_eq (a b : Str) : verMax a b = (match decide (verErr a = 0), decide (verErr b = 0) with
    | false, false => [] | false, true => b | true, false => a | true, true => if sgn (verCmp a b) < 0 then b else a) := by
  unfold verMax
  by_cases h1 : verErr a = 0 <;> by_cases h2 : verErr b = 0 <;> simp [h1, h2, sgn_lt]
theorem mk_data (b : ByteArray) : (⟨b.data.toList.toArray⟩ : ByteArray) = b := by apply bytes_ext.1; rfl

/-- R.MaxOf -/
theorem maxOf_calls (a b : ByteArray) (w : World) (ha : a.size ≤ 1000000000) (hb : b.size ≤ 1000000000) :
    Calls Tryz.prog 137 #[.string a, .string b] w fun e w' => e = .returned (.string ⟨(verMax a.data.toList b.data.toList).toArray⟩) ∧ Below w.heap.size w w' := by
  have hm := verMax_eq a.data.toList b.data.toList
  generalize verMax a.data.toList b.data.toList = R at hm ⊢
  have h1 := fun W => isVer_calls a W ha
  have h2 := fun W => isVer_calls b W hb
  have h3 := fun W => orderVer_calls a b W ha hb
  generalize decide (verErr a.data.toList = 0) = x at h1 hm
  generalize decide (verErr b.data.toList = 0) = y at h2 hm
  generalize sgn (verCmp a.data.toList b.data.toList) = c at h3 hm
  have HM := Lib.hid hm
  have H1 := Lib.hid h1
  have H2 := Lib.hid h2
  have H3 := Lib.hid h3
  clear hm h1 h2 h3
  go_enter Tryz.func137, Tryz.ntmps137
  go_wp2_with fail
  refine (H1.out w).mono ?_
  rintro e w1 ⟨rfl, hb1⟩
  go_wp2_with fail
  refine (H2.out w1).mono ?_
  rintro e w2 ⟨rfl, hb2⟩
  have hb12 := below_step hb1 hb2
  cases x <;> cases y
  case true.true =>
    by_cases hc : c < 0
    · have HF : Hid (R = b.data.toList) := Lib.hid (by rw [HM.out]; simp [hc])
      go_wp2_with fail
      refine (H3.out w2).mono ?_
      rintro e w3 ⟨rfl, hb3⟩
      have hb13 := below_step hb12 hb3
      go_wp2_with fail
      go_ret
      rw [HF.out, mk_data]
      exact ⟨rfl, hb13⟩
    · have HF : Hid (R = a.data.toList) := Lib.hid (by rw [HM.out]; simp [hc])
      go_wp2_with fail
      refine (H3.out w2).mono ?_
      rintro e w3 ⟨rfl, hb3⟩
      have hb13 := below_step hb12 hb3
      go_wp2_with fail
      go_ret
      rw [HF.out, mk_data]
      exact ⟨rfl, hb13⟩
  case false.false =>
    go_wp2_with fail
    go_ret
    rw [HM.out]
    exact ⟨rfl, hb12⟩
  case false.true =>
    go_wp2_with fail
    go_ret
    rw [HM.out]
    exact ⟨by rw [mk_data]; rfl, hb12⟩
  case true.false =>
    go_wp2_with fail
    go_ret
    rw [HM.out]
    exact ⟨by rw [mk_data]; rfl, hb12⟩
end Go.Proofs.Pw

/- R.SplitPath, ModError, ModText. Conditions: texts of at most 1000000000 bytes. -/
namespace Go.Proofs.Pw
open Go.RowKit
open Go.Lib hiding intOf

theorem occ_slash {s : ByteArray} {k : Nat} (h : k < s.size) : occAt s.data.toList [47] k = decide (s[k] = 47) := by
  unfold occAt
  rw [drop_cons s k h, Bool.eq_iff_iff]
  simp only [List.isPrefixOf, Bool.and_true, decide_eq_true_eq, beq_iff_eq]
  exact eq_comm
theorem refSuf_pos {x : Str} (h : isSuf x = true) : refSuf x = (sufNum x : Int) ∧ (2 : Int) ≤ (sufNum x : Int) := by
  have hl : looksSuf x = true ∧ 2 ≤ (numberOf (sufD x)).1 := by
    unfold isSuf at h
    simp only [Bool.and_eq_true, decide_eq_true_eq] at h
    exact ⟨h.1, h.2.2⟩
  unfold refSuf
  rw [hl.1, h]
  exact ⟨rfl, by have := hl.2; unfold sufNum; omega⟩
theorem refSuf_not {x : Str} (h : isSuf x = false) : refSuf x ≤ 0 := by
  unfold refSuf
  rw [h]
  cases looksSuf x <;> simp
theorem bytes_take (s : ByteArray) (k : Nat) : s.extract 0 k = ⟨(s.data.toList.take k).toArray⟩ := by
  apply ByteArray.ext
  apply Array.ext'
  simp

set_option maxHeartbeats 400000 in
theorem refSplit_calls (s : ByteArray) (w : World) (hs : s.size ≤ 1000000000) :
    Calls Tryz.prog 136 #[.string s] w fun e w' => e = .returned (.tuple #[.string ⟨(modSplit s.data.toList).1.toArray⟩, .int .i64 ((modSplit s.data.toList).2 : Nat)]) ∧ Below w.heap.size w w' := by
  have hp := refPath_calls s w hs
  by_cases h0 : pathErr s.data.toList = 0
  · rw [h0] at hp
    have hne := fun (h : lastIndex s.data.toList [47] < 0) => modSplit_no h0 h
    have hat := fun (k : Nat) (h : lastIndex s.data.toList [47] = k) => modSplit_at h0 h
    have hst : lastOcc s.data.toList [47] s.size = lastIndex s.data.toList [47] := by
      unfold lastIndex
      rw [← size_eq]
      show _ = if 1 ≤ s.size then lastOcc s.data.toList [47] (s.size - 1 + 1) else -1
      by_cases h : 1 ≤ s.size
      · rw [if_pos h, Nat.sub_add_cancel h]
      · rw [if_neg h, show s.size = 0 by omega]; rfl
    replace hp := Lib.hid hp
    replace hne := Lib.hid hne
    replace hat := Lib.hid hat
    replace hst := Lib.hid hst
    clear h0
    go_enter Tryz.func136, Tryz.ntmps136
    go_wp2_with fail
    refine hp.out.mono ?_
    rintro e w1 ⟨rfl, hb1⟩
    go_wp2_with fail
    go_loop [4] (fun i => ∃ m : Nat, m ≤ s.size ∧ i = .int .i64 ((m : Int) - 1) ∧ Hid (lastOcc s.data.toList [47] m = lastIndex s.data.toList [47])) (fun i => (intOf i + 1).toNat)
    case atStart => exact ⟨s.size, Nat.le_refl _, rfl, hst⟩
    case round =>
      obtain ⟨m, hm, rfl, H⟩ := hrel
      rcases Nat.eq_zero_or_pos m with rfl | hm0
      · have HF := Lib.hid (hne.out (by rw [← H.out]; show (-1 : Int) < 0; decide))
        have hz : ((0 : Nat) : Int) - 1 = -1 := rfl
        simp only [hz]
        clear hz
        go_wp2_with fail
        go_ret2
        rw [HF.out]
        exact ⟨rfl, hb1⟩
      · obtain ⟨k, rfl⟩ : ∃ k, m = k + 1 := ⟨m - 1, by omega⟩
        have hz : ((k + 1 : Nat) : Int) - 1 = (k : Int) := by omega
        simp only [hz]
        clear hz
        have ho := occ_slash (s := s) (k := k) (by omega)
        by_cases hc : s[k] = 47
        · have hc1 : (s[k].toNat : Int) = 47 := by rw [hc]; rfl
          have hL : lastIndex s.data.toList [47] = k := by rw [← H.out]; exact lastOcc_hit _ _ _ (by rw [ho, decide_eq_true hc])
          have hsp := hat.out k hL
          have hsz : (s.extract (k + 1) s.size).size ≤ 1000000000 := Nat.le_trans (extract_size_le s _ _) hs
          have hsu := refSuffix_calls (s.extract (k + 1) s.size) w1 hsz
          have hdr : (s.extract (k + 1) s.size).data.toList = s.data.toList.drop (k + 1) := extract_to_end s (k + 1)
          rw [hdr] at hsu
          clear ho hc hL hdr
          cases hi : isSuf (s.data.toList.drop (k + 1)) with
          | true =>
            obtain ⟨h1, h2⟩ := refSuf_pos hi
            rw [hi, if_pos rfl] at hsp
            rw [h1] at hsu
            generalize sufNum (s.data.toList.drop (k + 1)) = q at hsp hsu h2
            replace hsp := Lib.hid hsp
            replace hsu := Lib.hid hsu
            clear hi h1
            go_wp2_with fail
            refine hsu.out.mono ?_
            rintro e w' ⟨rfl, rfl⟩
            go_wp2_with fail
            go_ret2
            rw [hsp.out, bytes_take]
            exact ⟨rfl, hb1⟩
          | false =>
            have h1 := refSuf_not hi
            rw [hi, if_neg (by decide)] at hsp
            generalize refSuf (s.data.toList.drop (k + 1)) = q at hsu h1
            replace hsp := Lib.hid hsp
            replace hsu := Lib.hid hsu
            clear hi
            go_wp2_with fail
            refine hsu.out.mono ?_
            rintro e w' ⟨rfl, rfl⟩
            go_wp2_with fail
            go_ret2
            rw [hsp.out]
            exact ⟨rfl, hb1⟩
        · have hc1 : ((s[k].toNat : Int) == 47) = false := byte_ne_int (c := 47) rfl hc
          have hc2 : ((s[k].toNat : Int) != 47) = true := by unfold bne; rw [hc1]; rfl
          have H1 : Hid (lastOcc s.data.toList [47] k = lastIndex s.data.toList [47]) := Lib.hid (by rw [← H.out]; exact (lastOcc_miss _ _ _ (by rw [ho, decide_eq_false hc])).symm)
          clear ho hc
          go_wp2_with fail
          go_round
          case rel => exact ⟨k, by omega, by go_num, H1⟩
          case measure => simp [intOf]
  · rw [modSplit_bad h0]
    have hpos : (0 : Int) < (pathErr s.data.toList : Int) := by omega
    generalize pathErr s.data.toList = q at hp hpos
    replace hp := Lib.hid hp
    clear h0
    go_enter Tryz.func136, Tryz.ntmps136
    go_wp2_with fail
    refine hp.out.mono ?_
    rintro e w1 ⟨rfl, hb1⟩
    go_wp2_with fail
    go_ret2
    exact ⟨rfl, hb1⟩

set_option maxHeartbeats 1000000 in
/-- R.ModError -/
theorem refModErr_calls (p v : ByteArray) (w : World) (hp : p.size ≤ 1000000000) (hv : v.size ≤ 1000000000) :
    Calls Tryz.prog 97 #[.agg #[.string p, .string v]] w fun e w' => e = .returned (.int .i64 (modErr p.data.toList v.data.toList : Nat)) ∧ Below w.heap.size w w' := by
  have hB := below_alloc w (.cells #[.string p, .string v] 38)
  have hz := box2_alloc w (.string p) (.string v) 38
  have hpa := fun W => refPath_calls p W hp
  have hvo := fun W => refVerOf_calls v W hv
  have hsp := fun W => refSplit_calls p W hp
  by_cases h1 : pathErr p.data.toList = 0
  · rw [h1] at hpa
    by_cases h2 : verErr v.data.toList = 0
    · have hm := modErr_major h1 h2
      have hmc : ((modSplit p.data.toList).2 = 0 ∧ 1 < verNum v.data.toList 0) ∨ ((modSplit p.data.toList).2 = 0 ∧ ¬ 1 < verNum v.data.toList 0) ∨ (0 < (modSplit p.data.toList).2 ∧ verNum v.data.toList 0 ≠ (modSplit p.data.toList).2) ∨ (0 < (modSplit p.data.toList).2 ∧ verNum v.data.toList 0 = (modSplit p.data.toList).2) := by omega
      generalize modErr p.data.toList v.data.toList = R at hm ⊢
      rw [h2] at hvo
      generalize verNum v.data.toList 0 = n0 at hm hmc hvo
      generalize verNum v.data.toList 1 = n1 at hvo
      generalize verNum v.data.toList 2 = n2 at hvo
      generalize verPre v.data.toList = pre at hvo
      generalize (modSplit p.data.toList).1 = q1 at hsp
      generalize (modSplit p.data.toList).2 = q at hm hmc hsp
      replace hpa := Lib.hid hpa
      replace hvo := Lib.hid hvo
      replace hsp := Lib.hid hsp
      replace hm := Lib.hid hm
      replace hmc := Lib.hid hmc
      clear h1 h2
      go_enter Tryz.func97, Tryz.ntmps97
      go_wp2_with fail
      refine (hpa.out _).mono ?_
      rintro e w1 ⟨rfl, hb⟩
      replace hB := below_step hB hb
      replace hz := hz.below hb
      clear hb
      have c0 := hz.c0
      have c1 := hz.c1
      go_wp2_with fail
      refine (hvo.out _).mono ?_
      rintro e w2 ⟨⟨vv, rfl, hS⟩, hb⟩
      replace hB := below_step hB hb
      replace hz := hz.below hb
      clear hb
      obtain ⟨a, n, cap, L, rfl, _, _, _, _⟩ := hS
      clear c0 c1
      have hb := below_alloc w2 (.cells #[.int .i64 (n0 : Nat), .int .i64 (n1 : Nat), .int .i64 (n2 : Nat), .slice a n cap] 108)
      have hy := box4_alloc w2 (.int .i64 (n0 : Nat)) (.int .i64 (n1 : Nat)) (.int .i64 (n2 : Nat)) (.slice a n cap) 108
      replace hB := below_step hB hb
      replace hz := hz.below hb
      clear hb
      have c0 := hz.c0
      have c1 := hz.c1
      go_wp2_with fail
      refine (hsp.out _).mono ?_
      rintro e w4 ⟨rfl, hb⟩
      clear c0 c1
      replace hB := below_step hB hb
      replace hz := hz.below hb
      replace hy := hy.below hb
      clear hb
      have z0 := hy.c0
      clear hy hz
      rcases hmc.out with ⟨rfl, h⟩ | ⟨rfl, h⟩ | ⟨h, h'⟩ | ⟨h, rfl⟩
      · have HF : Hid (R = 4) := Lib.hid (by rw [hm.out, if_pos (.inl ⟨rfl, h⟩)])
        have hi : (1 : Int) < (n0 : Int) := by omega
        clear hm hmc h
        go_wp2_with fail
        go_ret
        rw [HF.out]
        exact ⟨rfl, hB⟩
      · have HF : Hid (R = 0) := Lib.hid (by rw [hm.out, if_neg (by omega)])
        have hi : ¬ (1 : Int) < (n0 : Int) := by omega
        clear hm hmc h
        go_wp2_with fail
        go_ret
        rw [HF.out]
        exact ⟨rfl, hB⟩
      · have HF : Hid (R = 4) := Lib.hid (by rw [hm.out, if_pos (.inr ⟨h, h'⟩)])
        have hi : (0 : Int) < (q : Int) := by omega
        have hi0 : ((q : Int) == 0) = false := beq_eq_false_iff_ne.2 (by omega)
        have hi1 : ((n0 : Int) == (q : Int)) = false := beq_eq_false_iff_ne.2 (by omega)
        have hi2 : ((n0 : Int) != (q : Int)) = true := bne_iff_ne.2 (by omega)
        clear hm hmc h h'
        go_wp2_with fail
        go_ret
        rw [HF.out]
        exact ⟨rfl, hB⟩
      · have HF : Hid (R = 0) := Lib.hid (by rw [hm.out, if_neg (by omega)])
        have hi : (0 : Int) < (n0 : Int) := by omega
        have hi0 : ((n0 : Int) == 0) = false := beq_eq_false_iff_ne.2 (by omega)
        clear hm hmc h
        go_wp2_with fail
        go_ret
        rw [HF.out]
        exact ⟨rfl, hB⟩
    · rw [modErr_ver h1 h2]
      have hpos : (0 : Int) < (verErr v.data.toList : Int) := by omega
      generalize verErr v.data.toList = q at hvo hpos
      replace hpa := Lib.hid hpa
      replace hvo := Lib.hid hvo
      clear h1 h2 hsp
      go_enter Tryz.func97, Tryz.ntmps97
      go_wp2_with fail
      refine (hpa.out _).mono ?_
      rintro e w1 ⟨rfl, hb⟩
      replace hB := below_step hB hb
      replace hz := hz.below hb
      clear hb
      have c0 := hz.c0
      have c1 := hz.c1
      go_wp2_with fail
      refine (hvo.out _).mono ?_
      rintro e w2 ⟨⟨vv, rfl, hS⟩, hb⟩
      replace hB := below_step hB hb
      clear hb
      obtain ⟨a, n, cap, L, rfl, _, _, _, _⟩ := hS
      clear c0 c1 hz
      go_wp2_with fail
      go_ret
      exact ⟨rfl, hB.alloc hB.size _⟩
  · rw [modErr_path h1]
    have hpos : (0 : Int) < (pathErr p.data.toList : Int) := by omega
    generalize pathErr p.data.toList = q at hpa hpos
    replace hpa := Lib.hid hpa
    clear h1 hvo hsp
    go_enter Tryz.func97, Tryz.ntmps97
    go_wp2_with fail
    refine (hpa.out _).mono ?_
    rintro e w1 ⟨rfl, hb⟩
    replace hB := below_step hB hb
    clear hb
    go_wp2_with fail
    go_ret
    exact ⟨rfl, hB⟩

end Go.Proofs.Pw

/- R.IsAhead, R.ReadMod. Conditions: texts of at most 1000000000 bytes. -/
namespace Go.Proofs.Pw
open Go.RowKit
open Go.Lib hiding intOf

set_option maxHeartbeats 1000000 in
theorem isAhead_calls (p v q u : ByteArray) (w : World) (hv : v.size ≤ 1000000000) (hu : u.size ≤ 1000000000) :
    Calls Tryz.prog 160 #[.agg #[.string p, .string v], .agg #[.string q, .string u]] w fun e w' => e = .returned (.bool (modAhead (p.data.toList, v.data.toList) (q.data.toList, u.data.toList))) ∧ Below w.heap.size w w' := by
  have hm := ahead_eq p v q u
  have hl := fun W => isLess_calls v u W hv hu
  have hb1 := below_alloc w (.cells #[.string p, .string v] 38)
  have hB := below_step hb1 (below_alloc _ (.cells #[.string q, .string u] 38))
  generalize modAhead (p.data.toList, v.data.toList) (q.data.toList, u.data.toList) = R at hm ⊢
  generalize verLess v.data.toList u.data.toList = X at hl hm
  replace hm := Lib.hid hm
  replace hl := Lib.hid hl
  clear hb1
  cases h2 : (p.toList == q.toList) with
  | true =>
    have h3 : p.toList = q.toList := beq_iff_eq.1 h2
    have h4 : p = q := by rw [toList_data, toList_data] at h3; exact bytes_ext.1 h3
    subst h4
    have HF : Hid (R = X) := Lib.hid (by rw [hm.out, toList_data, bytesLess_iff, compareBytes_ord.self]; simp)
    clear h2 h3
    go_enter Tryz.func160, Tryz.ntmps160
    go_wp2_with fail
    refine (hl.out _).mono ?_
    rintro e w1 ⟨rfl, hb⟩
    replace hB := below_step hB hb
    clear hb
    go_wp2_with fail
    go_ret
    rw [HF.out]
    exact ⟨rfl, hB⟩
  | false =>
    have HF : Hid (R = Op.bytesLess p.toList q.toList) := Lib.hid (by rw [hm.out, h2]; simp)
    have h3 : p.toList ≠ q.toList := beq_eq_false_iff_ne.1 h2
    have h4 : p ≠ q := fun e => h3 (by rw [e])
    have h5 : (p.toList != q.toList) = true := bne_iff_ne.2 h3
    go_enter Tryz.func160, Tryz.ntmps160
    go_wp2_with fail
    go_ret
    rw [HF.out]
    exact ⟨rfl, hB⟩

theorem refCut_at (s : ByteArray) (w : World) (hs : s.size ≤ 1000000000) :
    Calls Tryz.prog 131 #[.string s, .int .u8 64] w fun e w' => (∃ v, e = .returned v ∧ StrsAt w' v (split s.data.toList [64]) ∧ NewRow w v) ∧ Below w.heap.size w w' := refCut_calls s 64 w hs

end Go.Proofs.Pw

/- References of files: Bare, Fine, reqsError, FileFault. Conditions: texts of at most 1000000 bytes, lists of at most 1000000. -/
namespace Go.Proofs.Pw
open Go.RowKit
open Go.Lib hiding intOf

def fltV (r : Nat × Int) : Value := .agg #[.int .i64 (r.1 : Nat), .int .i64 r.2]
theorem refBare_calls (k : Nat) (w : World) : Calls Tryz.prog 75 #[.int .i64 (k : Nat)] w fun e w' => e = .returned (fltV (k, -1)) ∧ Below w.heap.size w w' := by
  have hB := below_alloc w (.cells #[.int .i64 0, .int .i64 0] 49)
  obtain ⟨z0, z1, zf⟩ := box2_alloc w (.int .i64 0) (.int .i64 0) 49
  go_enter Tryz.func75, Tryz.ntmps75
  go_wp2_with fail
  refine bodyPost_ret (v := .agg #[.int .i64 (k : Nat), .int .i64 (-1)]) (by simp [results, Tryz.results75, go_sem, *]) rfl ?_
  first
  | exact ⟨rfl, (hB.setCell (Nat.le_refl _) _).setCell (Nat.le_refl _) _⟩
  | exact ⟨rfl, below_alloc _ _⟩
theorem refFine_calls (w : World) : Calls Tryz.prog 72 #[] w fun e w' => e = .returned (fltV (0, -1)) ∧ Below w.heap.size w w' := by
  have hB := below_alloc w (.cells #[.int .i64 0, .int .i64 0] 49)
  obtain ⟨z0, z1, zf⟩ := box2_alloc w (.int .i64 0) (.int .i64 0) 49
  go_enter Tryz.func72, Tryz.ntmps72
  go_wp2_with fail
  refine bodyPost_ret (v := .agg #[.int .i64 0, .int .i64 (-1)]) (by simp [results, Tryz.results72, go_sem, *]) rfl ?_
  first
  | exact ⟨rfl, (hB.setCell (Nat.le_refl _) _).setCell (Nat.le_refl _) _⟩
  | exact ⟨rfl, below_alloc _ _⟩

/-- what reqsError answers -/
def rqP (r : Nat × Int) : Nat × Int := if r.1 = 0 then (0, 0) else r
set_option maxHeartbeats 4000000 in
set_option maxRecDepth 100000 in
theorem reqsError_calls (own : ByteArray) (rv : Value) (R : List Md) (w : World) (hr : ModsAt w rv R) (hs : Short R) :
    Calls Tryz.prog 161 #[rv, .string own] w fun e w' => e = .returned (.tuple #[.int .i64 ((rqP (firstE (reqE own.data.toList R) R.length)).1 : Nat), .int .i64 (rqP (firstE (reqE own.data.toList R) R.length)).2]) ∧ Below w.heap.size w w' := by
  obtain ⟨a, n, cap, P, V, rfl, rfl, hnc, hcap, hc⟩ := hr
  have hP : Hid (∀ j, j < n → (P j).size ≤ 1000000 ∧ (V j).size ≤ 1000000) := Lib.hid (short_F hs).2
  have hn : n ≤ 1000000 := (short_F hs).1
  rw [mdF_length]
  replace hc := Lib.hid hc
  clear hs
  go_enter Tryz.func161, Tryz.ntmps161
  go_wp2_with fail
  go_loopw [6] (fun i wr => ∃ k : Nat, k ≤ n ∧ i = .int .i64 k ∧ Below w.heap.size w wr ∧ Hid (∀ j, j < k → reqE own.data.toList (mdF n P V) j = 0)) (fun i _ => n - (intOf i).toNat)
  case atStart => exact ⟨0, Nat.zero_le _, rfl, Below.refl _ _, Lib.hid (fun j hj => absurd hj (Nat.not_lt_zero _))⟩
  case round =>
    obtain ⟨k, hk, rfl, hBk, HA⟩ := hrel
    by_cases hlt : k < n
    · have hkn : (k : Int) < (n : Int) := by omega
      obtain ⟨b1, o1, ea, c0, c1⟩ := hc.out k hlt
      replace c0 := Below.cell_some hBk c0
      replace c1 := Below.cell_some hBk c1
      have hme := refModErr_calls (P k) (V k) wr (by have := (hP.out k hlt).1; omega) (by have := (hP.out k hlt).2; omega)
      have hR : reqE own.data.toList (mdF n P V) k = if modErr (P k).data.toList (V k).data.toList ≠ 0 then modErr (P k).data.toList (V k).data.toList else if (P k).data.toList = own.data.toList then 3 else if 0 < k ∧ compareBytes (P k).data.toList (mdAt (mdF n P V) (k - 1)).1 ≤ 0 then 8 else 0 := by
        unfold reqE
        rw [mdAt_mdF hlt]; rfl
      subst ea
      by_cases h0 : modErr (P k).data.toList (V k).data.toList = 0
      · rw [if_neg (by simp [h0])] at hR
        rw [h0] at hme
        by_cases hp : (P k).data.toList = own.data.toList
        · rw [if_pos hp] at hR
          have HF : Hid (rqP (firstE (reqE own.data.toList (mdF n P V)) n) = (3, (k : Int))) := Lib.hid (by rw [firstE_hit (by rw [hR]; decide) HA.out hlt, hR]; rfl)
          have hpb := bytes_eq.1 hp
          have hp1 : ((P k).toList == own.toList) = true := by rw [hpb]; simp
          replace hme := Lib.hid hme
          clear h0 hp hR hpb
          go_wp2_with fail
          refine hme.out.mono ?_
          rintro e w2 ⟨rfl, hb⟩
          replace c0 := Below.cell_some hb c0
          have hB2 := below_step hBk hb
          clear hb
          go_wp2_with fail
          go_ret2
          rw [HF.out]
          exact ⟨rfl, hB2⟩
        · rw [if_neg hp] at hR
          have hp1 : ((P k).toList == own.toList) = false := by rw [toList_data, toList_data]; exact beq_eq_false_iff_ne.2 hp
          have hp2 : (P k).toList ≠ own.toList := by rw [toList_data, toList_data]; exact hp
          have hp3 : P k ≠ own := fun e => hp (by rw [e])
          by_cases hi0 : k = 0
          · subst hi0
            rw [if_neg (by omega)] at hR
            have HN : Hid (∀ j, j < 0 + 1 → reqE own.data.toList (mdF n P V) j = 0) := Lib.hid (fun j hj => by
              obtain rfl : j = 0 := by omega
              exact hR)
            replace hme := Lib.hid hme
            simp only [Nat.zero_mul, Nat.add_zero] at c0 c1
            clear h0 hp hR
            go_wp2_with fail
            refine hme.out.mono ?_
            rintro e w2 ⟨rfl, hb⟩
            replace c0 := Below.cell_some hb c0
            have hB2 := below_step hBk hb
            clear hb
            go_wp2_with fail
            refine wp_region_quiet_patch (by kernel_rfl) (by kernel_rfl) ?_
            repeat (go_big_quiet_step (fail))
            refine wpQuiet_nil ?_
            intro _ hw'
            obtain ⟨⟨dq, osq⟩, hw''⟩ := hw'
            subst hw''
            have hb := below_patch w2 dq osq
            replace hB2 := below_step hB2 hb
            clear hb
            generalize patch w2 dq osq = w3 at hB2 ⊢
            clear c0
            go_wp2_with fail
            go_roundw
            case rel => exact ⟨1, by omega, by go_num, hB2, HN⟩
            case measure => simp [intOf]; omega
          · obtain ⟨m, rfl⟩ : ∃ m, k = m + 1 := ⟨k - 1, by omega⟩
            rw [Nat.add_sub_cancel, mdAt_mdF (show m < n by omega)] at hR
            have hle := leq_eq (P (m + 1)) (P m)
            have hk0 : (0 : Int) < ((m + 1 : Nat) : Int) := by omega
            have hk1 : ((m + 1 : Nat) : Int) - 1 = (m : Int) := by omega
            have hkw := wrap_nat m (by omega)
            have hkn2 : (m : Int) < (n : Int) := by omega
            obtain ⟨b2, o2, e1, c3, _⟩ := hc.out m (by omega)
            injection e1 with e1
            injection e1 with e1 e2
            subst e1 e2
            replace c3 := Below.cell_some hBk c3
            by_cases hc0 : compareBytes (P (m + 1)).data.toList (P m).data.toList ≤ 0
            · rw [if_pos ⟨Nat.succ_pos m, hc0⟩] at hR
              rw [decide_eq_true hc0] at hle
              have HF : Hid (rqP (firstE (reqE own.data.toList (mdF n P V)) n) = (8, ((m + 1 : Nat) : Int))) := Lib.hid (by rw [firstE_hit (by rw [hR]; decide) HA.out hlt, hR]; rfl)
              replace hme := Lib.hid hme
              clear h0 hp hR hc0
              go_wp2_with fail
              refine hme.out.mono ?_
              rintro e w2 ⟨rfl, hb⟩
              replace c0 := Below.cell_some hb c0
              replace c3 := Below.cell_some hb c3
              have hB2 := below_step hBk hb
              clear hb
              go_wp2_with fail
              have kqc0 := fun d os => cell_patch (d := d) (os := os) c0
              have kqc3 := fun d os => cell_patch (d := d) (os := os) c3
              refine wp_region_quiet_patch (by kernel_rfl) (by kernel_rfl) ?_
              repeat (go_big_quiet_step (fail))
              refine wpQuiet_nil ?_
              intro _ hw'
              obtain ⟨⟨dq, osq⟩, hw''⟩ := hw'
              subst hw''
              clear kqc0 kqc3
              have hb := below_patch w2 dq osq
              replace hB2 := below_step hB2 hb
              clear hb
              generalize patch w2 dq osq = w3 at hB2 ⊢
              clear c0 c3
              go_wp2_with fail
              go_ret2
              rw [HF.out]
              exact ⟨rfl, hB2⟩
            · rw [if_neg (fun h => hc0 h.2)] at hR
              rw [decide_eq_false hc0] at hle
              have HN : Hid (∀ j, j < m + 1 + 1 → reqE own.data.toList (mdF n P V) j = 0) := Lib.hid (fun j hj => by
                by_cases e : j = m + 1
                · subst e; exact hR
                · exact HA.out j (by omega))
              replace hme := Lib.hid hme
              clear h0 hp hR hc0
              go_wp2_with fail
              refine hme.out.mono ?_
              rintro e w2 ⟨rfl, hb⟩
              replace c0 := Below.cell_some hb c0
              replace c3 := Below.cell_some hb c3
              have hB2 := below_step hBk hb
              clear hb
              go_wp2_with fail
              have kqc0 := fun d os => cell_patch (d := d) (os := os) c0
              have kqc3 := fun d os => cell_patch (d := d) (os := os) c3
              refine wp_region_quiet_patch (by kernel_rfl) (by kernel_rfl) ?_
              repeat (go_big_quiet_step (fail))
              refine wpQuiet_nil ?_
              intro _ hw'
              obtain ⟨⟨dq, osq⟩, hw''⟩ := hw'
              subst hw''
              clear kqc0 kqc3
              have hb := below_patch w2 dq osq
              replace hB2 := below_step hB2 hb
              clear hb
              generalize patch w2 dq osq = w3 at hB2 ⊢
              clear c0 c3
              go_wp2_with fail
              go_roundw
              case rel => exact ⟨m + 1 + 1, by omega, by go_num, hB2, HN⟩
              case measure => simp [intOf]; omega
      · rw [if_pos h0] at hR
        have HF : Hid (rqP (firstE (reqE own.data.toList (mdF n P V)) n) = (modErr (P k).data.toList (V k).data.toList, (k : Int))) := Lib.hid (by rw [firstE_hit (by rw [hR]; exact h0) HA.out hlt, hR]; unfold rqP; rw [if_neg h0])
        generalize modErr (P k).data.toList (V k).data.toList = c at *
        have hc9 : (0 : Int) < (c : Int) := by omega
        replace hme := Lib.hid hme
        clear h0 hR
        go_wp2_with fail
        refine hme.out.mono ?_
        rintro e w2 ⟨rfl, hb⟩
        have hB2 := below_step hBk hb
        clear hb
        go_wp2_with fail
        go_ret2
        rw [HF.out]
        exact ⟨rfl, hB2⟩
    · obtain rfl : n = k := by omega
      have HF : Hid (rqP (firstE (reqE own.data.toList (mdF n P V)) n) = (0, 0)) := Lib.hid (by rw [firstE_none HA.out]; rfl)
      go_wp2_with fail
      go_ret2
      rw [HF.out]
      exact ⟨rfl, hBk⟩
end Go.Proofs.Pw

/- R.entryError: what is wrong of an index's entry. Conditions: texts of at most 1000000 bytes, lists of at most 1000000. -/
namespace Go.Proofs.Pw
open Go.RowKit
open Go.Lib hiding intOf

/-- a box of five cells, read alone -/
structure Box5 (w : World) (b : Nat) (v0 v1 v2 v3 v4 : Value) : Prop where
  c0 : w.cell? ⟨b, 0, none⟩ = some v0
  c1 : w.cell? ⟨b, 1, none⟩ = some v1
  c2 : w.cell? ⟨b, 2, none⟩ = some v2
  c3 : w.cell? ⟨b, 3, none⟩ = some v3
  c4 : w.cell? ⟨b, 4, none⟩ = some v4
theorem Box5.below {w w' : World} {b : Nat} {v0 v1 v2 v3 v4 : Value} (h : Box5 w b v0 v1 v2 v3 v4) (hb : Below w.heap.size w w') : Box5 w' b v0 v1 v2 v3 v4 :=
  ⟨Below.cell_some hb h.c0, Below.cell_some hb h.c1, Below.cell_some hb h.c2, Below.cell_some hb h.c3, Below.cell_some hb h.c4⟩
theorem box5_alloc (w : World) (v0 v1 v2 v3 v4 : Value) (t : TypeId) : Box5 (w.alloc (.cells #[v0, v1, v2, v3, v4] t)) w.heap.size v0 v1 v2 v3 v4 := ⟨by simp, by simp, by simp, by simp, by simp⟩

theorem all_lstF {n : Nat} {L : Nat → ByteArray} {p : Str → Bool} : (lstF n L).all p = true ↔ ∀ j, j < n → p (L j).data.toList = true := by
  simp [lstF]


set_option maxHeartbeats 8000000 in
set_option maxRecDepth 100000 in
theorem entryError_in (a : Option Addr) (n cap : Nat) (P V : Nat → ByteArray) (R : Nat → List Md) (K : Nat → List Str) (B : Nat → Bool) (Rv Kv : Nat → Value) (i : Nat) (w : World) (h : EntsIn w a n cap P V R K B Rv Kv) (hs : ShortI (enF n P V R K B)) (hi : i < n) :
    Calls Tryz.prog 115 #[.slice a n cap, .int .i64 i] w fun e w' => e = .returned (.int .i64 (entErr (enF n P V R K B) i : Nat)) ∧ Below w.heap.size w w' := by
  obtain ⟨hn, hp1, hv1, hsr, hk1, hk2⟩ := hs.at_ hi
  have HS0 := entErr_stages (enF n P V R K B) i
  rw [reqsE_of, packsE_of, enAt_enF hi] at HS0
  obtain ⟨b1, o1, ea, hcell⟩ := h.at_ i hi
  obtain ⟨a1, n1, s1, a2, n2, s2, e1, e2⟩ := h.forms hi
  have hM := h.reqs i hi
  have hK := h.packs i hi
  rw [e1] at hM
  rw [e2] at hK
  rw [e1, e2] at hcell
  have hre := fun W (hb : Below w.heap.size w W) => reqsError_calls (P i) (.slice a1 n1 s1) (R i) W (hM.below hb) hsr
  have HLR : Hid ((R i).length = n1) := Lib.hid (by
    obtain ⟨_, _, _, _, _, e, e', _⟩ := id hM
    injection e with _ en _
    rw [e', mdF_length]
    exact en.symm)
  obtain ⟨_, _, _, L, e3, hKL, _, _, hkc⟩ := hK
  injection e3 with e3 e4 e5
  subst e3 e4 e5
  rw [hKL] at hk1 hk2 HS0
  have hme := fun W => refModErr_calls (P i) (V i) W (by omega) (by omega)
  have hB := below_alloc w (.cells #[.string (P i), .string (V i), .slice a1 n1 s1, .slice a2 n2 s2, .bool (B i)] 43)
  have hz := box5_alloc w (.string (P i)) (.string (V i)) (.slice a1 n1 s1) (.slice a2 n2 s2) (.bool (B i)) 43
  have hki : (i : Int) < (n : Int) := by omega
  replace hre := Lib.hid hre
  replace hkc := Lib.hid hkc
  replace hk2 := Lib.hid hk2
  have HSH := Lib.hid hs
  clear e1 e2 hM hsr hs hKL hk1
  by_cases h0 : modErr (P i).data.toList (V i).data.toList = 0
  · rw [h0] at hme
    have h0' : mdErr ((P i).data.toList, (V i).data.toList) = 0 := h0
    by_cases hi0 : i = 0
    · subst hi0
      have HS : Hid (entErr (enF n P V R K B) 0 = if reqsE (P 0).data.toList (R 0) ≠ 0 then reqsE (P 0).data.toList (R 0) else packsE (lstF n2 L)) := Lib.hid (by
        rw [HS0, decide_eq_false (p := _ ∧ _) (fun h => absurd h.1 (by omega))]
        unfold stagesE
        rw [if_neg (fun h => h h0'), if_neg (by simp)])
      simp only [Nat.zero_mul, Nat.add_zero] at hcell
      subst ea
      replace hme := Lib.hid hme
      obtain ⟨c0, c1, c2, c3, c4⟩ := hcell
      obtain ⟨z0, z1, z2, z3, z4⟩ := id hz
      clear HS0 h h0 h0'
      go_enter Tryz.func115, Tryz.ntmps115
      go_wp2_with fail
      generalize w.alloc (.cells #[.string (P 0), .string (V 0), .slice a1 n1 s1, .slice a2 n2 s2, .bool (B 0)] 43) = w1 at *
      refine (hme.out _).mono ?_
      rintro e w2 ⟨rfl, hb⟩
      replace hB := below_step hB hb
      replace hz := hz.below hb
      clear hb
      clear z0 z1 z2 z3 z4 c0 c1 c2 c3 c4 hme
      obtain ⟨z0, z1, z2, z3, z4⟩ := id hz
      by_cases g1 : 20 < n1
      · have HF : Hid (entErr (enF n P V R K B) 0 = 7) := Lib.hid (by rw [HS.out, show reqsE (P 0).data.toList (R 0) = 7 by unfold reqsE; rw [if_pos (by rw [HLR.out]; exact g1)], if_pos (by decide)])
        have g1' : (20 : Int) < (n1 : Int) := by omega
        clear g1
        go_wp2_with fail
        go_ret
        rw [HF.out]
        exact ⟨rfl, hB⟩
      · have g1' : ¬ (20 : Int) < (n1 : Int) := by omega
        obtain ⟨r, hr⟩ : ∃ r, firstE (reqE (P 0).data.toList (R 0)) (R 0).length = r := ⟨_, rfl⟩
        have hre1 := hre.out _ hB
        rw [hr] at hre1
        have hrE : reqsE (P 0).data.toList (R 0) = r.1 := by unfold reqsE; rw [if_neg (by rw [HLR.out]; exact g1), hr]
        by_cases g2 : r.1 = 0
        · have HS2 : Hid (entErr (enF n P V R K B) 0 = packsE (lstF n2 L)) := Lib.hid (by rw [HS.out, hrE, if_neg (by simp [g2])])
          have hrq : rqP r = (0, 0) := by unfold rqP; rw [if_pos g2]
          rw [hrq] at hre1
          simp only at hre1
          replace hre1 := Lib.hid hre1
          clear g1 g2 hr hrq hrE
          go_wp2_with fail
          refine hre1.out.mono ?_
          rintro e w5 ⟨rfl, hb⟩
          replace hB := below_step hB hb
          replace hz := hz.below hb
          clear hb
          clear z0 z1 z2 z3 z4 hre1
          obtain ⟨z0, z1, z2, z3, z4⟩ := id hz
          by_cases g3 : 10 < n2
          · have HF : Hid (entErr (enF n P V R K B) 0 = 7) := Lib.hid (by rw [HS2.out]; unfold packsE; rw [lstF_length, if_pos g3])
            have g3' : (10 : Int) < (n2 : Int) := by omega
            clear g3
            go_wp2_with fail
            go_ret
            rw [HF.out]
            exact ⟨rfl, hB⟩
          · have g3' : ¬ (10 : Int) < (n2 : Int) := by omega
            have HS3 : Hid (entErr (enF n P V R K B) 0 = if (lstF n2 L).all packOk then (firstE (packE (lstF n2 L)) n2).1 else 1) := Lib.hid (by rw [HS2.out]; unfold packsE; rw [lstF_length, if_neg g3])
            have HN2 := Lib.hid g3
            clear g3
            go_wp2_with fail
            clear g1' g3' z0 z1 z2 z3 z4
            go_loopw [8] (fun x wr => ∃ q : Nat, q ≤ n2 ∧ x = .int .i64 q ∧ Below w5.heap.size w5 wr ∧ Hid (∀ j, j < q → packOk (L j).data.toList = true)) (fun x _ => n2 - (intOf x).toNat)
            case atStart => exact ⟨0, Nat.zero_le _, rfl, Below.refl _ _, Lib.hid (fun j hj => absurd hj (Nat.not_lt_zero _))⟩
            case round =>
              obtain ⟨q, hq, rfl, hBk, HA⟩ := hrel
              have hn2 := HN2.out
              have hBw := below_step hB hBk
              obtain ⟨z0, z1, z2, z3, z4⟩ := hz.below hBk
              by_cases hlt : q < n2
              · have hkn : (q : Int) < (n2 : Int) := by omega
                obtain ⟨b2, o2, e3, d0⟩ := hkc.out q hlt
                replace d0 := Below.cell_some hBw d0
                subst e3
                have hpl := (hk2.out _ (List.mem_of_getElem? (lstF_get n2 L q hlt)))
                by_cases m1 : (L q).data.toList = [46]
                · have HN : Hid (∀ j, j < q + 1 → packOk (L j).data.toList = true) := Lib.hid (fun j hj => by
                    by_cases e : j = q
                    · subst e; unfold packOk; rw [decide_eq_true m1]; rfl
                    · exact HA.out j (by omega))
                  have m2 : ((L q).toList != [46]) = false := by rw [toList_data, m1]; rfl
                  have m3 : (L q).toList = [46] := by rw [toList_data, m1]
                  clear m1 hpl hn2
                  go_wp2_with fail
                  go_roundw
                  case rel => exact ⟨q + 1, by omega, by go_num, hBk, HN⟩
                  case measure => simp [intOf]; omega
                · have m2 : ((L q).toList != [46]) = true := by rw [toList_data]; exact bne_iff_ne.2 m1
                  have m3 : (L q).toList ≠ [46] := by rw [toList_data]; exact m1
                  have m5 : ((L q).toList == [46]) = false := beq_eq_false_iff_ne.2 m3
                  have hpa := refPath_calls (L q) wr (by rw [size_eq]; omega)
                  by_cases m0 : pathErr (L q).data.toList = 0
                  · have HN : Hid (∀ j, j < q + 1 → packOk (L j).data.toList = true) := Lib.hid (fun j hj => by
                      by_cases e : j = q
                      · subst e; unfold packOk; rw [decide_eq_true m0, Bool.or_true]
                      · exact HA.out j (by omega))
                    rw [m0] at hpa
                    replace hpa := Lib.hid hpa
                    clear m0 m1 hpl hn2
                    go_wp2_with fail
                    refine hpa.out.mono ?_
                    rintro e w6 ⟨rfl, hb⟩
                    replace hBk := below_step hBk hb
                    clear hb hpa
                    go_wp2_with fail
                    go_roundw
                    case rel => exact ⟨q + 1, by omega, by go_num, hBk, HN⟩
                    case measure => simp [intOf]; omega
                  · have HF : Hid (entErr (enF n P V R K B) 0 = 1) := Lib.hid (by
                      rw [HS3.out, if_neg]
                      intro hall
                      have := all_lstF.1 hall q hlt
                      unfold packOk at this
                      rw [decide_eq_false m0, decide_eq_false m1] at this
                      cases this)
                    generalize pathErr (L q).data.toList = c at *
                    have hc9 : (0 : Int) < (c : Int) := by omega
                    replace hpa := Lib.hid hpa
                    clear m0 m1 hpl hn2
                    go_wp2_with fail
                    refine hpa.out.mono ?_
                    rintro e w6 ⟨rfl, hb⟩
                    replace hBw := below_step hBw hb
                    clear hb hpa
                    go_wp2_with fail
                    go_ret
                    rw [HF.out]
                    exact ⟨rfl, hBw⟩
              · have hqn : q = n2 := by omega
                have HS4 : Hid (entErr (enF n P V R K B) 0 = (firstE (packE (lstF n2 L)) n2).1) := Lib.hid (by rw [HS3.out, if_pos (all_lstF.2 (fun j hj => HA.out j (by omega)))])
                have hnq : ¬ (q : Int) < (n2 : Int) := by omega
                have hzk := hz.below hBk
                clear hqn HA hn2 hq hlt
                go_wp2_with fail
                generalize wr = wl at *
                clear z0 z1 z2 z3 z4 hnq
                go_loopw [9] (fun x wr => ∃ q : Nat, (q + 1 ≤ n2 ∨ q = 0) ∧ x = .int .i64 ((q + 1 : Nat) : Int) ∧ Below wl.heap.size wl wr ∧ Hid (∀ j, j < q + 1 → packE (lstF n2 L) j = 0)) (fun x _ => n2 - (intOf x).toNat)
                case atStart =>
                  exact ⟨0, .inr rfl, rfl, Below.refl _ _, Lib.hid (fun j hj => by
                    obtain rfl : j = 0 := by omega
                    unfold packE
                    rw [if_neg (fun h => absurd h.1 (Nat.lt_irrefl _))])⟩
                case round =>
                  obtain ⟨q2, hq2, rfl, hBm, HA2⟩ := hrel
                  have hn2 := HN2.out
                  have hBx := below_step hBw hBm
                  obtain ⟨z0, z1, z2, z3, z4⟩ := hzk.below hBm
                  by_cases hlt : q2 + 1 < n2
                  · have hkn : ((q2 + 1 : Nat) : Int) < (n2 : Int) := by omega
                    have hk1 : ((q2 + 1 : Nat) : Int) - 1 = (q2 : Int) := by omega
                    have hkw := wrap_nat q2 (by omega)
                    have hkw1 := wrap_nat (q2 + 1) (by omega)
                    have hkn2 : (q2 : Int) < (n2 : Int) := by omega
                    have hkn3 : (q2 : Int) + 1 < (n2 : Int) := by omega
                    have hkn4 : ((q2 : Int) + 1).toNat = q2 + 1 := by omega
                    have hkn5 : (0 : Int) ≤ (q2 : Int) + 1 := by omega
                    have hkn6 : ¬ ((q2 : Int) + 1 < 0) := by omega
                    obtain ⟨b2, o2, e3, d0⟩ := hkc.out (q2 + 1) hlt
                    obtain ⟨b3, o3, e4, d1⟩ := hkc.out q2 (by omega)
                    rw [e3] at e4
                    injection e4 with e4
                    injection e4 with e5 e6
                    subst e5 e6
                    subst e3
                    replace d0 := Below.cell_some hBx d0
                    replace d1 := Below.cell_some hBx d1
                    have hle := leq_eq (L (q2 + 1)) (L q2)
                    have hR : packE (lstF n2 L) (q2 + 1) = if compareBytes (L (q2 + 1)).data.toList (L q2).data.toList ≤ 0 then 8 else 0 := by
                      unfold packE
                      rw [Nat.add_sub_cancel, getD_lstF hlt, getD_lstF (by omega)]
                      simp only [Nat.succ_pos, true_and]
                    by_cases hc0 : compareBytes (L (q2 + 1)).data.toList (L q2).data.toList ≤ 0
                    · rw [if_pos hc0] at hR
                      rw [decide_eq_true hc0] at hle
                      have HF : Hid (entErr (enF n P V R K B) 0 = 8) := Lib.hid (by rw [HS4.out, firstE_hit (by rw [hR]; decide) HA2.out hlt, hR])
                      clear hR hc0 hn2 hq2
                      go_wp2_with fail
                      have kqz3 := fun d os => cell_patch (d := d) (os := os) z3
                      have kqd0 := fun d os => cell_patch (d := d) (os := os) d0
                      have kqd1 := fun d os => cell_patch (d := d) (os := os) d1
                      refine wp_region_quiet_patch (by kernel_rfl) (by kernel_rfl) ?_
                      repeat (go_big_quiet_step (fail))
                      refine wpQuiet_nil ?_
                      intro _ hw'
                      obtain ⟨⟨dq, osq⟩, hw''⟩ := hw'
                      subst hw''
                      clear kqz3 kqd0 kqd1
                      have hb := below_patch wr dq osq
                      replace hBx := below_step hBx hb
                      clear hb
                      generalize patch wr dq osq = wq1 at hBx ⊢
                      go_wp2_with fail
                      go_ret
                      rw [HF.out]
                      exact ⟨rfl, hBx⟩
                    · rw [if_neg hc0] at hR
                      rw [decide_eq_false hc0] at hle
                      have HN : Hid (∀ j, j < q2 + 1 + 1 → packE (lstF n2 L) j = 0) := Lib.hid (fun j hj => by
                        by_cases e : j = q2 + 1
                        · subst e; exact hR
                        · exact HA2.out j (by omega))
                      clear hR hc0 hq2
                      go_wp2_with fail
                      have kqz3 := fun d os => cell_patch (d := d) (os := os) z3
                      have kqd0 := fun d os => cell_patch (d := d) (os := os) d0
                      have kqd1 := fun d os => cell_patch (d := d) (os := os) d1
                      refine wp_region_quiet_patch (by kernel_rfl) (by kernel_rfl) ?_
                      repeat (go_big_quiet_step (fail))
                      refine wpQuiet_nil ?_
                      intro _ hw'
                      obtain ⟨⟨dq, osq⟩, hw''⟩ := hw'
                      subst hw''
                      clear kqz3 kqd0 kqd1
                      have hb := below_patch wr dq osq
                      replace hBm := below_step hBm hb
                      clear hb
                      generalize patch wr dq osq = wq1 at hBm ⊢
                      go_wp2_with fail
                      go_roundw
                      case rel => exact ⟨q2 + 1, .inl (by omega), by go_num, hBm, HN⟩
                      case measure => simp [intOf]; omega
                  · have HF : Hid (entErr (enF n P V R K B) 0 = 0) := Lib.hid (by rw [HS4.out, firstE_none (fun j hj => HA2.out j (by omega))])
                    have hnk : ¬ ((q2 + 1 : Nat) : Int) < (n2 : Int) := by omega
                    have hnk2 : ¬ (q2 : Int) + 1 < (n2 : Int) := by omega
                    clear hlt hn2 hq2
                    go_wp2_with fail
                    go_ret
                    rw [HF.out]
                    exact ⟨rfl, hBx⟩
        · have HF : Hid (entErr (enF n P V R K B) 0 = r.1) := Lib.hid (by rw [HS.out, hrE, if_pos g2])
          have hrq : rqP r = r := by unfold rqP; rw [if_neg g2]
          rw [hrq] at hre1
          have g4 : (0 : Int) < (r.1 : Int) := by omega
          generalize r.1 = r1 at *
          replace hre1 := Lib.hid hre1
          clear g1 g2 hr hrq hrE
          go_wp2_with fail
          refine hre1.out.mono ?_
          rintro e w5 ⟨rfl, hb⟩
          have hB5 := below_step hB hb
          go_wp2_with fail
          go_ret
          rw [HF.out]
          exact ⟨rfl, hB5⟩
    · obtain ⟨k, rfl⟩ : ∃ k, i = k + 1 := ⟨i - 1, by omega⟩
      have hkn : k < n := by omega
      obtain ⟨b2, o2, eb, hcell2⟩ := h.at_ k hkn
      rw [Nat.add_sub_cancel, enAt_enF hkn] at HS0
      have hk0 : (0 : Int) < ((k + 1 : Nat) : Int) := by omega
      have hk1' : ((k + 1 : Nat) : Int) - 1 = (k : Int) := by omega
      have hkw := wrap_nat k (by omega)
      have hkw1 := wrap_nat (k + 1) (by omega)
      have hkn2 : (k : Int) < (n : Int) := by omega
      have hkn3 : (k : Int) + 1 < (n : Int) := by omega
      have hkn4 : ((k : Int) + 1).toNat = k + 1 := by omega
      have hkn5 : (0 : Int) ≤ (k : Int) + 1 := by omega
      have hkn6 : ¬ ((k : Int) + 1 < 0) := by omega
      rw [ea] at eb
      injection eb with eb
      injection eb with eb1 eb2
      subst eb1 eb2
      obtain ⟨d0, d1, d2, d3, d4⟩ := hcell2
      subst ea
      have hvk := (HSH.out.at_ hkn).2.2.1
      have hia := fun W => isAhead_calls (P k) (V k) (P (k + 1)) (V (k + 1)) W (by omega) (by omega)
      clear hvk
      obtain ⟨c0, c1, c2, c3, c4⟩ := hcell
      obtain ⟨z0, z1, z2, z3, z4⟩ := id hz
      have dB := below_alloc w (.cells #[.string (P (k + 1)), .string (V (k + 1)), .slice a1 n1 s1, .slice a2 n2 s2, .bool (B (k + 1))] 43)
      replace d0 := Below.cell_some dB d0
      replace d1 := Below.cell_some dB d1
      cases hX : modAhead ((P k).data.toList, (V k).data.toList) ((P (k + 1)).data.toList, (V (k + 1)).data.toList) with
      | true =>
        rw [hX] at hia
        have HS : Hid (entErr (enF n P V R K B) (k + 1) = if reqsE (P (k + 1)).data.toList (R (k + 1)) ≠ 0 then reqsE (P (k + 1)).data.toList (R (k + 1)) else packsE (lstF n2 L)) := Lib.hid (by
          rw [HS0, decide_eq_false (p := _ ∧ _) (fun h => by rw [hX] at h; cases h.2)]
          unfold stagesE
          rw [if_neg (fun h => h h0'), if_neg (by simp)])
        replace hme := Lib.hid hme
        replace hia := Lib.hid hia
        clear HS0 h h0 h0' hX d2 d3 d4 dB
        go_enter Tryz.func115, Tryz.ntmps115
        go_wp2_with fail
        generalize w.alloc (.cells #[.string (P (k + 1)), .string (V (k + 1)), .slice a1 n1 s1, .slice a2 n2 s2, .bool (B (k + 1))] 43) = w1 at *
        refine (hme.out _).mono ?_
        rintro e w2 ⟨rfl, hb⟩
        replace hB := below_step hB hb
        replace hz := hz.below hb
        replace d0 := Below.cell_some hb d0
        replace d1 := Below.cell_some hb d1
        clear hb
        clear z0 z1 z2 z3 z4 c0 c1 c2 c3 c4 hme
        obtain ⟨z0, z1, z2, z3, z4⟩ := id hz
        go_wp2_with fail
        have kqd0 := fun d os => cell_patch (d := d) (os := os) d0
        have kqd1 := fun d os => cell_patch (d := d) (os := os) d1
        have kqz0 := fun d os => cell_patch (d := d) (os := os) z0
        have kqz1 := fun d os => cell_patch (d := d) (os := os) z1
        refine wp_region_quiet_patch (by kernel_rfl) (by kernel_rfl) ?_
        repeat (go_big_quiet_step ((go_at_call 160; exact Calls.patch_of (hia.out _))))
        refine wpQuiet_nil ?_
        intro _ hw'
        obtain ⟨⟨dq, osq⟩, hw''⟩ := hw'
        subst hw''
        clear kqd0 kqd1 kqz0 kqz1
        have hb := below_patch w2 dq osq
        replace hB := below_step hB hb
        replace hz := hz.below hb
        clear hb
        generalize patch w2 dq osq = w3 at hB hz ⊢
        clear d0 d1 z0 z1 z2 z3 z4 hia
        obtain ⟨z0, z1, z2, z3, z4⟩ := id hz
        by_cases g1 : 20 < n1
        · have HF : Hid (entErr (enF n P V R K B) (k + 1) = 7) := Lib.hid (by rw [HS.out, show reqsE (P (k + 1)).data.toList (R (k + 1)) = 7 by unfold reqsE; rw [if_pos (by rw [HLR.out]; exact g1)], if_pos (by decide)])
          have g1' : (20 : Int) < (n1 : Int) := by omega
          clear g1
          go_wp2_with fail
          go_ret
          rw [HF.out]
          exact ⟨rfl, hB⟩
        · have g1' : ¬ (20 : Int) < (n1 : Int) := by omega
          obtain ⟨r, hr⟩ : ∃ r, firstE (reqE (P (k + 1)).data.toList (R (k + 1))) (R (k + 1)).length = r := ⟨_, rfl⟩
          have hre1 := hre.out _ hB
          rw [hr] at hre1
          have hrE : reqsE (P (k + 1)).data.toList (R (k + 1)) = r.1 := by unfold reqsE; rw [if_neg (by rw [HLR.out]; exact g1), hr]
          by_cases g2 : r.1 = 0
          · have HS2 : Hid (entErr (enF n P V R K B) (k + 1) = packsE (lstF n2 L)) := Lib.hid (by rw [HS.out, hrE, if_neg (by simp [g2])])
            have hrq : rqP r = (0, 0) := by unfold rqP; rw [if_pos g2]
            rw [hrq] at hre1
            simp only at hre1
            replace hre1 := Lib.hid hre1
            clear g1 g2 hr hrq hrE
            go_wp2_with fail
            refine hre1.out.mono ?_
            rintro e w5 ⟨rfl, hb⟩
            replace hB := below_step hB hb
            replace hz := hz.below hb
            clear hb
            clear z0 z1 z2 z3 z4 hre1
            obtain ⟨z0, z1, z2, z3, z4⟩ := id hz
            by_cases g3 : 10 < n2
            · have HF : Hid (entErr (enF n P V R K B) (k + 1) = 7) := Lib.hid (by rw [HS2.out]; unfold packsE; rw [lstF_length, if_pos g3])
              have g3' : (10 : Int) < (n2 : Int) := by omega
              clear g3
              go_wp2_with fail
              go_ret
              rw [HF.out]
              exact ⟨rfl, hB⟩
            · have g3' : ¬ (10 : Int) < (n2 : Int) := by omega
              have HS3 : Hid (entErr (enF n P V R K B) (k + 1) = if (lstF n2 L).all packOk then (firstE (packE (lstF n2 L)) n2).1 else 1) := Lib.hid (by rw [HS2.out]; unfold packsE; rw [lstF_length, if_neg g3])
              have HN2 := Lib.hid g3
              clear g3
              go_wp2_with fail
              clear g1' g3' z0 z1 z2 z3 z4
              go_loopw [8] (fun x wr => ∃ q : Nat, q ≤ n2 ∧ x = .int .i64 q ∧ Below w5.heap.size w5 wr ∧ Hid (∀ j, j < q → packOk (L j).data.toList = true)) (fun x _ => n2 - (intOf x).toNat)
              case atStart => exact ⟨0, Nat.zero_le _, rfl, Below.refl _ _, Lib.hid (fun j hj => absurd hj (Nat.not_lt_zero _))⟩
              case round =>
                obtain ⟨q, hq, rfl, hBk, HA⟩ := hrel
                have hn2 := HN2.out
                have hBw := below_step hB hBk
                obtain ⟨z0, z1, z2, z3, z4⟩ := hz.below hBk
                by_cases hlt : q < n2
                · have hkn : (q : Int) < (n2 : Int) := by omega
                  obtain ⟨b2, o2, e3, d0⟩ := hkc.out q hlt
                  replace d0 := Below.cell_some hBw d0
                  subst e3
                  have hpl := (hk2.out _ (List.mem_of_getElem? (lstF_get n2 L q hlt)))
                  by_cases m1 : (L q).data.toList = [46]
                  · have HN : Hid (∀ j, j < q + 1 → packOk (L j).data.toList = true) := Lib.hid (fun j hj => by
                      by_cases e : j = q
                      · subst e; unfold packOk; rw [decide_eq_true m1]; rfl
                      · exact HA.out j (by omega))
                    have m2 : ((L q).toList != [46]) = false := by rw [toList_data, m1]; rfl
                    have m3 : (L q).toList = [46] := by rw [toList_data, m1]
                    clear m1 hpl hn2
                    go_wp2_with fail
                    go_roundw
                    case rel => exact ⟨q + 1, by omega, by go_num, hBk, HN⟩
                    case measure => simp [intOf]; omega
                  · have m2 : ((L q).toList != [46]) = true := by rw [toList_data]; exact bne_iff_ne.2 m1
                    have m3 : (L q).toList ≠ [46] := by rw [toList_data]; exact m1
                    have m5 : ((L q).toList == [46]) = false := beq_eq_false_iff_ne.2 m3
                    have hpa := refPath_calls (L q) wr (by rw [size_eq]; omega)
                    by_cases m0 : pathErr (L q).data.toList = 0
                    · have HN : Hid (∀ j, j < q + 1 → packOk (L j).data.toList = true) := Lib.hid (fun j hj => by
                        by_cases e : j = q
                        · subst e; unfold packOk; rw [decide_eq_true m0, Bool.or_true]
                        · exact HA.out j (by omega))
                      rw [m0] at hpa
                      replace hpa := Lib.hid hpa
                      clear m0 m1 hpl hn2
                      go_wp2_with fail
                      refine hpa.out.mono ?_
                      rintro e w6 ⟨rfl, hb⟩
                      replace hBk := below_step hBk hb
                      clear hb hpa
                      go_wp2_with fail
                      go_roundw
                      case rel => exact ⟨q + 1, by omega, by go_num, hBk, HN⟩
                      case measure => simp [intOf]; omega
                    · have HF : Hid (entErr (enF n P V R K B) (k + 1) = 1) := Lib.hid (by
                        rw [HS3.out, if_neg]
                        intro hall
                        have := all_lstF.1 hall q hlt
                        unfold packOk at this
                        rw [decide_eq_false m0, decide_eq_false m1] at this
                        cases this)
                      generalize pathErr (L q).data.toList = c at *
                      have hc9 : (0 : Int) < (c : Int) := by omega
                      replace hpa := Lib.hid hpa
                      clear m0 m1 hpl hn2
                      go_wp2_with fail
                      refine hpa.out.mono ?_
                      rintro e w6 ⟨rfl, hb⟩
                      replace hBw := below_step hBw hb
                      clear hb hpa
                      go_wp2_with fail
                      go_ret
                      rw [HF.out]
                      exact ⟨rfl, hBw⟩
                · have hqn : q = n2 := by omega
                  have HS4 : Hid (entErr (enF n P V R K B) (k + 1) = (firstE (packE (lstF n2 L)) n2).1) := Lib.hid (by rw [HS3.out, if_pos (all_lstF.2 (fun j hj => HA.out j (by omega)))])
                  have hnq : ¬ (q : Int) < (n2 : Int) := by omega
                  have hzk := hz.below hBk
                  clear hqn HA hn2 hq hlt
                  go_wp2_with fail
                  generalize wr = wl at *
                  clear z0 z1 z2 z3 z4 hnq
                  go_loopw [9] (fun x wr => ∃ q : Nat, (q + 1 ≤ n2 ∨ q = 0) ∧ x = .int .i64 ((q + 1 : Nat) : Int) ∧ Below wl.heap.size wl wr ∧ Hid (∀ j, j < q + 1 → packE (lstF n2 L) j = 0)) (fun x _ => n2 - (intOf x).toNat)
                  case atStart =>
                    exact ⟨0, .inr rfl, rfl, Below.refl _ _, Lib.hid (fun j hj => by
                      obtain rfl : j = 0 := by omega
                      unfold packE
                      rw [if_neg (fun h => absurd h.1 (Nat.lt_irrefl _))])⟩
                  case round =>
                    obtain ⟨q2, hq2, rfl, hBm, HA2⟩ := hrel
                    have hn2 := HN2.out
                    have hBx := below_step hBw hBm
                    obtain ⟨z0, z1, z2, z3, z4⟩ := hzk.below hBm
                    by_cases hlt : q2 + 1 < n2
                    · have hkn : ((q2 + 1 : Nat) : Int) < (n2 : Int) := by omega
                      have hk1 : ((q2 + 1 : Nat) : Int) - 1 = (q2 : Int) := by omega
                      have hkw := wrap_nat q2 (by omega)
                      have hkw1 := wrap_nat (q2 + 1) (by omega)
                      have hkn2 : (q2 : Int) < (n2 : Int) := by omega
                      have hkn3 : (q2 : Int) + 1 < (n2 : Int) := by omega
                      have hkn4 : ((q2 : Int) + 1).toNat = q2 + 1 := by omega
                      have hkn5 : (0 : Int) ≤ (q2 : Int) + 1 := by omega
                      have hkn6 : ¬ ((q2 : Int) + 1 < 0) := by omega
                      obtain ⟨b2, o2, e3, d0⟩ := hkc.out (q2 + 1) hlt
                      obtain ⟨b3, o3, e4, d1⟩ := hkc.out q2 (by omega)
                      rw [e3] at e4
                      injection e4 with e4
                      injection e4 with e5 e6
                      subst e5 e6
                      subst e3
                      replace d0 := Below.cell_some hBx d0
                      replace d1 := Below.cell_some hBx d1
                      have hle := leq_eq (L (q2 + 1)) (L q2)
                      have hR : packE (lstF n2 L) (q2 + 1) = if compareBytes (L (q2 + 1)).data.toList (L q2).data.toList ≤ 0 then 8 else 0 := by
                        unfold packE
                        rw [Nat.add_sub_cancel, getD_lstF hlt, getD_lstF (by omega)]
                        simp only [Nat.succ_pos, true_and]
                      by_cases hc0 : compareBytes (L (q2 + 1)).data.toList (L q2).data.toList ≤ 0
                      · rw [if_pos hc0] at hR
                        rw [decide_eq_true hc0] at hle
                        have HF : Hid (entErr (enF n P V R K B) (k + 1) = 8) := Lib.hid (by rw [HS4.out, firstE_hit (by rw [hR]; decide) HA2.out hlt, hR])
                        clear hR hc0 hn2 hq2
                        go_wp2_with fail
                        have kqz3 := fun d os => cell_patch (d := d) (os := os) z3
                        have kqd0 := fun d os => cell_patch (d := d) (os := os) d0
                        have kqd1 := fun d os => cell_patch (d := d) (os := os) d1
                        refine wp_region_quiet_patch (by kernel_rfl) (by kernel_rfl) ?_
                        repeat (go_big_quiet_step (fail))
                        refine wpQuiet_nil ?_
                        intro _ hw'
                        obtain ⟨⟨dq, osq⟩, hw''⟩ := hw'
                        subst hw''
                        clear kqz3 kqd0 kqd1
                        have hb := below_patch wr dq osq
                        replace hBx := below_step hBx hb
                        clear hb
                        generalize patch wr dq osq = wq1 at hBx ⊢
                        go_wp2_with fail
                        go_ret
                        rw [HF.out]
                        exact ⟨rfl, hBx⟩
                      · rw [if_neg hc0] at hR
                        rw [decide_eq_false hc0] at hle
                        have HN : Hid (∀ j, j < q2 + 1 + 1 → packE (lstF n2 L) j = 0) := Lib.hid (fun j hj => by
                          by_cases e : j = q2 + 1
                          · subst e; exact hR
                          · exact HA2.out j (by omega))
                        clear hR hc0 hq2
                        go_wp2_with fail
                        have kqz3 := fun d os => cell_patch (d := d) (os := os) z3
                        have kqd0 := fun d os => cell_patch (d := d) (os := os) d0
                        have kqd1 := fun d os => cell_patch (d := d) (os := os) d1
                        refine wp_region_quiet_patch (by kernel_rfl) (by kernel_rfl) ?_
                        repeat (go_big_quiet_step (fail))
                        refine wpQuiet_nil ?_
                        intro _ hw'
                        obtain ⟨⟨dq, osq⟩, hw''⟩ := hw'
                        subst hw''
                        clear kqz3 kqd0 kqd1
                        have hb := below_patch wr dq osq
                        replace hBm := below_step hBm hb
                        clear hb
                        generalize patch wr dq osq = wq1 at hBm ⊢
                        go_wp2_with fail
                        go_roundw
                        case rel => exact ⟨q2 + 1, .inl (by omega), by go_num, hBm, HN⟩
                        case measure => simp [intOf]; omega
                    · have HF : Hid (entErr (enF n P V R K B) (k + 1) = 0) := Lib.hid (by rw [HS4.out, firstE_none (fun j hj => HA2.out j (by omega))])
                      have hnk : ¬ ((q2 + 1 : Nat) : Int) < (n2 : Int) := by omega
                      have hnk2 : ¬ (q2 : Int) + 1 < (n2 : Int) := by omega
                      clear hlt hn2 hq2
                      go_wp2_with fail
                      go_ret
                      rw [HF.out]
                      exact ⟨rfl, hBx⟩
          · have HF : Hid (entErr (enF n P V R K B) (k + 1) = r.1) := Lib.hid (by rw [HS.out, hrE, if_pos g2])
            have hrq : rqP r = r := by unfold rqP; rw [if_neg g2]
            rw [hrq] at hre1
            have g4 : (0 : Int) < (r.1 : Int) := by omega
            generalize r.1 = r1 at *
            replace hre1 := Lib.hid hre1
            clear g1 g2 hr hrq hrE
            go_wp2_with fail
            refine hre1.out.mono ?_
            rintro e w5 ⟨rfl, hb⟩
            have hB5 := below_step hB hb
            go_wp2_with fail
            go_ret
            rw [HF.out]
            exact ⟨rfl, hB5⟩
      | false =>
        rw [hX] at hia
        have HF : Hid (entErr (enF n P V R K B) (k + 1) = 8) := Lib.hid (by
          rw [HS0, decide_eq_true (p := _ ∧ _) ⟨Nat.succ_pos k, hX⟩]
          unfold stagesE
          rw [if_neg (fun h => h h0'), if_pos rfl])
        replace hme := Lib.hid hme
        replace hia := Lib.hid hia
        clear HS0 h h0 h0' hX d2 d3 d4 dB
        go_enter Tryz.func115, Tryz.ntmps115
        go_wp2_with fail
        generalize w.alloc (.cells #[.string (P (k + 1)), .string (V (k + 1)), .slice a1 n1 s1, .slice a2 n2 s2, .bool (B (k + 1))] 43) = w1 at *
        refine (hme.out _).mono ?_
        rintro e w2 ⟨rfl, hb⟩
        replace hB := below_step hB hb
        replace hz := hz.below hb
        replace d0 := Below.cell_some hb d0
        replace d1 := Below.cell_some hb d1
        clear hb
        clear z0 z1 z2 z3 z4 c0 c1 c2 c3 c4 hme
        obtain ⟨z0, z1, z2, z3, z4⟩ := id hz
        go_wp2_with fail
        have kqd0 := fun d os => cell_patch (d := d) (os := os) d0
        have kqd1 := fun d os => cell_patch (d := d) (os := os) d1
        have kqz0 := fun d os => cell_patch (d := d) (os := os) z0
        have kqz1 := fun d os => cell_patch (d := d) (os := os) z1
        refine wp_region_quiet_patch (by kernel_rfl) (by kernel_rfl) ?_
        repeat (go_big_quiet_step ((go_at_call 160; exact Calls.patch_of (hia.out _))))
        refine wpQuiet_nil ?_
        intro _ hw'
        obtain ⟨⟨dq, osq⟩, hw''⟩ := hw'
        subst hw''
        clear kqd0 kqd1 kqz0 kqz1
        have hb := below_patch w2 dq osq
        replace hB := below_step hB hb
        replace hz := hz.below hb
        clear hb
        generalize patch w2 dq osq = w3 at hB hz ⊢
        clear d0 d1 z0 z1 z2 z3 z4 hia
        go_wp2_with fail
        go_ret
        rw [HF.out]
        exact ⟨rfl, hB⟩
  · have HF : Hid (entErr (enF n P V R K B) i = modErr (P i).data.toList (V i).data.toList) := Lib.hid (by
      rw [HS0]
      unfold stagesE
      rw [if_pos (by exact h0)]
      rfl)
    generalize modErr (P i).data.toList (V i).data.toList = c at *
    have hc9 : (0 : Int) < (c : Int) := by omega
    subst ea
    replace hme := Lib.hid hme
    obtain ⟨c0, c1, c2, c3, c4⟩ := hcell
    obtain ⟨z0, z1, z2, z3, z4⟩ := id hz
    clear HS0 h h0
    go_enter Tryz.func115, Tryz.ntmps115
    go_wp2_with fail
    generalize w.alloc (.cells #[.string (P i), .string (V i), .slice a1 n1 s1, .slice a2 n2 s2, .bool (B i)] 43) = w1 at *
    refine (hme.out _).mono ?_
    rintro e w2 ⟨rfl, hb⟩
    replace hB := below_step hB hb
    clear hb z0 z1 z2 z3 z4 c0 c1 c2 c3 c4
    go_wp2_with fail
    go_ret
    rw [HF.out]
    exact ⟨rfl, hB⟩
end Go.Proofs.Pw

/- B.rootsFault: which root is no entry. Conditions: an index and a list of at most 1000000. -/
namespace Go.Proofs.Pw
open Go.RowKit
open Go.Lib hiding intOf

set_option maxHeartbeats 4000000 in
set_option maxRecDepth 100000 in
theorem rootsFault_in (a : Option Addr) (n cap : Nat) (P V : Nat → ByteArray) (R : Nat → List Md) (K : Nat → List Str) (B : Nat → Bool) (Rv Kv : Nat → Value) (rv : Value) (roots : List Md) (w : World) (h : EntsIn w a n cap P V R K B Rv Kv) (hr : ModsAt w rv roots) (hl : n ≤ 1000000) (hl2 : roots.length ≤ 1000000) :
    Calls Tryz.prog 70 #[.slice a n cap, rv] w fun e w' => e = .returned (fltV (rootsErr (enF n P V R K B) roots)) ∧ Below w.heap.size w w' := by
  obtain ⟨a2, m, cap2, Q, U, rfl, rfl, hmc, hcap2, hc2⟩ := hr
  rw [mdF_length] at hl2
  have hB := below_alloc w (.cells #[.int .i64 0, .int .i64 0] 49)
  have hz := box2_alloc w (.int .i64 0) (.int .i64 0) 49
  have HFE : Hid (rootsErr (enF n P V R K B) (mdF m Q U) = firstE (rootE (enF n P V R K B) (mdF m Q U)) m) := Lib.hid (by unfold rootsErr; rw [mdF_length])
  have hfo := fun (p v : ByteArray) (W : World) (hb : Below w.heap.size w W) => findOf_in a n cap P V R K B Rv Kv p v W (h.below hb) hl
  have HL := Lib.hid hl
  replace hc2 := Lib.hid hc2
  replace hfo := Lib.hid hfo
  clear h hl
  go_enter Tryz.func70, Tryz.ntmps70
  go_wp2_with fail
  generalize w.alloc (.cells #[.int .i64 0, .int .i64 0] 49) = w1 at *
  go_loopw [5] (fun i wr => ∃ k : Nat, k ≤ m ∧ i = .int .i64 k ∧ Below w1.heap.size w1 wr ∧ Hid (∀ j, j < k → rootE (enF n P V R K B) (mdF m Q U) j = 0)) (fun i _ => m - (intOf i).toNat)
  case atStart => exact ⟨0, Nat.zero_le _, rfl, Below.refl _ _, Lib.hid (fun j hj => absurd hj (Nat.not_lt_zero _))⟩
  case round =>
    obtain ⟨k, hk, rfl, hBk, HA⟩ := hrel
    have hBw := below_step hB hBk
    have hzk := hz.below hBk
    by_cases hlt : k < m
    · have hkn : (k : Int) < (m : Int) := by omega
      obtain ⟨b1, o1, ea, c0, c1⟩ := hc2.out k hlt
      replace c0 := Below.cell_some hBw c0
      replace c1 := Below.cell_some hBw c1
      subst ea
      have hR : rootE (enF n P V R K B) (mdF m Q U) k = if findE (enF n P V R K B) ((Q k).data.toList, (U k).data.toList) < 0 then 5 else 0 := by
        unfold rootE
        rw [mdAt_mdF hlt]
      have hf := hfo.out (Q k) (U k) wr hBw
      obtain ⟨x, hx⟩ : ∃ x, findE (enF n P V R K B) ((Q k).data.toList, (U k).data.toList) = x := ⟨_, rfl⟩
      rw [hx] at hR hf
      by_cases h0 : x < 0
      · rw [if_pos h0] at hR
        have HF : Hid (rootsErr (enF n P V R K B) (mdF m Q U) = (5, (k : Int))) := Lib.hid (by rw [HFE.out, firstE_hit (by rw [hR]; decide) HA.out hlt, hR])
        replace hf := Lib.hid hf
        clear hx hR
        go_wp2_with fail
        refine hf.out.mono ?_
        rintro e w2 ⟨rfl, hb⟩
        have hB2 := below_step hBw hb
        obtain ⟨z0, z1, zf⟩ := hzk.below hb
        clear hb hf c0 c1
        go_wp2_with fail
        refine bodyPost_ret (v := fltV (5, (k : Int))) (by simp [results, Tryz.results70, fltV, go_sem, *]) rfl ?_
        rw [HF.out]
        exact ⟨rfl, (hB2.setCell (p := ⟨w.heap.size, 0, none⟩) (Nat.le_refl _) _).setCell (p := ⟨w.heap.size, 1, none⟩) (Nat.le_refl _) _⟩
      · rw [if_neg h0] at hR
        have HN : Hid (∀ j, j < k + 1 → rootE (enF n P V R K B) (mdF m Q U) j = 0) := Lib.hid (fun j hj => by
          by_cases e : j = k
          · subst e; exact hR
          · exact HA.out j (by omega))
        have hq : decide (x < 0) = false := decide_eq_false h0
        replace hf := Lib.hid hf
        clear hx hR h0
        go_wp2_with fail
        refine hf.out.mono ?_
        rintro e w2 ⟨rfl, hb⟩
        replace hBk := below_step hBk hb
        clear hb hf c0 c1
        go_wp2_with fail
        go_roundw
        case rel => exact ⟨k + 1, by omega, by go_num, hBk, HN⟩
        case measure => simp [intOf]; omega
    · obtain rfl : m = k := by omega
      have HF : Hid (rootsErr (enF n P V R K B) (mdF m Q U) = (0, -1)) := Lib.hid (by rw [HFE.out, firstE_none HA.out])
      have hfi := fun W => refFine_calls W
      unfold fltV at hfi
      replace hfi := Lib.hid hfi
      go_wp2_with fail
      refine (hfi.out _).mono ?_
      rintro e w2 ⟨rfl, hb⟩
      have hB2 := below_step hBw hb
      obtain ⟨z0, z1, zf⟩ := hzk.below hb
      clear hb hfi
      go_wp2_with fail
      refine bodyPost_ret (v := fltV (0, -1)) (by simp [results, Tryz.results70, fltV, go_sem, *]) rfl ?_
      rw [HF.out]
      exact ⟨rfl, (hB2.setCell (p := ⟨w.heap.size, 0, none⟩) (Nat.le_refl _) _).setCell (p := ⟨w.heap.size, 1, none⟩) (Nat.le_refl _) _⟩
end Go.Proofs.Pw

/- R.IndexFault: what is wrong of an index. Conditions: texts of at most 1000000 bytes, lists of at most 1000000. -/
namespace Go.Proofs.Pw
open Go.RowKit
open Go.Lib hiding intOf

theorem any_mdF {n : Nat} {P V : Nat → ByteArray} {p : Md → Bool} (h : ∀ j, j < n → p ((P j).data.toList, (V j).data.toList) = false) : (mdF n P V).any p = false := by
  rw [List.any_eq_false]
  intro m hm
  obtain ⟨j, hj⟩ := List.getElem?_of_mem hm
  have hl := (List.getElem?_eq_some_iff.1 hj).1
  rw [mdF_length] at hl
  rw [mdF_get n P V j hl] at hj
  rw [← Option.some.inj hj, h j hl]
  simp

set_option maxHeartbeats 8000000 in
set_option maxRecDepth 100000 in
theorem indexFault_in (a : Option Addr) (n cap : Nat) (P V : Nat → ByteArray) (R : Nat → List Md) (K : Nat → List Str) (B : Nat → Bool) (Rv Kv : Nat → Value) (w : World) (h : EntsIn w a n cap P V R K B Rv Kv) (hs : ShortI (enF n P V R K B)) :
    Calls Tryz.prog 69 #[.slice a n cap] w fun e w' => e = .returned (fltV (idxErr (enF n P V R K B))) ∧ Below w.heap.size w w' := by
  have hn : n ≤ 1000000 := by have := hs.len; rwa [enF_length] at this
  have hB := below_alloc w (.cells #[.int .i64 0, .int .i64 0] 49)
  have hz := box2_alloc w (.int .i64 0) (.int .i64 0) 49
  have HFE : Hid (idxErr (enF n P V R K B) = if 100 < n then (7, -1) else orE (firstE (entErr (enF n P V R K B)) n) (firstE (lostE (enF n P V R K B)) n)) := Lib.hid (by unfold idxErr; rw [enF_length])
  have hee := fun (i : Nat) (hi : i < n) (W : World) (hb : Below w.heap.size w W) => entryError_in a n cap P V R K B Rv Kv i W (h.below hb) hs hi
  have hfo := fun (p v : ByteArray) (W : World) (hb : Below w.heap.size w W) => findOf_in a n cap P V R K B Rv Kv p v W (h.below hb) hn
  have H := Lib.hid h
  have HSH := Lib.hid hs
  replace hee := Lib.hid hee
  replace hfo := Lib.hid hfo
  clear h hs
  by_cases h100 : 100 < n
  · have HF : Hid (idxErr (enF n P V R K B) = (7, -1)) := Lib.hid (by rw [HFE.out, if_pos h100])
    have h100' : (100 : Int) < (n : Int) := by omega
    have hba := fun W => refBare_calls 7 W
    unfold fltV at hba
    replace hba := Lib.hid hba
    clear h100
    go_enter Tryz.func69, Tryz.ntmps69
    go_wp2_with fail
    generalize w.alloc (.cells #[.int .i64 0, .int .i64 0] 49) = w1 at *
    refine (hba.out _).mono ?_
    rintro e w2 ⟨rfl, hb⟩
    have hB2 := below_step hB hb
    obtain ⟨z0, z1, zf⟩ := hz.below hb
    clear hb hba
    go_wp2_with fail
    refine bodyPost_ret (v := fltV (7, -1)) (by simp [results, Tryz.results69, fltV, go_sem, *]) rfl ?_
    rw [HF.out]
    exact ⟨rfl, (hB2.setCell (p := ⟨w.heap.size, 0, none⟩) (Nat.le_refl _) _).setCell (p := ⟨w.heap.size, 1, none⟩) (Nat.le_refl _) _⟩
  · have HF1 : Hid (idxErr (enF n P V R K B) = orE (firstE (entErr (enF n P V R K B)) n) (firstE (lostE (enF n P V R K B)) n)) := Lib.hid (by rw [HFE.out, if_neg h100])
    have h100' : ¬ (100 : Int) < (n : Int) := by omega
    clear h100
    go_enter Tryz.func69, Tryz.ntmps69
    go_wp2_with fail
    generalize w.alloc (.cells #[.int .i64 0, .int .i64 0] 49) = w1 at *
    clear h100'
    go_loopw [3] (fun x wr => ∃ k : Nat, k ≤ n ∧ x = .int .i64 k ∧ Below w1.heap.size w1 wr ∧ Hid (∀ j, j < k → entErr (enF n P V R K B) j = 0)) (fun x _ => n - (intOf x).toNat)
    case atStart => exact ⟨0, Nat.zero_le _, rfl, Below.refl _ _, Lib.hid (fun j hj => absurd hj (Nat.not_lt_zero _))⟩
    case round =>
      obtain ⟨k, hk, rfl, hBk, HA⟩ := hrel
      have hBw := below_step hB hBk
      have hzk := hz.below hBk
      by_cases hlt : k < n
      · have hkn : (k : Int) < (n : Int) := by omega
        have hf := hee.out k hlt wr hBw
        obtain ⟨c, hc⟩ : ∃ c, entErr (enF n P V R K B) k = c := ⟨_, rfl⟩
        rw [hc] at hf
        by_cases h0 : c = 0
        · have HN : Hid (∀ j, j < k + 1 → entErr (enF n P V R K B) j = 0) := Lib.hid (fun j hj => by
            by_cases e : j = k
            · subst e; rw [hc, h0]
            · exact HA.out j (by omega))
          subst h0
          replace hf := Lib.hid hf
          clear hc
          go_wp2_with fail
          refine hf.out.mono ?_
          rintro e w2 ⟨rfl, hb⟩
          replace hBk := below_step hBk hb
          clear hb hf
          go_wp2_with fail
          go_roundw
          case rel => exact ⟨k + 1, by omega, by go_num, hBk, HN⟩
          case measure => simp [intOf]; omega
        · have HF : Hid (idxErr (enF n P V R K B) = (c, (k : Int))) := Lib.hid (by
            rw [HF1.out, firstE_hit (by rw [hc]; exact h0) HA.out hlt, hc]
            unfold orE
            rw [if_pos h0])
          have hc9 : (0 : Int) < (c : Int) := by omega
          replace hf := Lib.hid hf
          clear hc h0
          go_wp2_with fail
          refine hf.out.mono ?_
          rintro e w2 ⟨rfl, hb⟩
          have hB2 := below_step hBw hb
          obtain ⟨z0, z1, zf⟩ := hzk.below hb
          clear hb hf
          go_wp2_with fail
          refine bodyPost_ret (v := fltV (c, (k : Int))) (by simp [results, Tryz.results69, fltV, go_sem, *]) rfl ?_
          rw [HF.out]
          exact ⟨rfl, (hB2.setCell (p := ⟨w.heap.size, 0, none⟩) (Nat.le_refl _) _).setCell (p := ⟨w.heap.size, 1, none⟩) (Nat.le_refl _) _⟩
      · have HF2 : Hid (idxErr (enF n P V R K B) = firstE (lostE (enF n P V R K B)) n) := Lib.hid (by
          rw [HF1.out, firstE_none (fun j hj => HA.out j (by omega))]
          rfl)
        have hnk : ¬ (k : Int) < (n : Int) := by omega
        clear hlt HA hk
        go_wp2_with fail
        clear hnk
        generalize wr = wl at *
        go_loopw [5] (fun x wr => ∃ k : Nat, k ≤ n ∧ x = .int .i64 k ∧ Below wl.heap.size wl wr ∧ Hid (∀ j, j < k → lostE (enF n P V R K B) j = 0)) (fun x _ => n - (intOf x).toNat)
        case atStart => exact ⟨0, Nat.zero_le _, rfl, Below.refl _ _, Lib.hid (fun j hj => absurd hj (Nat.not_lt_zero _))⟩
        case round =>
          obtain ⟨k, hk, rfl, hBm, HA⟩ := hrel
          have hBx := below_step hBw hBm
          by_cases hlt : k < n
          · have hkn : (k : Int) < (n : Int) := by omega
            obtain ⟨b1, o1, ea, hcell⟩ := H.out.at_ k hlt
            obtain ⟨a1, n1, c1, P1, V1, e1, e2, _, _, hc1⟩ := H.out.reqs k hlt
            have hlen : n1 ≤ 1000000 := by
              have := (HSH.out.at_ hlt).2.2.2.1.1
              rw [e2, mdF_length] at this
              exact this
            have HL : Hid (lostE (enF n P V R K B) k = if (mdF n1 P1 V1).any (lost (enF n P V R K B)) then 5 else 0) := Lib.hid (by unfold lostE; rw [enAt_enF hlt, e2])
            rw [e1] at hcell
            have d2 := hcell.c2
            subst ea
            replace hc1 := Lib.hid hc1
            clear e1 e2 hcell
            go_wp2_with fail
            generalize hwo : wr = wo at *
            clear hwo
            go_loopw [6] (fun x wr => ∃ q : Nat, q ≤ n1 ∧ x = .int .i64 q ∧ Below wo.heap.size wo wr ∧ Hid (∀ j, j < q → lost (enF n P V R K B) ((P1 j).data.toList, (V1 j).data.toList) = false)) (fun x _ => n1 - (intOf x).toNat)
            case atStart => exact ⟨0, Nat.zero_le _, rfl, Below.refl _ _, Lib.hid (fun j hj => absurd hj (Nat.not_lt_zero _))⟩
            case round =>
              obtain ⟨q, hq, rfl, hBn, HA2⟩ := hrel
              have hBy := below_step hBx hBn
              have x2 := Below.cell_some hBy d2
              by_cases hlq : q < n1
              · have hqn : (q : Int) < (n1 : Int) := by omega
                obtain ⟨b2, o2, e3, y0, y1⟩ := hc1.out q hlq
                subst e3
                replace y0 := Below.cell_some hBy y0
                replace y1 := Below.cell_some hBy y1
                have hf := hfo.out (P1 q) (V1 q) wr hBy
                obtain ⟨x, hx⟩ : ∃ x, findE (enF n P V R K B) ((P1 q).data.toList, (V1 q).data.toList) = x := ⟨_, rfl⟩
                rw [hx] at hf
                by_cases h0 : x < 0
                · have HF : Hid (idxErr (enF n P V R K B) = (5, (k : Int))) := Lib.hid (by
                    have hR : lostE (enF n P V R K B) k = 5 := by
                      rw [HL.out, if_pos]
                      rw [List.any_eq_true]
                      refine ⟨_, List.mem_of_getElem? (mdF_get n1 P1 V1 q hlq), ?_⟩
                      unfold lost
                      rw [hx]
                      exact decide_eq_true h0
                    rw [HF2.out, firstE_hit (by rw [hR]; decide) HA.out hlt, hR])
                  have hzy := hz.below (below_step hBk (below_step hBm hBn))
                  replace hf := Lib.hid hf
                  clear hx hlen
                  go_wp2_with fail
                  refine hf.out.mono ?_
                  rintro e w2 ⟨rfl, hb⟩
                  have hB2 := below_step hBy hb
                  obtain ⟨z0, z1, zf⟩ := hzy.below hb
                  clear hb hf x2 y0 y1
                  go_wp2_with fail
                  refine bodyPost_ret (v := fltV (5, (k : Int))) (by simp [results, Tryz.results69, fltV, go_sem, *]) rfl ?_
                  rw [HF.out]
                  exact ⟨rfl, (hB2.setCell (p := ⟨w.heap.size, 0, none⟩) (Nat.le_refl _) _).setCell (p := ⟨w.heap.size, 1, none⟩) (Nat.le_refl _) _⟩
                · have HN : Hid (∀ j, j < q + 1 → lost (enF n P V R K B) ((P1 j).data.toList, (V1 j).data.toList) = false) := Lib.hid (fun j hj => by
                    by_cases e : j = q
                    · subst e; unfold lost; rw [hx]; exact decide_eq_false h0
                    · exact HA2.out j (by omega))
                  have hq0 : decide (x < 0) = false := decide_eq_false h0
                  replace hf := Lib.hid hf
                  clear hx h0
                  go_wp2_with fail
                  refine hf.out.mono ?_
                  rintro e w2 ⟨rfl, hb⟩
                  replace hBn := below_step hBn hb
                  clear hb hf x2 y0 y1
                  go_wp2_with fail
                  go_roundw
                  case rel => exact ⟨q + 1, by omega, by go_num, hBn, HN⟩
                  case measure => simp [intOf]; omega
              · have HN : Hid (∀ j, j < k + 1 → lostE (enF n P V R K B) j = 0) := Lib.hid (fun j hj => by
                  by_cases e : j = k
                  · subst e
                    rw [HL.out, any_mdF (fun i hi => HA2.out i (by omega))]
                    rfl
                  · exact HA.out j (by omega))
                have hnq : ¬ (q : Int) < (n1 : Int) := by omega
                replace hBm := below_step hBm hBn
                clear hlq hq
                go_wp2_with fail
                go_roundw
                case rel => exact ⟨k + 1, by omega, by go_num, hBm, HN⟩
                case measure => simp [intOf]; omega
          · have HF : Hid (idxErr (enF n P V R K B) = (0, -1)) := Lib.hid (by rw [HF2.out, firstE_none (fun j hj => HA.out j (by omega))])
            have hfi := fun W => refFine_calls W
            unfold fltV at hfi
            have hnk : ¬ (k : Int) < (n : Int) := by omega
            have hzy := hz.below (below_step hBk hBm)
            replace hfi := Lib.hid hfi
            clear hlt hk
            go_wp2_with fail
            refine (hfi.out _).mono ?_
            rintro e w2 ⟨rfl, hb⟩
            have hB2 := below_step hBx hb
            obtain ⟨z0, z1, zf⟩ := hzy.below hb
            clear hb hfi
            go_wp2_with fail
            refine bodyPost_ret (v := fltV (0, -1)) (by simp [results, Tryz.results69, fltV, go_sem, *]) rfl ?_
            rw [HF.out]
            exact ⟨rfl, (hB2.setCell (p := ⟨w.heap.size, 0, none⟩) (Nat.le_refl _) _).setCell (p := ⟨w.heap.size, 1, none⟩) (Nat.le_refl _) _⟩
end Go.Proofs.Pw

/- Plain mathematics of package mvs: the greatest of each path, joined, under. No program in sight. -/
namespace Go.Proofs.Pw
open Go.Lib hiding intOf

/-- one module more of those in order -/
def grow1 (out : List Md) (m : Md) : List Md := if out.getLast?.map (·.1) = some m.1 then out.dropLast ++ [m] else out ++ [m]
def greatest (l : List Md) : List Md := l.foldl grow1 []
theorem greatest_snoc (l : List Md) (m : Md) : greatest (l ++ [m]) = grow1 (greatest l) m := by simp [greatest]
/-- in order: each no greater than those behind it -/
def Climbs (l : List Md) : Prop := l.Pairwise fun a b => modCmp a b ≤ 0
theorem climbs_of_rises {l : List Md} (h : Rises modCmp l) : Climbs l := h.imp fun {a b} h => by omega
theorem modCmp_path {a b : Md} (h : modCmp a b ≤ 0) : compareBytes a.1 b.1 < 0 ∨ (a.1 = b.1 ∧ verCmp a.2 b.2 ≤ 0) := by
  unfold modCmp at h
  rw [orI_le] at h
  rcases h with h | ⟨h1, h2⟩
  · exact .inl h
  · exact .inr ⟨compareBytes_zero h1, h2⟩
theorem path_self (p : Str) : ¬ compareBytes p p < 0 := by rw [compareBytes_self]; decide

theorem last_some {α : Type} {l : List α} {y : α} (h : l.getLast? = some y) : ∃ hne : l ≠ [], l.getLast hne = y := by
  have hne : l ≠ [] := fun e => by rw [e] at h; cases h
  rw [List.getLast?_eq_some_getLast hne] at h
  exact ⟨hne, Option.some.inj h⟩
/-- what is good of the greatest of a list in order -/
structure Great (l out : List Md) : Prop where
  rise : out.Pairwise fun a b => compareBytes a.1 b.1 < 0
  sub : ∀ m ∈ out, m ∈ l
  over : ∀ m ∈ l, ∃ x ∈ out, x.1 = m.1 ∧ verCmp m.2 x.2 ≤ 0
theorem great_nil : Great [] [] := ⟨by simp, by simp, by simp⟩
theorem great_snoc {l out : List Md} {m : Md} (h : Great l out) (hc : Climbs (l ++ [m])) : Great (l ++ [m]) (grow1 out m) := by
  have hle : ∀ x ∈ l, modCmp x m ≤ 0 := fun x hx => (List.pairwise_append.1 hc).2.2 x hx m (by simp)
  have hself : verCmp m.2 m.2 ≤ 0 := by rw [verCmp_ord.self]; decide
  unfold grow1
  by_cases hl : out.getLast?.map (·.1) = some m.1
  · rw [if_pos hl]
    obtain ⟨y, hy, e⟩ : ∃ y, out.getLast? = some y ∧ y.1 = m.1 := by
      cases h1 : out.getLast? with
      | none => rw [h1] at hl; cases hl
      | some y => rw [h1] at hl; exact ⟨y, rfl, by simpa using hl⟩
    obtain ⟨hne, hlast⟩ := last_some hy
    have hout : out = out.dropLast ++ [y] := by rw [← hlast]; exact (List.dropLast_concat_getLast hne).symm
    have hp := h.rise
    rw [hout, List.pairwise_append] at hp
    refine ⟨?_, fun x hx => ?_, fun x hx => ?_⟩
    · rw [List.pairwise_append]
      refine ⟨hp.1, by simp, fun a ha b hb => ?_⟩
      simp at hb
      subst hb
      rw [← e]
      exact hp.2.2 a ha y (by simp)
    · rcases List.mem_append.1 hx with h1 | h1
      · exact List.mem_append.2 (.inl (h.sub x (List.dropLast_subset _ h1)))
      · exact List.mem_append.2 (.inr h1)
    · rcases List.mem_append.1 hx with h1 | h1
      · obtain ⟨z, hz, e1, e2⟩ := h.over x h1
        rw [hout] at hz
        rcases List.mem_append.1 hz with h2 | h2
        · exact ⟨z, List.mem_append.2 (.inl h2), e1, e2⟩
        · simp at h2
          subst h2
          refine ⟨m, by simp, by rw [← e, e1], ?_⟩
          rcases modCmp_path (hle x h1) with h3 | h3
          · rw [← e1, e] at h3
            exact absurd h3 (path_self _)
          · exact h3.2
      · simp at h1
        subst h1
        exact ⟨x, by simp, rfl, hself⟩
  · rw [if_neg hl]
    have hlt : ∀ a ∈ out, compareBytes a.1 m.1 < 0 := by
      intro a ha
      rcases modCmp_path (hle a (h.sub a ha)) with h1 | ⟨h1, _⟩
      · exact h1
      · exfalso
        obtain ⟨y, hy⟩ : ∃ y, out.getLast? = some y := by
          cases h2 : out.getLast? with
          | none => rw [List.getLast?_eq_none_iff] at h2; subst h2; simp at ha
          | some y => exact ⟨y, rfl⟩
        obtain ⟨hne, hlast⟩ := last_some hy
        have hout : out = out.dropLast ++ [y] := by rw [← hlast]; exact (List.dropLast_concat_getLast hne).symm
        have hym : y.1 ≠ m.1 := fun e => hl (by rw [hy]; simp [e])
        have hyl : y ∈ l := h.sub y (by rw [hout]; simp)
        rw [hout] at ha
        rcases List.mem_append.1 ha with h2 | h2
        · have hp := h.rise
          rw [hout, List.pairwise_append] at hp
          have h3 := hp.2.2 a h2 y (by simp)
          rcases modCmp_path (hle y hyl) with h4 | h4
          · rw [h1] at h3
            have := (compareBytes_ord.anti _ _).1 h3
            omega
          · exact hym h4.1
        · simp at h2
          subst h2
          exact hym h1
    refine ⟨?_, fun x hx => ?_, fun x hx => ?_⟩
    · rw [List.pairwise_append]
      exact ⟨h.rise, by simp, fun a ha b hb => by simp at hb; subst hb; exact hlt a ha⟩
    · rcases List.mem_append.1 hx with h1 | h1
      · exact List.mem_append.2 (.inl (h.sub x h1))
      · exact List.mem_append.2 (.inr h1)
    · rcases List.mem_append.1 hx with h1 | h1
      · obtain ⟨z, hz, e1, e2⟩ := h.over x h1
        exact ⟨z, List.mem_append.2 (.inl hz), e1, e2⟩
      · simp at h1
        subst h1
        exact ⟨x, by simp, rfl, hself⟩
theorem great_fold : ∀ (r l out : List Md), Great l out → Climbs (l ++ r) → Great (l ++ r) (r.foldl grow1 out)
  | [], l, out, h, _ => by simpa using h
  | m :: r, l, out, h, hc => by
    have e : l ++ m :: r = (l ++ [m]) ++ r := by simp
    rw [e] at hc ⊢
    exact great_fold r (l ++ [m]) (grow1 out m) (great_snoc h (List.pairwise_append.1 hc).1) hc
theorem great_of {l : List Md} (h : Climbs l) : Great l (greatest l) := great_fold l [] [] great_nil (by simpa using h)
theorem Great.rises {l out : List Md} (h : Great l out) : Rises modCmp out := h.rise.imp fun {a b} h => by
  unfold modCmp
  rw [orI_lt]
  exact .inl h
theorem Great.one {l out : List Md} (h : Great l out) {a b : Md} (ha : a ∈ out) (hb : b ∈ out) (e : a.1 = b.1) : a = b := RiseP.unique h.rise ha hb e
/-- which modules are in it -/
theorem Great.mem {l out : List Md} (h : Great l out) (hr : ∀ m ∈ l, mdErr m = 0) (m : Md) : m ∈ out ↔ m ∈ l ∧ ∀ x ∈ l, x.1 = m.1 → verCmp x.2 m.2 ≤ 0 := by
  constructor
  · intro hm
    refine ⟨h.sub m hm, fun x hx e => ?_⟩
    obtain ⟨z, hz, e1, e2⟩ := h.over x hx
    rw [h.one hz hm (e1.trans e)] at e2
    exact e2
  · rintro ⟨hm, h1⟩
    obtain ⟨z, hz, e1, e2⟩ := h.over m hm
    have h2 := h1 z (h.sub z hz) e1
    have h3 : verCmp m.2 z.2 = 0 := by
      have := verCmp_ord.anti z.2 m.2
      have := verCmp_ord.anti m.2 z.2
      omega
    have : m = z := modCmp_zero (hr m hm) (hr z (h.sub z hz)) (by unfold modCmp; rw [orI_eq, e1, compareBytes_self]; exact ⟨rfl, h3⟩)
    rw [this]; exact hz
/-- two lists in order of the same modules have the same greatest ones -/
theorem great_same {l m a b : List Md} (ha : Great l a) (hb : Great m b) (hl : ∀ x ∈ l, mdErr x = 0) (h : ∀ x, x ∈ l ↔ x ∈ m) : a = b :=
  rises_ext modCmp_ord ha.rises hb.rises fun x => by
    rw [ha.mem hl, hb.mem (fun x hx => hl x ((h x).2 hx)), h]
    exact ⟨fun ⟨h1, h2⟩ => ⟨h1, fun y hy => h2 y ((h y).2 hy)⟩, fun ⟨h1, h2⟩ => ⟨h1, fun y hy => h2 y ((h y).1 hy)⟩⟩

noncomputable def buildL (l : List En) (roots : List Md) : List Md := greatest (reachL l roots)
theorem RightG.great {l : List En} {roots : List Md} (h : RightG l roots) : Great (reachL l roots) (buildL l roots) := great_of (climbs_of_rises (reachL_rises h.idx roots))

/-! ### has, under -/
def hasB (sel : List Md) (m : Md) : Bool := decide (0 ≤ findI (hasP m.1) sel) && !verLess (mdAt sel (findI (hasP m.1) sel).toNat).2 m.2
def underB (a b : List Md) : Bool := a.all (hasB b)
theorem hasB_iff {sel : List Md} {m : Md} : hasB sel m = true ↔ ∃ k : Nat, findI (hasP m.1) sel = k ∧ verLess (mdAt sel k).2 m.2 = false := by
  unfold hasB
  rw [Bool.and_eq_true, decide_eq_true_iff]
  constructor
  · rintro ⟨h1, h2⟩
    exact ⟨(findI (hasP m.1) sel).toNat, by omega, by simpa using h2⟩
  · rintro ⟨k, h1, h2⟩
    rw [h1]
    exact ⟨by omega, by simpa using h2⟩
/-- in a selection whose paths rise -/
theorem hasB_rise {sel : List Md} (h : RiseP sel) {m : Md} : hasB sel m = true ↔ ∃ x ∈ sel, x.1 = m.1 ∧ verLess x.2 m.2 = false := by
  rw [hasB_iff]
  constructor
  · rintro ⟨k, h1, h2⟩
    obtain ⟨x, hx, hp⟩ := findI_spec h1
    have hl := (List.getElem?_eq_some_iff.1 hx).1
    rw [mdAt_get hl] at hx
    rw [Option.some.inj hx] at h2
    exact ⟨x, by rw [← Option.some.inj hx]; exact mdAt_mem hl, of_decide_eq_true hp, h2⟩
  · rintro ⟨x, hx, e, h2⟩
    have h0 : ¬ findI (hasP m.1) sel < 0 := fun hn => by
      have := findI_eq_none.1 hn x hx
      unfold hasP at this
      rw [decide_eq_false_iff_not] at this
      exact this e
    refine ⟨(findI (hasP m.1) sel).toNat, by omega, ?_⟩
    obtain ⟨y, hy, hp⟩ := findI_spec (show findI (hasP m.1) sel = ((findI (hasP m.1) sel).toNat : Nat) by omega)
    have hl := (List.getElem?_eq_some_iff.1 hy).1
    have hym := List.mem_of_getElem? hy
    rw [mdAt_get hl] at hy
    rw [Option.some.inj hy, h.unique hym hx ((of_decide_eq_true hp).trans e.symm)]
    exact h2
end Go.Proofs.Pw

/- Plain mathematics of package mvs: joined; what MvsJoins and MvsParts ask. No program in sight. -/
namespace Go.Proofs.Pw
open Go.Lib hiding intOf

theorem verLess_of_le {a b : Str} (h : verCmp b a ≤ 0) : verLess a b = false := by
  unfold verLess
  refine decide_eq_false (fun h1 => ?_)
  have := (verCmp_ord.anti a b).1 h1.2.2
  omega
theorem verLess_no {a b : Str} (ha : verErr a = 0) (hb : verErr b = 0) : verLess a b = false ↔ verCmp b a ≤ 0 := by
  unfold verLess
  rw [decide_eq_false_iff_not]
  have h0 := verCmp_ord.anti a b
  constructor
  · intro h
    by_cases h1 : verCmp a b < 0
    · exact absurd ⟨ha, hb, h1⟩ h
    · omega
  · rintro h ⟨_, _, h1⟩
    have := h0.1 h1
    omega
theorem great_self {x : List Md} (h : RiseP x) : Great x x := ⟨h, fun _ h => h, fun m hm => ⟨m, hm, rfl, by rw [verCmp_ord.self]; decide⟩⟩
theorem Great.under {l out : List Md} (h : Great l out) : underB l out = true := by
  unfold underB
  rw [List.all_eq_true]
  intro m hm
  obtain ⟨x, hx, e1, e2⟩ := h.over m hm
  rw [hasB_rise h.rise]
  exact ⟨x, hx, e1, verLess_of_le e2⟩
theorem under_sub {a b c : List Md} (h : ∀ m ∈ a, m ∈ b) (hb : underB b c = true) : underB a c = true := by
  unfold underB at *
  rw [List.all_eq_true] at *
  exact fun m hm => hb m (h m hm)
theorem under_mem {a c : List Md} : underB a c = true ↔ ∀ m ∈ a, hasB c m = true := by
  unfold underB
  rw [List.all_eq_true]
theorem le_trans3 {a b c : Str} (h1 : verCmp a b ≤ 0) (h2 : verCmp b c ≤ 0) : verCmp a c ≤ 0 := verCmp_ord.tr a b c h1 h2

/-! ### joined -/
def joinS (a b : List Md) : List Md := insAll modCmp ((a ++ b).filter fun m => decide (mdErr m = 0))
def joinL (a b : List Md) : List Md := greatest (joinS a b)
theorem joinS_mem {a b : List Md} {m : Md} : m ∈ joinS a b ↔ (m ∈ a ∨ m ∈ b) ∧ mdErr m = 0 := by
  unfold joinS; rw [insAll_mem, List.mem_filter, List.mem_append, decide_eq_true_iff]
theorem joinS_rises (a b : List Md) : Rises modCmp (joinS a b) := insAll_rises modCmp_ord (fun m => mdErr m = 0) (fun _ _ ha hb e => modCmp_zero ha hb e) _ (fun _ hm => of_decide_eq_true (List.mem_filter.1 hm).2)
theorem joinS_right {a b : List Md} : ∀ m ∈ joinS a b, mdErr m = 0 := fun _ hm => (joinS_mem.1 hm).2
theorem joinL_great (a b : List Md) : Great (joinS a b) (joinL a b) := great_of (climbs_of_rises (joinS_rises a b))
theorem joinL_right {a b : List Md} : ∀ m ∈ joinL a b, mdErr m = 0 := fun m hm => joinS_right m ((joinL_great a b).sub m hm)
/-- what is sorted and then taken greatest -/
theorem join_of {a b l : List Md} (hp : l.Perm ((a ++ b).filter fun m => decide (mdErr m = 0))) (hl : l.Pairwise fun a b => modCmp a b ≤ 0) : greatest l = joinL a b := by
  have hm : ∀ x, x ∈ l ↔ x ∈ joinS a b := fun x => by rw [hp.mem_iff, joinS_mem, List.mem_filter, List.mem_append, decide_eq_true_iff]
  exact great_same (great_of hl) (joinL_great a b) (fun x hx => joinS_right x ((hm x).1 hx)) hm
theorem join_comm (a b : List Md) : joinL a b = joinL b a :=
  great_same (joinL_great a b) (joinL_great b a) joinS_right (fun x => by rw [joinS_mem, joinS_mem, or_comm])
theorem join_self {x : List Md} (h : RiseP x) (hr : ∀ m ∈ x, mdErr m = 0) : joinL x x = x :=
  great_same (joinL_great x x) (great_self h) joinS_right (fun m => by rw [joinS_mem, or_self]; exact ⟨fun h => h.1, fun h => ⟨h, hr m h⟩⟩)
theorem join_len (a b : List Md) : (joinL a b).length ≤ (joinS a b).length := (List.Nodup.length_le_of_subset) (by
    have := (joinL_great a b).rises
    unfold Rises at this
    exact this.imp fun {x y} h e => by subst e; rw [modCmp_ord.self] at h; omega) (fun m hm => (joinL_great a b).sub m hm)

/-- what MvsJoins says of right ones -/
structure MjFacts (a b c : List Md) : Prop where
  comm : joinL b a = joinL a b
  under_a : underB a (joinL a b) = true
  under_b : underB b (joinL a b) = true
  again : joinL (joinL a b) (joinL a b) = joinL a b
  last : underB a c = true → underB b c = true → underB (joinL a b) c = true
theorem mjFacts {a b : List Md} (c : List Md) (ha : ∀ m ∈ a, mdErr m = 0) (hb : ∀ m ∈ b, mdErr m = 0) : MjFacts a b c := by
  refine ⟨join_comm b a, under_sub (fun m hm => joinS_mem.2 ⟨.inl hm, ha m hm⟩) (joinL_great a b).under, under_sub (fun m hm => joinS_mem.2 ⟨.inr hm, hb m hm⟩) (joinL_great a b).under, join_self (joinL_great a b).rise joinL_right, fun h1 h2 => ?_⟩
  rw [under_mem] at *
  intro m hm
  rcases (joinS_mem.1 ((joinL_great a b).sub m hm)).1 with h | h
  · exact h1 m h
  · exact h2 m h

/-- MvsParts -/
theorem join_parts {l : List En} {a b : List Md} (ha : RightG l a) (hb : RightG l b) (hab : RightG l (a ++ b)) : joinL (buildL l a) (buildL l b) = buildL l (a ++ b) := by
  have ga := ha.great
  have gb := hb.great
  have gab := hab.great
  have hr : ∀ m ∈ reachL l (a ++ b), mdErr m = 0 := fun m hm => hab.right (hab.mem.1 hm)
  have hra : ∀ m ∈ reachL l a, mdErr m = 0 := fun m hm => ha.right (ha.mem.1 hm)
  have hrb : ∀ m ∈ reachL l b, mdErr m = 0 := fun m hm => hb.right (hb.mem.1 hm)
  have hm : ∀ m, m ∈ reachL l (a ++ b) ↔ m ∈ reachL l a ∨ m ∈ reachL l b := fun m => by rw [hab.mem, ha.mem, hb.mem, reached_app]
  have hsub : ∀ m ∈ joinS (buildL l a) (buildL l b), m ∈ reachL l (a ++ b) := fun m h => by
    rw [hm]
    rcases (joinS_mem.1 h).1 with h | h
    · exact .inl (ga.sub m h)
    · exact .inr (gb.sub m h)
  refine rises_ext modCmp_ord (joinL_great _ _).rises gab.rises fun m => ?_
  rw [(joinL_great _ _).mem joinS_right, gab.mem hr]
  constructor
  · rintro ⟨h1, h2⟩
    refine ⟨hsub m h1, fun x hx e => ?_⟩
    rcases (hm x).1 hx with h | h
    · obtain ⟨z, hz, e1, e2⟩ := ga.over x h
      exact le_trans3 e2 (h2 z (joinS_mem.2 ⟨.inl hz, hra z (ga.sub z hz)⟩) (e1.trans e))
    · obtain ⟨z, hz, e1, e2⟩ := gb.over x h
      exact le_trans3 e2 (h2 z (joinS_mem.2 ⟨.inr hz, hrb z (gb.sub z hz)⟩) (e1.trans e))
  · rintro ⟨h1, h2⟩
    refine ⟨joinS_mem.2 ⟨?_, hr m h1⟩, fun x hx e => h2 x (hsub x hx) e⟩
    rcases (hm m).1 h1 with h | h
    · exact .inl ((ga.mem hra m).2 ⟨h, fun x hx e => h2 x ((hm x).2 (.inl hx)) e⟩)
    · exact .inr ((gb.mem hrb m).2 ⟨h, fun x hx e => h2 x ((hm x).2 (.inr hx)) e⟩)

/-! ### what is built -/
theorem build_right {l : List En} {roots : List Md} (h : RightG l roots) : ∀ m ∈ buildL l roots, mdErr m = 0 := fun m hm => h.right (h.mem.1 (h.great.sub m hm))
theorem build_mem {l : List En} {roots : List Md} (h : RightG l roots) (m : Md) : m ∈ buildL l roots ↔ Reached l roots m ∧ ∀ x, Reached l roots x → x.1 = m.1 → verCmp x.2 m.2 ≤ 0 := by
  rw [h.great.mem (fun m hm => h.right (h.mem.1 hm)), h.mem]
  exact ⟨fun ⟨h1, h2⟩ => ⟨h1, fun x hx => h2 x (h.mem.2 hx)⟩, fun ⟨h1, h2⟩ => ⟨h1, fun x hx => h2 x (h.mem.1 hx)⟩⟩
theorem build_over {l : List En} {roots : List Md} (h : RightG l roots) {m : Md} (hm : Reached l roots m) : ∃ x ∈ buildL l roots, x.1 = m.1 ∧ verCmp m.2 x.2 ≤ 0 := h.great.over m (h.mem.2 hm)
theorem build_reached {l : List En} {roots : List Md} (h : RightG l roots) {m : Md} (hm : m ∈ buildL l roots) : Reached l roots m := h.mem.1 (h.great.sub m hm)
/-- roots that are reached are right -/
theorem RightG.sub {l : List En} {A B : List Md} (hB : RightG l B) (h : ∀ m ∈ A, Reached l B m) : RightG l A := ⟨hB.idx, fun m hm => hB.entry (h m hm)⟩
theorem RightG.build {l : List En} {A : List Md} (h : RightG l A) : RightG l (buildL l A) := h.sub fun _ hm => build_reached h hm
theorem startErr_sub {l : List En} {A B : List Md} (h0 : (startErr l B).1 = 0) (h : ∀ m ∈ A, Reached l B m) : (startErr l A).1 = 0 := by
  have hB := rightG_of h0
  unfold startErr at *
  rw [orE_zero] at *
  exact ⟨h0.1, rootsErr_zero.2 fun m hm => hB.entry (h m hm)⟩
/-- more roots build no less -/
theorem build_under {l : List En} {A B : List Md} (hA : RightG l A) (hB : RightG l B) (h : ∀ m, Reached l A m → Reached l B m) : underB (buildL l A) (buildL l B) = true := by
  rw [under_mem]
  intro m hm
  obtain ⟨x, hx, e1, e2⟩ := build_over hB (h m (build_reached hA hm))
  rw [hasB_rise hB.great.rise]
  exact ⟨x, hx, e1, verLess_of_le e2⟩
/-- what is built of what is built -/
theorem build_again {l : List En} {A : List Md} (h : RightG l A) : buildL l (buildL l A) = buildL l A := by
  have hb := h.build
  refine rises_ext modCmp_ord hb.great.rises h.great.rises fun m => ?_
  have hr : ∀ x, Reached l (buildL l A) x → Reached l A x := fun x hx => reached_sub (fun y hy => build_reached h hy) hx
  rw [build_mem hb]
  constructor
  · rintro ⟨h1, h2⟩
    obtain ⟨z, hz, e1, e2⟩ := build_over h (hr m h1)
    have e3 := h2 z (.root hz) e1
    have : m = z := modCmp_zero (hb.right h1) (build_right h z hz) (by
      unfold modCmp
      rw [orI_eq, e1, compareBytes_self]
      have := verCmp_ord.anti m.2 z.2
      have := verCmp_ord.anti z.2 m.2
      exact ⟨rfl, by omega⟩)
    rw [this]; exact hz
  · intro hm
    have h3 := (build_mem h m).1 hm
    exact ⟨.root hm, fun x hx e => h3.2 x (hr x hx) e⟩
/-- what lies between two that build the same builds the same -/
theorem build_between {l : List En} {A B C : List Md} (hA : RightG l A) (hB : RightG l B) (hC : RightG l C) (h1 : ∀ m, Reached l A m → Reached l B m) (h2 : ∀ m, Reached l B m → Reached l C m) (he : buildL l A = buildL l C) : buildL l B = buildL l C := by
  refine rises_ext modCmp_ord hB.great.rises hC.great.rises fun m => ?_
  rw [build_mem hB]
  constructor
  · rintro ⟨h3, h4⟩
    obtain ⟨z, hz, e1, e2⟩ := build_over hC (h2 m h3)
    rw [← he] at hz
    have e3 := h4 z (h1 z (build_reached hA hz)) e1
    have : m = z := modCmp_zero (hB.right h3) (build_right hA z hz) (by
      unfold modCmp
      rw [orI_eq, e1, compareBytes_self]
      have := verCmp_ord.anti m.2 z.2
      have := verCmp_ord.anti z.2 m.2
      exact ⟨rfl, by omega⟩)
    rw [this, ← he]; exact hz
  · intro hm
    have h3 := (build_mem hC m).1 hm
    rw [← he] at hm
    exact ⟨h1 m (build_reached hA hm), fun x hx e => h3.2 x (h2 x hx) e⟩
end Go.Proofs.Pw

/- Rows of a call's own; faults by form. -/
namespace Go.Proofs.Pw
open Go.RowKit
open Go.Lib hiding intOf

theorem ownsRow_kept {w w' : World} {base e size n : Nat} {v : Value} {xs : List Value} (h : w.ownsRow base e size v n xs) (hb : Below w.heap.size w w') : w'.ownsRow base e size v n xs := by
  refine ⟨h.1, ?_⟩
  rcases h.2 with h2 | ⟨g, c, cur, h1, h2, h3, h4⟩
  · exact .inl h2
  · exact .inr ⟨g, c, cur, h1, h2, (hb.block g (Array.getElem?_eq_some_iff.1 h3).1).trans h3, h4⟩
theorem _root_.Go.World.ownsRow.below {w w' : World} {base e size n : Nat} {v : Value} {xs : List Value} (h : w.ownsRow base e size v n xs) (hb : Below w.heap.size w w') : w'.ownsRow base e size v n xs := ownsRow_kept h hb
theorem ownsRow_set {w : World} {base e k n b j : Nat} {v : Value} {xs : List Value} (h : w.ownsRow base e k v n xs) (hn : v.ownBlock ≠ some b) (u : Value) : (w.setCell ⟨b, j, none⟩ u).ownsRow base e k v n xs := by
  refine ⟨h.1, ?_⟩
  rcases h.2 with h2 | ⟨g, c, cur, rfl, h2, h3, h4⟩
  · exact .inl h2
  · have hg : g ≠ b := fun e => hn (by rw [e]; rfl)
    exact .inr ⟨g, c, cur, rfl, h2, (Go.Deep.blk_setCell_other _ _ _ _ hg).trans h3, h4⟩
theorem cell_two_new (w : World) (x y : ByteArray) (t : TypeId) : ∀ j u, ([.string x, .string y] : List Value)[j]? = some u → (w.alloc (.cells #[.string x, .string y] t)).cell? ((⟨w.heap.size, 0, none⟩ : Addr).add j) = some u :=
  World.news_of_block (cs := #[.string x, .string y]) (Go.Deep.blk_alloc_new w _)
theorem mdVs_snoc (l : List (ByteArray × ByteArray)) (x y : ByteArray) : mdVs l ++ [.string x, .string y] = mdVs (l ++ [(x, y)]) := by rw [mdVs_append]; rfl
theorem apart_row {u o : Value} (h : ∀ b, o.ownBlock = some b → u.ownBlock ≠ some b) : u.ownBlock = none ∨ u.ownBlock ≠ o.ownBlock := by
  by_cases hu : u.ownBlock = none
  · exact .inl hu
  · refine .inr (fun e => ?_)
    cases ho : o.ownBlock with
    | none => exact hu (e.trans ho)
    | some b => exact h b ho (e.trans ho)
theorem own_form {w : World} {base e k n : Nat} {v : Value} {xs : List Value} (h : w.ownsRow base e k v n xs) : ∃ a m c, v = .slice a m c := by
  rcases h.2 with ⟨rfl, _⟩ | ⟨g, cap, cur, rfl, _⟩
  · exact ⟨_, _, _, rfl⟩
  · exact ⟨_, _, _, rfl⟩
theorem own_ne {w : World} {base e k n b : Nat} {v : Value} {xs : List Value} (h : w.ownsRow base e k v n xs) (hb : b < base) : v.ownBlock ≠ some b := fun e => by
  have := (h.lt b e).1
  omega
theorem fault_form {A : Nat → Addr} {w : World} {v : Value} {r : Nat × Int} (h : FaultAt A w v r) : (r.1 = 0 ∧ v = .nilIface) ∨ (r.1 ≠ 0 ∧ ∃ t q, v = .iface t (.pointer q)) := by
  rcases h with h | h | ⟨h, b, rfl, _⟩
  · exact .inl ⟨h.1, h.2.2⟩
  · refine .inr ⟨h.1, ?_⟩
    rw [h.2.2, errV_pos A h.1]; exact ⟨_, _, rfl⟩
  · exact .inr ⟨h, _, _, rfl⟩
theorem ModsAt.cells {w : World} {v : Value} {l : List Md} (h : ModsAt w v l) : ∃ a c P V, v = .slice a l.length c ∧ l = mdF l.length P V ∧ ∀ j, j < l.length → ∃ b o, a = some ⟨b, o, none⟩ ∧ w.cell? ⟨b, o + j * 2, none⟩ = some (.string (P j)) ∧ w.cell? ⟨b, o + j * 2 + 1, none⟩ = some (.string (V j)) := by
  obtain ⟨a, n, cap, P, V, rfl, rfl, h3, h4, h5⟩ := h
  rw [mdF_length]
  exact ⟨a, cap, P, V, rfl, rfl, h5⟩
/-- the cells at a place -/
theorem ModsAt.cell {w : World} {v : Value} {l : List Md} {k : Nat} {p q : ByteArray} (h : ModsAt w v l) (hk : l[k]? = some (p.data.toList, q.data.toList)) : ∃ b o c, v = .slice (some ⟨b, o, none⟩) l.length c ∧ k < l.length ∧ w.cell? ⟨b, o + k * 2, none⟩ = some (.string p) ∧ w.cell? ⟨b, o + k * 2 + 1, none⟩ = some (.string q) := by
  obtain ⟨a, n, cap, P, V, rfl, rfl, h3, h4, h5⟩ := h
  have hl : k < n := by have := (List.getElem?_eq_some_iff.1 hk).1; rwa [mdF_length] at this
  obtain ⟨b, o, rfl, e1, e2⟩ := h5 k hl
  rw [mdF_get n P V k hl] at hk
  have := bytes_pair.1 (Option.some.inj hk)
  rw [this.1] at e1
  rw [this.2] at e2
  rw [mdF_length]
  exact ⟨b, o, cap, rfl, hl, e1, e2⟩
end Go.Proofs.Pw

/- OwnIndex of the statements. -/
namespace Go.Proofs.Pw
open Go.RowKit
open Go.Lib hiding intOf

set_option maxRecDepth 100000 in
theorem app_strs (w : World) (base : Nat) (hb : base ≤ w.heap.size) (v : Value) (l : List Str) (h : StrsAt w v l) (hl : l.length ≤ 1000000) :
    ∃ kv w', (Builtin.append_ #[41, 41] 41 #[.slice none 0 0, v]).run Tryz.prog w = .ok kv w' ∧ (∃ T, l = strTs T ∧ w'.ownsRow base 9 1 kv T.length (strVs T)) ∧ w.grownBy w' none := by
  obtain ⟨i0, hi, hz0, hz1, hz2⟩ := info_parts Tryz.infoString
  obtain ⟨a, n, cap, L, rfl, rfl, hnc, hcap, hc⟩ := h
  rw [lstF_length] at hl
  cases a with
  | none =>
    have hn0 : n = 0 := by
      rcases Nat.eq_zero_or_pos n with h | h
      · exact h
      · obtain ⟨b, o, e, _⟩ := hc 0 h
        cases e
    subst hn0
    exact ⟨_, w, run_append_nothing (P := Tryz.prog) w 41 41 41 9 i0 Tryz.underlying41 hi none 0 0 (Nat.le_refl _) (.slice none 0 cap) (Src.ofNil w Tryz.underlying41 cap), ⟨[], rfl, World.ownsRow_nil _ _ _ _⟩, World.grownBy.refl _ _⟩
  | some a =>
    have hnews : ∀ j u, (strVs ((List.range n).map L))[j]? = some u → w.cell? (a.add j) = some u := by
      intro j u hu
      have hj : j < n := by
        have := (List.getElem?_eq_some_iff.1 hu).1
        simpa [strVs] using this
      obtain ⟨b, o, e, h1⟩ := hc j hj
      injection e with e
      subst e
      have hu2 : u = .string (L j) := by
        simp [strVs, hj] at hu
        exact hu.symm
      rw [hu2, show (⟨b, o, none⟩ : Addr).add j = ⟨b, o + j, none⟩ from by unfold Addr.add; split <;> simp_all]
      exact h1
    obtain ⟨kv, w', h1, h2, h3, _⟩ := run_append_own (P := Tryz.prog) w base 41 41 9 i0 (.string ⟨#[]⟩) 1 16 Tryz.underlying41 hi hz0 hz1 hz2 rfl (by decide) (.slice none 0 0) 0 [] (World.ownsRow_nil _ _ _ _) a n cap (strVs ((List.range n).map L)) (by simp [strVs]) hnews (fun u hu => by
      simp [strVs] at hu
      obtain ⟨_, _, rfl⟩ := hu
      rfl) (by unfold maxLen; omega) (by omega) hb
    refine ⟨kv, w', h1, ⟨(List.range n).map L, by simp [strTs, lstF], ?_⟩, h3⟩
    simpa using h2

/-- the cells of entries -/
def ec (P V : Nat → ByteArray) (Rv Kv : Nat → Value) (B : Nat → Bool) (j : Nat) : List Value := [.string (P j), .string (V j), Rv j, Kv j, .bool (B j)]
def enVs (P V : Nat → ByteArray) (Rv Kv : Nat → Value) (B : Nat → Bool) (k : Nat) : List Value := (List.range k).flatMap (ec P V Rv Kv B)
theorem enVs_succ (P V Rv Kv B k) : enVs P V Rv Kv B (k + 1) = enVs P V Rv Kv B k ++ ec P V Rv Kv B k := by
  unfold enVs
  rw [List.range_succ, List.flatMap_append]
  simp
theorem enVs_length (P V Rv Kv B) : ∀ k, (enVs P V Rv Kv B k).length = k * 5
  | 0 => rfl
  | k + 1 => by rw [enVs_succ, List.length_append, enVs_length]; simp [ec]; omega
theorem enVs_get (P V Rv Kv B) : ∀ (k j c : Nat), j < k → c < 5 → (enVs P V Rv Kv B k)[j * 5 + c]? = (ec P V Rv Kv B j)[c]?
  | 0, j, c, h, _ => absurd h (Nat.not_lt_zero _)
  | k + 1, j, c, h, hc => by
    rw [enVs_succ]
    by_cases e : j = k
    · subst e
      rw [List.getElem?_append_right (by rw [enVs_length]; omega), enVs_length]
      congr 1; omega
    · rw [List.getElem?_append_left (by rw [enVs_length]; omega)]
      exact enVs_get P V Rv Kv B k j c (by omega) hc
theorem enVs_cong {P V : Nat → ByteArray} {Rv Kv Rv' Kv' : Nat → Value} {B : Nat → Bool} : ∀ {k : Nat}, (∀ j, j < k → Rv j = Rv' j ∧ Kv j = Kv' j) → enVs P V Rv Kv B k = enVs P V Rv' Kv' B k
  | 0, _ => rfl
  | k + 1, h => by
    rw [enVs_succ, enVs_succ, enVs_cong (k := k) (fun j hj => h j (by omega))]
    unfold ec
    rw [(h k (by omega)).1, (h k (by omega)).2]
/-- the rows that entries lead to -/
structure RowsE (w : World) (base k : Nat) (R : Nat → List Md) (K : Nat → List Str) (Rv Kv : Nat → Value) : Prop where
  r : ∀ j, j < k → ∃ M, R j = mdTs M ∧ w.ownsRow base 38 2 (Rv j) M.length (mdVs M)
  s : ∀ j, j < k → ∃ T, K j = strTs T ∧ w.ownsRow base 9 1 (Kv j) T.length (strVs T)
theorem tag_apart {w : World} {b b' s s' m m' : Nat} {e e' : TypeId} {u o : Value} {xs ys : List Value} (h : w.ownsRow b e s u m xs) (h2 : w.ownsRow b' e' s' o m' ys) (hne : e ≠ e') : u.ownBlock = none ∨ u.ownBlock ≠ o.ownBlock := by
  refine apart_row fun g hg hu => ?_
  rcases h.2 with ⟨rfl, _⟩ | ⟨g1, c1, cur1, rfl, _, k1, _⟩
  · cases hu
  · rcases h2.2 with ⟨rfl, _⟩ | ⟨g2, c2, cur2, rfl, _, k2, _⟩
    · cases hg
    · have e1 : g1 = g := Option.some.inj hu
      have e2 : g2 = g := Option.some.inj hg
      subst e1 e2
      rw [k1] at k2
      injection k2 with k2
      injection k2 with _ k3 _
      exact hne k3
theorem entsAt_own {w : World} {base n : Nat} {e : TypeId} {v : Value} {P V : Nat → ByteArray} {R : Nat → List Md} {K : Nat → List Str} {B : Nat → Bool} {Rv Kv : Nat → Value} (h : w.ownsRow base e 5 v n (enVs P V Rv Kv B n)) (hr : RowsE w base n R K Rv Kv) : EntsAt w v (enF n P V R K B) := by
  have hR : ∀ j, j < n → ModsAt w (Rv j) (R j) := fun j hj => by
    obtain ⟨M, e1, h1⟩ := hr.r j hj
    rw [e1]; exact modsAt_own h1
  have hK : ∀ j, j < n → StrsAt w (Kv j) (K j) := fun j hj => by
    obtain ⟨T, e1, h1⟩ := hr.s j hj
    rw [e1]; exact strsAt_own h1
  rcases h.2 with ⟨rfl, h0⟩ | ⟨g, cap, cur, rfl, hb, hg, hn, hm, hs, ht⟩
  · subst h0
    exact EntsAt.nil w
  · refine ⟨some ⟨g, 0, none⟩, n, cap, P, V, R, K, B, Rv, Kv, rfl, rfl, hn, by unfold maxLen at hm; exact hm, fun j hj => ⟨g, 0, rfl, ?_⟩, hR, hK⟩
    have hcell : ∀ c u, c < 5 → (ec P V Rv Kv B j)[c]? = some u → w.cell? ⟨g, 0 + j * 5 + c, none⟩ = some u := fun c u hc hu => by
      rw [← enVs_get P V Rv Kv B n j c hj hc, ← ht, List.getElem?_take, if_pos (by omega)] at hu
      rw [Nat.zero_add, cell_of_row w g _ cur e (0, 0) hg]
      simpa using hu
    exact ⟨hcell 0 _ (by decide) rfl, hcell 1 _ (by decide) rfl, hcell 2 _ (by decide) rfl, hcell 3 _ (by decide) rfl, hcell 4 _ (by decide) rfl⟩
theorem EntsIn.forms2 {w : World} {a n cap P V R K B Rv Kv} (h : EntsIn w a n cap P V R K B Rv Kv) {j : Nat} (hj : j < n) : ∃ a1 n1 c1 a2 n2 c2, Rv j = .slice a1 n1 c1 ∧ Kv j = .slice a2 n2 c2 := by
  obtain ⟨a1, n1, c1, _, _, e1, _⟩ := h.reqs j hj
  obtain ⟨a2, n2, c2, _, e2, _⟩ := h.packs j hj
  exact ⟨_, _, _, _, _, _, e1, e2⟩
theorem Tryz.infoEnt : (Tryz.prog.info? 43).map (fun i => (i.zero, i.size, i.bytes)) = some (some (.agg #[.string ⟨#[]⟩, .string ⟨#[]⟩, .slice none 0 0, .slice none 0 0, .bool false]), 5, 88) := by kernel_rfl

theorem wpList_append_run {P : Program} {w : World} {ops : Array Oper} {rest : List Oper} {o : Oper} {a : Act} {Q : Exit → Act → World → Prop} (hgd : o.guard = none) (s x : Operand) (t : TypeId)
    (ho : o.op = .call { callee := .builtin .append, args := #[s, x], argTypes := #[t, t] }) (v y : Value) (hs : a.eval s = v) (hx : a.eval x = y) (v' : Value) (w' : World)
    (hr : (Builtin.append_ #[t, t] o.type #[v, y]).run P w = .ok v' w') (h : wpList P ops Q rest (a.put o.dst v') w') : wpList P ops Q (o :: rest) a w :=
  wpList_plain hgd fun _ hK => by
    unfold Oper.wp execOp
    simp only [ho, resolve, invoke, builtin, Sem.run_bind, Sem.run_pure, Result.andThen_ok, List.map_toArray, List.map_cons, List.map_nil, hs, hx, hr]
    exact hK _ _ h
theorem World.ownsRow.mono_base {w : World} {b b' e s m : Nat} {u : Value} {xs : List Value} (h : w.ownsRow b e s u m xs) (hb : b' ≤ b) : w.ownsRow b' e s u m xs := by
  refine ⟨h.1, ?_⟩
  rcases h.2 with h2 | ⟨g, c, cur, h1, h2, h3⟩
  · exact .inl h2
  · exact .inr ⟨g, c, cur, h1, Nat.le_trans hb h2, h3⟩
theorem grown_none {v : Value} : v.ownBlock = none ∨ v.ownBlock ≠ none := by
  cases v.ownBlock with
  | none => exact .inl rfl
  | some b => exact .inr (fun h => by cases h)
set_option maxHeartbeats 4000000 in
set_option maxRecDepth 100000 in
theorem ownIndex_calls (v : Value) (l : List En) (w : World) (h : EntsAt w v l) (hn : l.length ≤ 1000) (hl : ∀ e ∈ l, e.reqs.length ≤ 100000 ∧ e.packs.length ≤ 100000) :
    Calls Tryz.prog 14 #[v] w fun e w' => (∃ v', e = .returned v' ∧ EntsAt w' v' l) ∧ Below w.heap.size w w' := by
  obtain ⟨i0, hi, hz0, hz1, hz2⟩ := info_parts Tryz.infoEnt
  obtain ⟨a, n, cap, P, V, R, K, B, Rv, Kv, rfl, rfl, hin⟩ := h
  rw [enF_length] at hn
  have H := Lib.hid hin
  have HL : Hid (∀ j, j < n → (R j).length ≤ 100000 ∧ (K j).length ≤ 100000) := Lib.hid (fun j hj => hl _ (List.mem_of_getElem? (enF_get n P V R K B j hj)))
  clear hl hin
  go_enter Tryz.func14, Tryz.ntmps14
  go_wp2_with fail
  go_loopw [3, 4] (fun o i wr => ∃ (k : Nat) (Rv' Kv' : Nat → Value), k ≤ n ∧ i = .int .i64 k ∧ Hid (wr.ownsRow w.heap.size 43 5 o k (enVs P V Rv' Kv' B k)) ∧ Hid (RowsE wr w.heap.size k R K Rv' Kv') ∧ Below w.heap.size w wr) (fun _ i _ => n - (intOf i).toNat)
  case atStart => exact ⟨0, Rv, Kv, Nat.zero_le _, rfl, Lib.hid (World.ownsRow_nil _ _ _ _), Lib.hid ⟨fun j hj => absurd hj (Nat.not_lt_zero _), fun j hj => absurd hj (Nat.not_lt_zero _)⟩, Below.refl _ _⟩
  case round =>
    obtain ⟨k, Rv', Kv', hk, rfl, hO, hRows, hBr⟩ := hrel
    by_cases hlt : k < n
    · have hkn : (k : Int) < (n : Int) := by omega
      obtain ⟨b1, o1, ea, hcell⟩ := (H.out.below hBr).at_ k hlt
      obtain ⟨a1, n1, s1, aK, nK, cK, e1, e2⟩ := H.out.forms2 hlt
      have hM := (H.out.below hBr).reqs k hlt
      have hS := (H.out.below hBr).packs k hlt
      rw [e1, e2] at hcell
      rw [e1] at hM
      rw [e2] at hS
      subst ea
      obtain ⟨c0, c1, c2, c3, c4⟩ := hcell
      have hba := below_alloc wr (.cells #[.string (P k), .string (V k), .slice a1 n1 s1, .slice aK nK cK, .bool (B k)] 43)
      have x0 : (wr.alloc (.cells #[.string (P k), .string (V k), .slice a1 n1 s1, .slice aK nK cK, .bool (B k)] 43)).cell? ⟨wr.heap.size, 0, none⟩ = some (.string (P k)) := by simp
      have x1 : (wr.alloc (.cells #[.string (P k), .string (V k), .slice a1 n1 s1, .slice aK nK cK, .bool (B k)] 43)).cell? ⟨wr.heap.size, 1, none⟩ = some (.string (V k)) := by simp
      have x2 : (wr.alloc (.cells #[.string (P k), .string (V k), .slice a1 n1 s1, .slice aK nK cK, .bool (B k)] 43)).cell? ⟨wr.heap.size, 2, none⟩ = some (.slice a1 n1 s1) := by simp
      have x3 : (wr.alloc (.cells #[.string (P k), .string (V k), .slice a1 n1 s1, .slice aK nK cK, .bool (B k)] 43)).cell? ⟨wr.heap.size, 3, none⟩ = some (.slice aK nK cK) := by simp
      have x4 : (wr.alloc (.cells #[.string (P k), .string (V k), .slice a1 n1 s1, .slice aK nK cK, .bool (B k)] 43)).cell? ⟨wr.heap.size, 4, none⟩ = some (.bool (B k)) := by simp
      have xf : ∀ i, (wr.alloc (.cells #[.string (P k), .string (V k), .slice a1 n1 s1, .slice aK nK cK, .bool (B k)] 43)).frozen? ⟨wr.heap.size, i, none⟩ = false := fun i => by simp
      have hom := ownMods_calls (.slice a1 n1 s1) (R k) (wr.alloc (.cells #[.string (P k), .string (V k), .slice a1 n1 s1, .slice aK nK cK, .bool (B k)] 43)) (hM.below hba) (by have := (HL.out k hlt).1; omega)
      have hszN : (wr.alloc (.cells #[.string (P k), .string (V k), .slice a1 n1 s1, .slice aK nK cK, .bool (B k)] 43)).heap.size = wr.heap.size + 1 := by simp
      replace hom := Lib.hid hom
      clear hM e1 e2
      go_wp2_with fail
      generalize wr.alloc (.cells #[.string (P k), .string (V k), .slice a1 n1 s1, .slice aK nK cK, .bool (B k)] 43) = w1 at *
      refine hom.out.mono ?_
      rintro e w2 ⟨⟨v', rfl, _, M, hRM, hoM⟩, hb2⟩
      obtain ⟨aM, nM, cM, rfl⟩ := own_form hoM
      have hs1 := hba.size
      have hs2 := hb2.size
      have hNlt : wr.heap.size < w2.heap.size := by omega
      replace x0 := Below.cell_some hb2 x0
      replace x1 := Below.cell_some hb2 x1
      replace x2 := Below.cell_some hb2 x2
      replace x3 := Below.cell_some hb2 x3
      replace x4 := Below.cell_some hb2 x4
      replace xf := fun i => (hb2.frozen (p := ⟨wr.heap.size, i, none⟩) (show wr.heap.size < w1.heap.size by omega)).trans (xf i)
      have neM := own_ne (b := wr.heap.size) hoM (by omega)
      have hS3 : StrsAt (w2.setCell ⟨wr.heap.size, 2, none⟩ (.slice aM nM cM)) (.slice aK nK cK) (K k) := by
        obtain ⟨a', n', cap', L', q1, q2, q3, q4, q5⟩ := hS
        refine ⟨a', n', cap', L', q1, q2, q3, q4, fun j hj => ?_⟩
        obtain ⟨b, o, e, c⟩ := q5 j hj
        refine ⟨b, o, e, ?_⟩
        have : b < wr.heap.size := lt_of_cell c
        rw [set_blk _ (by omega)]
        exact Below.cell_some hb2 (Below.cell_some hba c)
      obtain ⟨kv, w4, hap, ⟨T, hKT, hoK⟩, hg4⟩ := app_strs (w2.setCell ⟨wr.heap.size, 2, none⟩ (.slice aM nM cM)) w2.heap.size (by simp) (.slice aK nK cK) (K k) hS3 (by have := (HL.out k hlt).2; omega)
      obtain ⟨aq, nq, cq, rfl⟩ := own_form hoK
      have neK := own_ne (b := wr.heap.size) hoK hNlt
      have hs4 := hg4.size
      have hs3 : (w2.setCell ⟨wr.heap.size, 2, none⟩ (.slice aM nM cM)).heap.size = w2.heap.size := by simp
      have hsome : ∀ k : Nat, some k ≠ (none : Option Nat) := fun k h => by cases h
      have u0 := hg4.cell ((set_off (.slice aM nM cM) (by decide)).trans x0) (hsome _)
      have u1 := hg4.cell ((set_off (.slice aM nM cM) (by decide)).trans x1) (hsome _)
      have u2 := hg4.cell (set_same (.slice aM nM cM) x2) (hsome _)
      have u3 := hg4.cell ((set_off (.slice aM nM cM) (by decide)).trans x3) (hsome _)
      have u4 := hg4.cell ((set_off (.slice aM nM cM) (by decide)).trans x4) (hsome _)
      have uf : ∀ i, w4.frozen? ⟨wr.heap.size, i, none⟩ = false := fun i => (hg4.frozen_far ⟨wr.heap.size, i, none⟩ (show wr.heap.size < _ by rw [hs3]; exact hNlt) (hsome _)).trans (by simp [xf i])
      have t0 := (set_off (w := w4) (b := wr.heap.size) (k := 3) (.slice aq nq cq) (by decide)).trans u0
      have t1 := (set_off (w := w4) (b := wr.heap.size) (k := 3) (.slice aq nq cq) (by decide)).trans u1
      have t2 := (set_off (w := w4) (b := wr.heap.size) (k := 3) (.slice aq nq cq) (by decide)).trans u2
      have t3 := set_same (.slice aq nq cq) u3
      have t4 := (set_off (w := w4) (b := wr.heap.size) (k := 3) (.slice aq nq cq) (by decide)).trans u4
      have chain : ∀ (b e s m : Nat) (u : Value) (xs : List Value), w2.ownsRow b e s u m xs → u.ownBlock ≠ some wr.heap.size → (w4.setCell ⟨wr.heap.size, 3, none⟩ (.slice aq nq cq)).ownsRow b e s u m xs := fun _ _ _ _ _ _ h hne => ownsRow_set ((ownsRow_set h hne _).kept hg4 grown_none) hne _
      have old : ∀ (b e s m : Nat) (u : Value) (xs : List Value), wr.ownsRow b e s u m xs → (w4.setCell ⟨wr.heap.size, 3, none⟩ (.slice aq nq cq)).ownsRow b e s u m xs := fun _ _ _ _ _ _ h => chain _ _ _ _ _ _ (ownsRow_kept (ownsRow_kept h hba) hb2) (fun e => by have := (h.lt _ e).2; omega)
      have hO5 := old _ _ _ _ _ _ hO.out
      have hoM5 := chain _ _ _ _ _ _ hoM neM
      have hoK5 := ownsRow_set (b := wr.heap.size) (j := 3) hoK neK (.slice aq nq cq)
      have hsz5 : (w4.setCell ⟨wr.heap.size, 3, none⟩ (.slice aq nq cq)).heap.size = w4.heap.size := by simp
      have hnew := World.news_of_block (cs := #[.string (P k), .string (V k), .slice aM nM cM, .slice aq nq cq, .bool (B k)]) (Go.Deep.blk_alloc_new (w4.setCell ⟨wr.heap.size, 3, none⟩ (.slice aq nq cq)) (.cells #[.string (P k), .string (V k), .slice aM nM cM, .slice aq nq cq, .bool (B k)] 43))
      rw [hsz5] at hnew
      have hB5 : Below w.heap.size w (w4.setCell ⟨wr.heap.size, 3, none⟩ (.slice aq nq cq)) := by
        have hsw := hBr.size
        have h1 : Below w.heap.size w w2 := hBr.trans ((below_step hba hb2).mono hsw)
        have h2 : Below w.heap.size w (w2.setCell ⟨wr.heap.size, 2, none⟩ (.slice aM nM cM)) := h1.setCell (p := ⟨wr.heap.size, 2, none⟩) hsw _
        exact (h2.grown hg4 (by rw [hs3]; omega) (fun k hk => by cases hk)).setCell (p := ⟨wr.heap.size, 3, none⟩) hsw _
      have hbase5 : w.heap.size ≤ w4.heap.size := by have := hB5.size; rw [hsz5] at this; exact this
      have z3 := (set_off (w := w2) (b := wr.heap.size) (k := 2) (.slice aM nM cM) (by decide)).trans x3
      have HR := Lib.hid (And.intro hRM hKT)
      have HO := Lib.hid (And.intro hO5 (And.intro hoM5 (And.intro hoK5 hnew)))
      have HOLD := Lib.hid old
      have HAP := Lib.hid hap
      clear hap hS3 hS hO hoM hoK hg4 hRM hKT hnew hO5 hoM5 hoK5 chain old x0 x1 x3 x4 hom hsome neM neK hba hb2 c0 c1 c2 c3 c4 u0 u1 u2 u4
      go_wp2_with (at_builtin; first | (refine wpList_append_run rfl _ _ 41 rfl _ _ rfl rfl _ _ HAP.out ?_) | (refine wpList_append_own _ rfl _ _ 22 rfl w.heap.size 43 i0 (.agg #[.string ⟨#[]⟩, .string ⟨#[]⟩, .slice none 0 0, .slice none 0 0, .bool false]) 5 88 Tryz.underlying22 hi hz0 hz1 hz2 rfl (by decide) _ _ _ rfl (HO.out.1.alloc _) ⟨w4.heap.size, 0, none⟩ 1 1 [.string (P k), .string (V k), .slice aM nM cM, .slice aq nq cq, .bool (B k)] rfl rfl HO.out.2.2.2 (by intro u hu; simp at hu; rcases hu with rfl | rfl | rfl | rfl | rfl <;> rfl) (by unfold maxLen; omega) (by omega) (by simp; omega) ?_; intro o' w6 hown6 hgrow6 _))
      go_roundw
      case rel =>
        have hkeep : ∀ (b e s m : Nat) (u : Value) (xs : List Value), (w4.setCell ⟨wr.heap.size, 3, none⟩ (.slice aq nq cq)).ownsRow b e s u m xs → e ≠ 43 → w6.ownsRow b e s u m xs := fun _ _ _ _ _ _ h hne =>
          (h.alloc _).kept hgrow6 (tag_apart (h.alloc (.cells #[.string (P k), .string (V k), .slice aM nM cM, .slice aq nq cq, .bool (B k)] 43)) (HO.out.1.alloc _) hne)
        refine ⟨k + 1, fun j => if j = k then .slice aM nM cM else Rv' j, fun j => if j = k then .slice aq nq cq else Kv' j, by omega, by go_num, Lib.hid ?_, Lib.hid ⟨fun j hj => ?_, fun j hj => ?_⟩, ?_⟩
        · have h1 : enVs P V (fun j => if j = k then .slice aM nM cM else Rv' j) (fun j => if j = k then .slice aq nq cq else Kv' j) B (k + 1) = enVs P V Rv' Kv' B k ++ [.string (P k), .string (V k), .slice aM nM cM, .slice aq nq cq, .bool (B k)] := by
            rw [enVs_succ, enVs_cong (Rv' := Rv') (Kv' := Kv') (fun j hj => ⟨if_neg (by omega), if_neg (by omega)⟩)]
            simp [ec]
          rw [h1]
          exact hown6
        · by_cases e : j = k
          · subst e
            refine ⟨M, HR.out.1, ?_⟩
            rw [if_pos rfl]
            exact (World.ownsRow.mono_base (hkeep _ _ _ _ _ _ HO.out.2.1 (by decide)) (by have := hBr.size; omega))
          · obtain ⟨M', q1, q2⟩ := hRows.out.r j (by omega)
            refine ⟨M', q1, ?_⟩
            rw [if_neg e]
            exact hkeep _ _ _ _ _ _ (HOLD.out _ _ _ _ _ _ q2) (by decide)
        · by_cases e : j = k
          · subst e
            refine ⟨T, HR.out.2, ?_⟩
            rw [if_pos rfl]
            exact (World.ownsRow.mono_base (hkeep _ _ _ _ _ _ HO.out.2.2.1 (by decide)) (by have := hBr.size; omega))
          · obtain ⟨M', q1, q2⟩ := hRows.out.s j (by omega)
            refine ⟨M', q1, ?_⟩
            rw [if_neg e]
            exact hkeep _ _ _ _ _ _ (HOLD.out _ _ _ _ _ _ q2) (by decide)
        · exact (hB5.alloc (by rw [hsz5]; exact hbase5) _).grown hgrow6 (by simp; omega) (fun q hq => (HO.out.1.lt q hq).1)
      case measure => simp [intOf]; omega
    · obtain rfl : n = k := by omega
      have hfin : EntsAt wr _ (enF n P V R K B) := entsAt_own hO.out hRows.out
      replace hfin := Lib.hid hfin
      go_wp2_with fail
      go_ret
      exact ⟨⟨_, rfl, hfin.out⟩, hBr⟩
end Go.Proofs.Pw

/- append of a slice of modules to a row of one's own. -/
namespace Go.Proofs.Pw
open Go.RowKit
open Go.Lib hiding intOf

theorem app_mods (w : World) (base : Nat) (hb : base ≤ w.heap.size) (o v : Value) (L : List (ByteArray × ByteArray)) (l : List Md) (ho : w.ownsRow base 38 2 o L.length (mdVs L)) (h : ModsAt w v l) (hL : L.length ≤ 1000000) (hl : l.length ≤ 1000000) :
    ∃ o' w', (Builtin.append_ #[23, 23] 23 #[o, v]).run Tryz.prog w = .ok o' w' ∧ (∃ L', mdTs L' = mdTs L ++ l ∧ w'.ownsRow base 38 2 o' L'.length (mdVs L')) ∧ w.grownBy w' o.ownBlock := by
  obtain ⟨i0, hi, hz0, hz1, hz2⟩ := info_parts Tryz.infoMod
  obtain ⟨a, n, cap, P, V, rfl, rfl, hnc, hcap, hc⟩ := h
  rw [mdF_length] at hl
  cases a with
  | none =>
    have hn0 : n = 0 := by
      rcases Nat.eq_zero_or_pos n with h | h
      · exact h
      · obtain ⟨b, o, e, _⟩ := hc 0 h
        cases e
    subst hn0
    have hform : ∃ a m c, o = .slice a m c ∧ m ≤ c := by
      rcases ho.2 with ⟨rfl, _⟩ | ⟨g, c, cur, rfl, _, _, h1, _⟩
      · exact ⟨_, _, _, rfl, Nat.le_refl _⟩
      · exact ⟨_, _, _, rfl, h1⟩
    obtain ⟨ao, m, c, rfl, hmc⟩ := hform
    exact ⟨_, w, run_append_nothing (P := Tryz.prog) w 23 23 23 38 i0 Tryz.underlying23 hi ao m c hmc (.slice none 0 cap) (Src.ofNil w Tryz.underlying23 cap), ⟨L, by simp [mdF], ho⟩, World.grownBy.refl _ _⟩
  | some a =>
    have hnews : ∀ j u, (mdVs (mdL n P V))[j]? = some u → w.cell? (a.add j) = some u := by
      rcases Nat.eq_zero_or_pos n with h | h
      · subst h
        intro j u hu
        simp [mdL, mdVs] at hu
      · obtain ⟨b, o, e, _⟩ := hc 0 h
        injection e with e
        subst e
        exact mods_cells (fun j hj => by
          obtain ⟨b', o', e, h1, h2⟩ := hc j hj
          injection e with e
          injection e with e1 e2 _
          subst e1 e2
          exact ⟨h1, h2⟩)
    obtain ⟨kv, w', h1, h2, h3, _⟩ := run_append_own (P := Tryz.prog) w base 23 23 38 i0 (.agg #[.string ⟨#[]⟩, .string ⟨#[]⟩]) 2 32 Tryz.underlying23 hi hz0 hz1 hz2 rfl (by decide) o L.length (mdVs L) ho a n cap (mdVs (mdL n P V)) (by rw [mdVs_length, mdL_length]) hnews mdVs_one (by unfold maxLen; omega) (by omega) hb
    refine ⟨kv, w', h1, ⟨L ++ mdL n P V, by rw [← mdL_ts]; simp [mdTs], ?_⟩, h3⟩
    rw [mdVs_append, List.length_append, mdL_length]
    exact h2
end Go.Proofs.Pw

/- Rows of elements of k cells: copy, clear; slices.Clone at []api.Mod. -/
namespace Go.Proofs.Pw
open Go.RowKit
open Go.Lib hiding intOf

theorem grownBy_setRow (w : World) (g : Nat) (cs : Array Value) : w.grownBy (w.setRow g cs) (some g) :=
  ⟨rfl, rfl, rfl, by simp [World.setRow], fun k _ hk => setRow_other w g k cs (by rintro rfl; exact hk rfl)⟩
theorem grownBy_undrawn {w w1 : World} {r : Option Nat} (h : w.drew.grownBy w1 r) : w.grownBy w1 r := ⟨h.os, h.tape, h.output, h.size, h.block⟩
theorem grownBy_trans {w w1 w2 : World} {r : Option Nat} (h : w.grownBy w1 r) (k : w1.grownBy w2 r) : w.grownBy w2 r :=
  ⟨k.os.trans h.os, k.tape.trans h.tape, k.output.trans h.output, Nat.le_trans h.size k.size, fun i hi hr => (k.block i (Nat.lt_of_lt_of_le hi h.size) hr).trans (h.block i hi hr)⟩
theorem grownBy_below {w w1 : World} (r : Option Nat) (h : Below w.heap.size w w1) : w.grownBy w1 r := ⟨h.os, h.tape, h.output, h.size, fun k hk _ => h.block k hk⟩
/-- a slice of modules in another row stays -/
theorem ModsAt.grownBy {w w' : World} {v : Value} {l : List Md} {r : Option Nat} (h : ModsAt w v l) (hg : w.grownBy w' r) (hr : ∀ q n m, v = .slice (some q) n m → some q.block ≠ r) : ModsAt w' v l := by
  obtain ⟨a, n, cap, P, V, rfl, h2, h3, h4, h5⟩ := h
  refine ⟨a, n, cap, P, V, rfl, h2, h3, h4, fun j hj => ?_⟩
  obtain ⟨b, o, rfl, e1, e2⟩ := h5 j hj
  have hb : some b ≠ r := hr _ _ _ rfl
  exact ⟨b, o, rfl, hg.cell e1 hb, hg.cell e2 hb⟩
theorem run_copy_rowK {P : Program} (w : World) (dT sT ty elem : TypeId) (k g o dLen dCap : Nat) (a : Addr) (sLen sCap : Nat) (cur : Array Value) (t : TypeId) (cs : List Value)
    (hu : P.underlying dT = some (.slice elem)) (hs : (P.info? elem).map (·.size) = some k) (hg : w.heap[g]? = some (.cells cur t (0, 0))) (hn : cs.length = Nat.min sLen dLen * k)
    (hsrc : ∀ j v, cs[j]? = some v → w.cell? (a.add j) = some v) (hfit : o + cs.length ≤ cur.size) (h1 : ∀ v ∈ cs, v.oneCell' = true) :
    (Builtin.copy_ #[dT, sT] ty #[.slice (some ⟨g, o, none⟩) dLen dCap, .slice (some a) sLen sCap]).run P w =
      .ok (goInt (Nat.min sLen dLen)) (w.setRow g (splice cur.toList o cs).toArray) := by
  have hl := run_loadCells_list (P := P) w a cs hsrc
  have hst := run_storeCells_at P g o t cs 0 cur w hg (by simpa using hfit) h1
  cases hq : P.info? elem with
  | none => simp [hq] at hs
  | some i =>
    have hi : i.size = k := by simpa [hq] using hs
    simp [Builtin.copy_, run_underlying hu, Builtin.lenOf, Builtin.firstCells, sizeOf, typeInfo, hq, hi, ← hn, hl, hst, splice]

theorem wp_copyK {P : Program} {w : World} {o : Oper} {a : Act} {K : Act → World → Prop} {Q : Exit → Act → World → Prop} (d s : Operand) (dT sT : TypeId)
    (ho : o.op = .call { callee := .builtin .copy, args := #[d, s], argTypes := #[dT, sT] }) (elem : TypeId) (hu : P.underlying dT = some (.slice elem)) (k : Nat) (hsz : (P.info? elem).map (·.size) = some k)
    (g off dLen dCap : Nat) (ad : Addr) (sLen sCap : Nat) (hd : a.eval d = .slice (some ⟨g, off, none⟩) dLen dCap) (hs : a.eval s = .slice (some ad) sLen sCap)
    (cur : List Value) (t : TypeId) (hg : w.heap[g]? = some (.cells cur.toArray t (0, 0))) (cs : List Value) (hn : cs.length = Nat.min sLen dLen * k)
    (hsrc : ∀ j v, cs[j]? = some v → w.cell? (ad.add j) = some v) (hfit : off + cs.length ≤ cur.length) (h1 : ∀ v ∈ cs, v.oneCell' = true) (B : Nat) (w0 : World) (hb : Below B w0 w) (hBg : B ≤ g)
    (h : ∀ w', Hid (w'.heap[g]? = some (.cells (splice cur off cs).toArray t (0, 0))) → Below B w0 w' → Hid (w.grownBy w' (some g)) → K (a.put o.dst (goInt (Nat.min sLen dLen))) w') : o.wp P a w K Q := by
  have hrun := run_copy_rowK (P := P) w dT sT o.type elem k g off dLen dCap ad sLen sCap cur.toArray t cs hu hsz hg hn hsrc (by simpa using hfit) h1
  unfold Oper.wp
  simp [execOp, ho, resolve, invoke, builtin, hd, hs, hrun, Result.andThen]
  exact h _ (show _ = _ by simpa using setRow_heap w g _ _ t _ hg) (below_setRow hb hBg _) (Lib.hid (grownBy_setRow w g _))

theorem wpList_copyK {P : Program} {w : World} {ops : Array Oper} {rest : List Oper} {o : Oper} {a : Act} {Q : Exit → Act → World → Prop} (hgd : o.guard = none) (d s : Operand) (dT sT : TypeId)
    (ho : o.op = .call { callee := .builtin .copy, args := #[d, s], argTypes := #[dT, sT] }) (elem : TypeId) (hu : P.underlying dT = some (.slice elem)) (k : Nat) (hsz : (P.info? elem).map (·.size) = some k)
    (g off dLen dCap : Nat) (ad : Addr) (sLen sCap : Nat) (hd : a.eval d = .slice (some ⟨g, off, none⟩) dLen dCap) (hs : a.eval s = .slice (some ad) sLen sCap)
    (cur : List Value) (t : TypeId) (hg : w.heap[g]? = some (.cells cur.toArray t (0, 0))) (cs : List Value) (hn : cs.length = Nat.min sLen dLen * k)
    (hsrc : ∀ j v, cs[j]? = some v → w.cell? (ad.add j) = some v) (hfit : off + cs.length ≤ cur.length) (h1 : ∀ v ∈ cs, v.oneCell' = true) (B : Nat) (w0 : World) (hb : Below B w0 w) (hBg : B ≤ g)
    (h : ∀ w', Hid (w'.heap[g]? = some (.cells (splice cur off cs).toArray t (0, 0))) → Below B w0 w' → Hid (w.grownBy w' (some g)) → wpList P ops Q rest (a.put o.dst (goInt (Nat.min sLen dLen))) w') : wpList P ops Q (o :: rest) a w :=
  wpList_plain hgd fun _ hK => wp_copyK d s dT sT ho elem hu k hsz g off dLen dCap ad sLen sCap hd hs cur t hg cs hn hsrc hfit h1 B w0 hb hBg fun w' a b c => hK _ _ (h w' a b c)

theorem step_copyK {P : Program} {ops : Array Oper} {o : Oper} {a : Act} {w : World} {K : Act → World → Prop} {Q : Exit → Act → World → Prop} {E : Prop} (hgd : o.guard = none) (d s : Operand) (dT sT : TypeId)
    (ho : o.op = .call { callee := .builtin .copy, args := #[d, s], argTypes := #[dT, sT] }) (elem : TypeId) (hu : P.underlying dT = some (.slice elem)) (k : Nat) (hsz : (P.info? elem).map (·.size) = some k)
    (g off dLen dCap : Nat) (ad : Addr) (sLen sCap : Nat) (hd : a.eval d = .slice (some ⟨g, off, none⟩) dLen dCap) (hs : a.eval s = .slice (some ad) sLen sCap)
    (cur : List Value) (t : TypeId) (hg : w.heap[g]? = some (.cells cur.toArray t (0, 0))) (cs : List Value) (hn : cs.length = Nat.min sLen dLen * k)
    (hsrc : ∀ j v, cs[j]? = some v → w.cell? (ad.add j) = some v) (hfit : off + cs.length ≤ cur.length) (h1 : ∀ v ∈ cs, v.oneCell' = true) (B : Nat) (w0 : World) (hb : Below B w0 w) (hBg : B ≤ g)
    (h : ∀ w', Hid (w'.heap[g]? = some (.cells (splice cur off cs).toArray t (0, 0))) → Below B w0 w' → Hid (w.grownBy w' (some g)) → K (a.put o.dst (goInt (Nat.min sLen dLen))) w') :
    if Region.wanted o (yielded ops a.tmps) = true then Oper.wp P o a w K Q else E := by
  have hw : Region.wanted o (yielded ops a.tmps) = true := by simp [Region.wanted, hgd]
  rw [if_pos hw]
  exact wp_copyK d s dT sT ho elem hu k hsz g off dLen dCap ad sLen sCap hd hs cur t hg cs hn hsrc hfit h1 B w0 hb hBg h

theorem splice_length {α : Type} {L cs : List α} {o : Nat} (h : o + cs.length ≤ L.length) : (splice L o cs).length = L.length := by
  unfold splice; simp; omega
/-- what is laid at o is there -/
theorem splice_get {α : Type} {L cs : List α} {o : Nat} (h : o + cs.length ≤ L.length) (j : Nat) : (splice L o cs)[j]? = if o ≤ j ∧ j < o + cs.length then cs[j - o]? else L[j]? := by
  unfold splice
  by_cases h1 : j < o
  · rw [List.getElem?_append_left (by simp; omega), List.getElem?_take, if_pos h1, if_neg (by omega)]
  · rw [List.getElem?_append_right (by simp; omega)]
    simp only [List.length_take]
    rw [show j - min o L.length = j - o by omega]
    by_cases h2 : j < o + cs.length
    · rw [List.getElem?_append_left (by omega), if_pos (by omega)]
    · rw [List.getElem?_append_right (by omega), if_neg (by omega), List.getElem?_drop]
      congr 1; omega

/-! ### slices.Clone -/
set_option maxHeartbeats 2000000 in
set_option maxRecDepth 100000 in
theorem cloneM_calls (v : Value) (l : List Md) (w : World) (h : ModsAt w v l) (hl : l.length ≤ 1000000) :
    Calls Tryz.prog 83 #[v] w fun e w' => ∃ v' L, e = .returned v' ∧ l = mdTs L ∧ w'.ownsRow w.heap.size 38 2 v' L.length (mdVs L) ∧ Below w.heap.size w w' := by
  obtain ⟨i0, hi, hz0, hz1, hz2⟩ := info_parts Tryz.infoMod
  obtain ⟨a, n, cap, P, V, rfl, rfl, hnc, hcap, hc⟩ := h
  rw [mdF_length] at hl
  cases a with
  | none =>
    have hn0 : n = 0 := by
      rcases Nat.eq_zero_or_pos n with h | h
      · exact h
      · obtain ⟨b, o, e, _⟩ := hc 0 h
        cases e
    subst hn0
    clear hc
    have hq := fun (w : World) (a : Option Addr) (n c n' c' : Nat) => Lib.run_eql_slice_nil (P := Tryz.prog) w _ _ a n c n' c' Tryz.underlying23
    go_enter Tryz.func83, Tryz.ntmps83
    go_wp2_with fail
    go_ret
    exact ⟨_, [], rfl, rfl, World.ownsRow_nil _ _ _ _, Below.refl _ _⟩
  | some a =>
    have hc2 : ∃ news, news.length = n * 2 ∧ (∀ j u, news[j]? = some u → w.cell? (a.add j) = some u) ∧ news = mdVs (mdL n P V) := by
      refine ⟨_, by rw [mdVs_length, mdL_length], ?_, rfl⟩
      rcases Nat.eq_zero_or_pos n with h | h
      · subst h
        intro j u hu
        simp [mdL, mdVs] at hu
      · obtain ⟨b, o, e, _⟩ := hc 0 h
        injection e with e
        subst e
        exact mods_cells (fun j hj => by
          obtain ⟨b', o', e, h1, h2⟩ := hc j hj
          injection e with e
          injection e with e1 e2 _
          subst e1 e2
          exact ⟨h1, h2⟩)
    obtain ⟨news, hn1, hn2, hn3⟩ := hc2
    have HN := Lib.hid hn3
    have H2 := Lib.hid hn2
    have hq := fun (w : World) (a : Option Addr) (n c n' c' : Nat) => Lib.run_eql_slice_nil (P := Tryz.prog) w _ _ a n c n' c' Tryz.underlying23
    clear hc hn3 hn2
    go_enter Tryz.func83, Tryz.ntmps83
    go_wp2_with (at_builtin; refine wpList_append_own _ rfl _ _ 23 rfl w.heap.size 38 i0 (.agg #[.string ⟨#[]⟩, .string ⟨#[]⟩]) 2 32 Tryz.underlying23 hi hz0 hz1 hz2 rfl (by decide) _ _ _ rfl (World.ownsRow_made w #[] 0 (Nat.le_refl _) (Nat.zero_le _) (by simp)) a n cap news rfl hn1 (fun j u hu => Lib.cell?_alloc_some _ (H2.out j u hu)) (by rw [HN.out]; exact mdVs_one) (by unfold maxLen; omega) (by omega) (by simp) ?_; intro v' w1 hown1 hgrow1 _)
    go_ret
    have ho : w1.ownsRow w.heap.size 38 2 v' (mdL n P V).length (mdVs (mdL n P V)) := by
      rw [mdL_length, ← HN.out]
      simpa using hown1
    exact ⟨v', mdL n P V, rfl, (mdL_ts n P V).symm, ho, ((Below.refl _ w).alloc (Nat.le_refl _) _).grown hgrow1 (by simp) (fun k hk => by cases hk; exact Nat.le_refl _)⟩
end Go.Proofs.Pw

/- slices.Insert of one module into a row of the caller's own. -/
namespace Go.Proofs.Pw
open Go.RowKit
open Go.Lib hiding intOf

theorem ins_grow {α : Type} {Z A pq D : List α} {o : Nat} (hA : A.length = o) (hl : o + pq.length + D.length ≤ A.length + Z.length) : (splice (splice (A ++ Z) o pq) (o + pq.length) D).take (o + pq.length + D.length) = A ++ (pq ++ D) := by
  subst hA
  have e1 : splice (A ++ Z) A.length pq = A ++ (pq ++ Z.drop pq.length) := by
    unfold splice
    rw [List.take_left', List.drop_append, List.drop_eq_nil_of_le (by omega)]
    · simp
    · rfl
  rw [e1]
  unfold splice
  have e2 : (A ++ (pq ++ Z.drop pq.length)).take (A.length + pq.length) = A ++ pq := by
    rw [← List.append_assoc]
    exact List.take_left' (by simp)
  rw [e2, ← List.append_assoc (A ++ pq), List.take_left' (by simp; omega), List.append_assoc]
theorem ins_shift {α : Type} {cur X pq : List α} {o n : Nat} (hX : cur.take n = X) (hn : X.length = n) (ho : o ≤ n) (hl : n + pq.length ≤ cur.length) : (splice (splice cur (o + pq.length) (X.drop o)) o pq).take (n + pq.length) = X.take o ++ (pq ++ X.drop o) := by
  have hd : (X.drop o).length = n - o := by rw [List.length_drop, hn]
  apply List.ext_getElem?
  intro j
  rw [List.getElem?_take]
  by_cases hj : j < n + pq.length
  · rw [if_pos hj, splice_get (by rw [splice_length (by omega)]; omega)]
    by_cases h1 : o ≤ j ∧ j < o + pq.length
    · rw [if_pos h1, List.getElem?_append_right (by simp; omega), List.getElem?_append_left (by simp; omega)]
      congr 1
      simp; omega
    · rw [if_neg h1, splice_get (by omega)]
      by_cases h2 : j < o
      · rw [if_neg (by omega), List.getElem?_append_left (by simp; omega), List.getElem?_take, if_pos h2, ← hX, List.getElem?_take, if_pos (by omega)]
      · rw [if_pos (by omega), List.getElem?_append_right (by simp; omega), List.getElem?_append_right (by simp; omega)]
        congr 1
        simp; omega
  · rw [if_neg hj, List.getElem?_eq_none (by simp; omega)]

theorem mdVs_take : ∀ (l : List (ByteArray × ByteArray)) (i : Nat), mdVs (l.take i) = (mdVs l).take (i * 2)
  | [], i => by simp [mdVs]
  | a :: r, 0 => by simp [mdVs]
  | a :: r, i + 1 => by
    have ih := mdVs_take r i
    have e : mdVs (a :: r) = .string a.1 :: .string a.2 :: mdVs r := rfl
    have e2 : mdVs (a :: r.take i) = .string a.1 :: .string a.2 :: mdVs (r.take i) := rfl
    rw [List.take_succ_cons, e, e2, ih, show (i + 1) * 2 = i * 2 + 1 + 1 by omega, List.take_succ_cons, List.take_succ_cons]
theorem mdVs_drop : ∀ (l : List (ByteArray × ByteArray)) (i : Nat), mdVs (l.drop i) = (mdVs l).drop (i * 2)
  | [], i => by simp [mdVs]
  | a :: r, 0 => by simp [mdVs]
  | a :: r, i + 1 => by
    have ih := mdVs_drop r i
    have e : mdVs (a :: r) = .string a.1 :: .string a.2 :: mdVs r := rfl
    rw [List.drop_succ_cons, e, ih, show (i + 1) * 2 = i * 2 + 1 + 1 by omega, List.drop_succ_cons, List.drop_succ_cons]
theorem mdVs_ins (l : List (ByteArray × ByteArray)) (i : Nat) (p q : ByteArray) : mdVs (l.take i ++ (p, q) :: l.drop i) = (mdVs l).take (i * 2) ++ ([.string p, .string q] ++ (mdVs l).drop (i * 2)) := by
  rw [mdVs_append, mdVs_take, ← mdVs_drop]; rfl

/-- what Insert hands back -/
def InsOut (base : Nat) (v : Value) (L : List (ByteArray × ByteArray)) (w : World) (e : Ending) (w' : World) : Prop :=
  ∃ v', e = .returned v' ∧ w'.ownsRow base 38 2 v' L.length (mdVs L) ∧ Below base w w' ∧ w.grownBy w' v.ownBlock

theorem pq_cells {w : World} {vb : Nat} {p q : ByteArray} (hv : w.heap[vb]? = some (.cells #[.string p, .string q] 38 (0, 0))) : ∀ j u, ([.string p, .string q] : List Value)[j]? = some u → w.cell? ((⟨vb, 0, none⟩ : Addr).add j) = some u :=
  World.news_of_block (cs := #[.string p, .string q]) hv



theorem zeroCells_len (z : Array Value) (h : z.size = 2) (n : Nat) : (Builtin.zeroCells z n).toList.length = n * 2 := by
  simp [Builtin.zeroCells, h]


end Go.Proofs.Pw

/- slices.Delete of one module out of a row of the caller's own. -/
namespace Go.Proofs.Pw
open Go.RowKit
open Go.Lib hiding intOf

theorem run_clear_rowK {P : Program} (w : World) (t e ty : TypeId) (z : Value) (k : Nat) (ht : P.underlying t = some (.slice e)) (hv : ∀ w, (zeroValue e).run P w = .ok z w) (hz : (Builtin.zeroCells z.cells k).toList.length = k * 2) (h1 : ∀ u ∈ (Builtin.zeroCells z.cells k).toList, u.oneCell' = true) (g o c : Nat) (hk : 0 < k) (cur : Array Value) (et : TypeId) (hg : w.heap[g]? = some (.cells cur et (0, 0))) (hfit : o + k * 2 ≤ cur.size) :
    (Builtin.clear_ #[t] ty #[.slice (some ⟨g, o, none⟩) k c]).run P w = .ok (.tuple #[]) (w.setRow g (splice cur.toList o (Builtin.zeroCells z.cells k).toList).toArray) := by
  have hst := run_storeCells_at P g o et (Builtin.zeroCells z.cells k).toList 0 cur w hg (by rw [hz]; simpa using hfit) h1
  simp only [Nat.add_zero] at hst
  obtain ⟨m, rfl⟩ : ∃ m, k = m + 1 := ⟨k - 1, by omega⟩
  simp [Builtin.clear_, run_underlying ht, hv, hst, splice]

theorem wpList_clearK {P : Program} {w : World} {ops : Array Oper} {rest : List Oper} {o : Oper} {a : Act} {Q : Exit → Act → World → Prop} (hgd : o.guard = none) (d : Operand) (t : TypeId)
    (ho : o.op = .call { callee := .builtin .clear, args := #[d], argTypes := #[t] }) (e : TypeId) (z : Value) (k : Nat) (ht : P.underlying t = some (.slice e)) (hv : ∀ w, (zeroValue e).run P w = .ok z w) (hz : (Builtin.zeroCells z.cells k).toList.length = k * 2) (h1 : ∀ u ∈ (Builtin.zeroCells z.cells k).toList, u.oneCell' = true) (g off c : Nat) (hk : 0 < k) (hd : a.eval d = .slice (some ⟨g, off, none⟩) k c)
    (cur : List Value) (et : TypeId) (hg : w.heap[g]? = some (.cells cur.toArray et (0, 0))) (hfit : off + k * 2 ≤ cur.length) (B : Nat) (w0 : World) (hb : Below B w0 w) (hBg : B ≤ g)
    (h : ∀ w', Hid (w'.heap[g]? = some (.cells (splice cur off (Builtin.zeroCells z.cells k).toList).toArray et (0, 0))) → Below B w0 w' → Hid (w.grownBy w' (some g)) → wpList P ops Q rest (a.put o.dst (.tuple #[])) w') : wpList P ops Q (o :: rest) a w := by
  refine wpList_plain hgd fun K hK => ?_
  have hrun := run_clear_rowK (P := P) w t e o.type z k ht hv hz h1 g off c hk cur.toArray et hg (by simpa using hfit)
  unfold Oper.wp
  simp [execOp, ho, resolve, invoke, builtin, hd, hrun, Result.andThen]
  exact hK _ _ (h _ (show _ = _ by simpa using setRow_heap w g _ _ et _ hg) (below_setRow hb hBg _) (Lib.hid (grownBy_setRow w g _)))

theorem step_appendK {P : Program} {ops : Array Oper} {o : Oper} {a : Act} {w : World} {K : Act → World → Prop} {Q : Exit → Act → World → Prop} {E : Prop} (hgd : o.guard = none) (d s : Operand) (t : TypeId)
    (ho : o.op = .call { callee := .builtin .append, args := #[d, s], argTypes := #[t, t] }) (e : TypeId) (i : TypeInfo) (k : Nat) (ht : P.underlying t = some (.slice e)) (hi : P.info? e = some i) (hk : i.size = k)
    (g n cap : Nat) (ad : Addr) (m c : Nat) (hd : a.eval d = .slice (some ⟨g, 0, none⟩) n cap) (hs : a.eval s = .slice (some ad) m c)
    (cur : List Value) (hg : w.heap[g]? = some (.cells cur.toArray e (0, 0))) (cs : List Value) (hn : cs.length = m * k)
    (hsrc : ∀ j v, cs[j]? = some v → w.cell? (ad.add j) = some v) (hroom : n + m ≤ cap) (hfit : n * k + cs.length ≤ cur.length) (h1 : ∀ v ∈ cs, v.oneCell' = true) (B : Nat) (w0 : World) (hb : Below B w0 w) (hBg : B ≤ g)
    (h : ∀ w', Hid (w'.heap[g]? = some (.cells (splice cur (n * k) cs).toArray e (0, 0))) → Below B w0 w' → Hid (w.grownBy w' (some g)) → K (a.put o.dst (.slice (some ⟨g, 0, none⟩) (n + m) cap)) w') :
    if Region.wanted o (yielded ops a.tmps) = true then Oper.wp P o a w K Q else E := by
  have hw : Region.wanted o (yielded ops a.tmps) = true := by simp [Region.wanted, hgd]
  rw [if_pos hw]
  subst hk
  have hrun := run_append_room (P := P) w t o.type e i ht hi g n cap cur.toArray hg ad m c cs hn hsrc h1 hroom (by simpa using hfit)
  unfold Oper.wp
  simp [execOp, ho, resolve, invoke, builtin, hd, hs, hrun, Result.andThen]
  exact h _ (show _ = _ by simpa [splice] using setRow_heap w g _ _ e _ hg) (below_setRow hb hBg _) (Lib.hid (grownBy_setRow w g _))

theorem del_take {α : Type} {cur X Y : List α} {o n d : Nat} (hX : cur.take n = X) (hn : X.length = n) (ho : o + d ≤ n) (hl : n ≤ cur.length) (hY : Y.length = d) : (splice (splice cur o (X.drop (o + d))) (n - d) Y).take (n - d) = X.take o ++ X.drop (o + d) := by
  have hd : (X.drop (o + d)).length = n - (o + d) := by rw [List.length_drop, hn]
  apply List.ext_getElem?
  intro j
  rw [List.getElem?_take]
  by_cases hj : j < n - d
  · rw [if_pos hj, splice_get (by rw [splice_length (by omega)]; omega), if_neg (by omega), splice_get (by omega)]
    by_cases h2 : j < o
    · rw [if_neg (by omega), List.getElem?_append_left (by simp; omega), List.getElem?_take, if_pos h2, ← hX, List.getElem?_take, if_pos (by omega)]
    · rw [if_pos (by omega), List.getElem?_append_right (by simp; omega)]
      congr 1
      simp; omega
  · rw [if_neg hj, List.getElem?_eq_none (by simp; omega)]
theorem mdVs_del (l : List (ByteArray × ByteArray)) (i : Nat) : mdVs (l.take i ++ l.drop (i + 1)) = (mdVs l).take (i * 2) ++ (mdVs l).drop (i * 2 + 2) := by
  rw [mdVs_append, mdVs_take, mdVs_drop, show (i + 1) * 2 = i * 2 + 2 by omega]

set_option maxHeartbeats 4000000 in
set_option maxRecDepth 100000 in
theorem deleteM_calls (base : Nat) (v : Value) (L : List (ByteArray × ByteArray)) (i : Nat) (w : World) (hown : w.ownsRow base 38 2 v L.length (mdVs L)) (hi : i < L.length) (hl : L.length ≤ 1000000) :
    Calls Tryz.prog 84 #[v, .int .i64 i, .int .i64 ((i + 1 : Nat) : Int)] w (InsOut base v (L.take i ++ L.drop (i + 1)) w) := by
  rcases hown.2 with ⟨rfl, h0⟩ | ⟨g, cap, cur, rfl, hbg, hg, hn, hm, hs, ht⟩
  · omega
  · obtain ⟨i0, hi0, hz0, hz1, hz2⟩ := info_parts Tryz.infoMod
    have mixed : Tryz.prog.follows Departure.mixedOrders = true := by kernel_rfl
    unfold maxLen at hm
    have hXl : (mdVs L).length = L.length * 2 := mdVs_length L
    have hdl : ((mdVs L).drop (i * 2 + 2)).length = (L.length - (i + 1)) * 2 := by rw [List.length_drop, hXl]; omega
    obtain ⟨A, hA, hsrc⟩ : ∃ A : Addr, (if cap = i + 1 then some (⟨g, 0, none⟩ : Addr) else some ⟨g, (i + 1) * 2, none⟩) = some A ∧ ∀ j v, ((mdVs L).drop (i * 2 + 2))[j]? = some v → w.cell? (A.add j) = some v := by
      by_cases h : cap = i + 1
      · refine ⟨⟨g, 0, none⟩, by simp [h], fun j v hj => ?_⟩
        have := (List.getElem?_eq_some_iff.1 hj).1
        omega
      · refine ⟨⟨g, (i + 1) * 2, none⟩, by simp [h], fun j v hj => ?_⟩
        rw [List.getElem?_drop] at hj
        have hjl := (List.getElem?_eq_some_iff.1 hj).1
        rw [Addr.add_lit, cell_of_row w g _ cur _ (0, 0) hg]
        rw [← ht, List.getElem?_take, if_pos (by omega)] at hj
        rw [show (i + 1) * 2 + j = i * 2 + 2 + j by omega]
        simpa using hj
    have hg' : w.heap[g]? = some (.cells cur.toList.toArray 38 (0, 0)) := by rw [Array.toArray_toList]; exact hg
    have hcl : cur.toList.length = cap * 2 := by simp [hs]
    have hzl := zeroCells_len (Value.agg #[.string ⟨#[]⟩, .string ⟨#[]⟩]).cells rfl 1
    have hz1c : ∀ u ∈ (Builtin.zeroCells (Value.agg #[.string ⟨#[]⟩, .string ⟨#[]⟩]).cells 1).toList, u.oneCell' = true := by
      intro u hu
      have e : (Builtin.zeroCells (Value.agg #[.string ⟨#[]⟩, .string ⟨#[]⟩]).cells 1).toList = [.string ⟨#[]⟩, .string ⟨#[]⟩] := by kernel_rfl
      rw [e] at hu
      simp at hu
      rw [hu]; rfl
    have hfit1 : i * 2 + ((mdVs L).drop (i * 2 + 2)).length ≤ cur.toList.length := by omega
    have hfit2 : (L.length - 1) * 2 + 1 * 2 ≤ (splice cur.toList (i * 2) ((mdVs L).drop (i * 2 + 2))).length := by rw [splice_length hfit1]; omega
    have hfin := del_take (cur := cur.toList) (X := mdVs L) (Y := (Builtin.zeroCells (Value.agg #[.string ⟨#[]⟩, .string ⟨#[]⟩]).cells 1).toList) (o := i * 2) (n := L.length * 2) (d := 2) ht hXl (by omega) (by omega) hzl
    have hV := mdVs_del L i
    have hlen2 : (L.take i ++ L.drop (i + 1)).length = L.length - 1 := by simp; omega
    have h1D : ∀ v ∈ (mdVs L).drop (i * 2 + 2), v.oneCell' = true := fun v hv => mdVs_one v (List.mem_of_mem_drop hv)
    generalize hY : (Builtin.zeroCells (Value.agg #[.string ⟨#[]⟩, .string ⟨#[]⟩]).cells 1).toList = Y at hfin hzl
    have HY := Lib.hid hY
    have hzv : ∀ w, (zeroValue 38).run Tryz.prog w = .ok (.agg #[.string ⟨#[]⟩, .string ⟨#[]⟩]) w := Tryz.zeroValue38
    have hb1 : ¬ ((i : Int) = (i : Int) + 1) := by omega
    have hb2 : (i : Int) + 1 ≤ (L.length : Int) := by omega
    have hb3 : (0 : Int) ≤ (i : Int) + 1 := by omega
    have hb4 : ((i : Int) + 1).toNat = i + 1 := by omega
    have hb5 : ¬ (cap = L.length - 1) := by omega
    have hb6 : i + (L.length - (i + 1)) = L.length - 1 := by omega
    have hb7 : (L.length : Int) ≤ (cap : Int) := by omega
    have hb8 : ((L.length - 1 : Nat) : Int) ≤ (L.length : Int) := by omega
    have hb9 : L.length - (L.length - 1) = 1 := by omega
    have hb10 : i ≤ cap := by omega
    have hb11 : i + 1 ≤ cap := by omega
    have hb12 : (i : Int) + 1 ≤ (cap : Int) := by omega
    have HG := Lib.hid hg'
    have HM := Lib.hid (And.intro hfit1 (And.intro hfit2 (And.intro hsrc (And.intro hdl h1D))))
    have HF := Lib.hid (And.intro hfin (And.intro hV (And.intro hlen2 (And.intro hcl hzl))))
    have HZ := Lib.hid hz1c
    generalize hD : (mdVs L).drop (i * 2 + 2) = D at *
    generalize hX : mdVs L = X at *
    generalize hNN : L.length = n at *
    clear hown hg hg' hfit1 hfit2 hsrc hdl h1D hfin hV hlen2 hcl hzl hY hz1c hX hD hs ht hXl
    go_enter Tryz.func84, Tryz.ntmps84
    go_wp2_with fail
    go_region_law_o (refine step_appendK rfl (.tmp 22) (.tmp 25) 23 rfl 38 i0 2 Tryz.underlying23 hi0 hz1 g i cap A (n - (i + 1)) (cap - (i + 1)) (by simp [Act.eval, Act.put]) (by simp [Act.eval, Act.put]) cur.toList HG.out D HM.out.2.2.2.1 HM.out.2.2.1 (by omega) HM.out.1 HM.out.2.2.2.2 base w (Below.refl _ _).drew hbg ?_; intro w4 hg4 hb14 hc14; rw [hb6])
    go_wp2_with (refine wpList_clearK rfl _ 23 rfl 38 (.agg #[.string ⟨#[]⟩, .string ⟨#[]⟩]) 1 Tryz.underlying23 hzv (zeroCells_len _ rfl 1) HZ.out g ((n - 1) * 2) _ (by decide) rfl _ 38 hg4.out HM.out.2.1 base w hb14 hbg ?_; intro w5 hg5 hb15 hc15)
    go_ret
    have hg5 := hg5.out
    rw [HY.out] at hg5
    refine ⟨_, rfl, ⟨by rw [mdVs_length], .inr ⟨g, cap, _, by rw [HF.out.2.2.1]; rfl, hbg, hg5, by rw [HF.out.2.2.1]; omega, by unfold maxLen; omega, ?_, ?_⟩⟩, hb15, grownBy_trans (w1 := w4) (grownBy_undrawn hc14.out) hc15.out⟩
    · have h1 := splice_length HM.out.1
      have h2 := splice_length (L := splice cur.toList (i * 2) D) (cs := Y) (o := (n - 1) * 2) (by have := HM.out.2.1; rw [HF.out.2.2.2.2]; exact this)
      rw [h1, HF.out.2.2.2.1] at h2
      simpa using h2
    · rw [HF.out.2.2.1, HF.out.2.1, ← HF.out.1]
      simp only []
      rw [show (n - 1) * 2 = n * 2 - 2 by omega]
end Go.Proofs.Pw

/- slices.Grow at modules: the kit's contract laid by hand; slices.Concat of two slices of modules; slices.DeleteFunc of modules out of a row of one's own. -/
namespace Go.Proofs.Pw
open Go.RowKit
open Go.Lib hiding intOf

/-! ### a module laid into a row of one's own -/
theorem ownsRow_set1 {w : World} {base e k g cap m n j : Nat} {xs : List Value} (h : w.ownsRow base e k (.slice (some ⟨g, 0, none⟩) m cap) n xs) (u : Value) : (w.setCell ⟨g, j, none⟩ u).ownsRow base e k (.slice (some ⟨g, 0, none⟩) m cap) n (xs.set j u) := by
  refine ⟨by rw [List.length_set]; exact h.1, ?_⟩
  rcases h.2 with ⟨h2, _⟩ | ⟨g', c', cur, e1, hb, hg, hn, hm, hcs, ht⟩
  · cases h2
  · injection e1 with e1 e2 e3
    injection e1 with e1
    injection e1 with e1
    subst e1 e2 e3
    refine .inr ⟨g, cap, cur.setIfInBounds j u, rfl, hb, ?_, hn, hm, by simpa using hcs, ?_⟩
    · simp [World.setCell, Array.getElem?_modify, hg]
    · rw [Array.toList_setIfInBounds, List.take_set, ht]
theorem mdVs_set : ∀ (L : List (ByteArray × ByteArray)) (i : Nat) (x y : ByteArray), mdVs (L.set i (x, y)) = ((mdVs L).set (i * 2) (.string x)).set (i * 2 + 1) (.string y)
  | [], i, x, y => by simp [mdVs]
  | a :: r, 0, x, y => by simp [mdVs]
  | a :: r, i + 1, x, y => by
    have := mdVs_set r i x y
    rw [List.set_cons_succ, show (i + 1) * 2 = i * 2 + 2 by omega]
    simp only [mdVs, List.flatMap_cons, List.cons_append, List.nil_append, List.set_cons_succ] at *
    rw [this]
theorem own_put {w : World} {base e g cap m i : Nat} {L : List (ByteArray × ByteArray)} (h : w.ownsRow base e 2 (.slice (some ⟨g, 0, none⟩) m cap) L.length (mdVs L)) (x y : ByteArray) :
    ((w.setCell ⟨g, i * 2, none⟩ (.string x)).setCell ⟨g, i * 2 + 1, none⟩ (.string y)).ownsRow base e 2 (.slice (some ⟨g, 0, none⟩) m cap) (L.set i (x, y)).length (mdVs (L.set i (x, y))) := by
  rw [List.length_set, mdVs_set]
  exact ownsRow_set1 (ownsRow_set1 h _) _
theorem own_cells {w : World} {base e g cap m i : Nat} {L : List (ByteArray × ByteArray)} {x y : ByteArray} (h : w.ownsRow base e 2 (.slice (some ⟨g, 0, none⟩) m cap) L.length (mdVs L)) (hi : L[i]? = some (x, y)) :
    w.cell? ⟨g, i * 2, none⟩ = some (.string x) ∧ w.cell? ⟨g, i * 2 + 1, none⟩ = some (.string y) ∧ m = L.length := by
  rcases h.2 with ⟨h2, _⟩ | ⟨g', c', cur, e1, hb, hg, hn, hm, hcs, ht⟩
  · cases h2
  · injection e1 with e1 e2 e3
    injection e1 with e1
    injection e1 with e1
    subst e1 e2 e3
    obtain ⟨q0, q1⟩ := mdVs_get hi
    have hl := (List.getElem?_eq_some_iff.1 hi).1
    rw [← ht, List.getElem?_take, if_pos (by omega)] at q0 q1
    refine ⟨?_, ?_, rfl⟩
    · rw [cell_of_row w g _ cur e (0, 0) hg]; simpa using q0
    · rw [cell_of_row w g _ cur e (0, 0) hg]; simpa using q1
theorem own_frozen {w : World} {base e g cap m n j : Nat} {xs : List Value} (h : w.ownsRow base e 2 (.slice (some ⟨g, 0, none⟩) m cap) n xs) : w.frozen? ⟨g, j, none⟩ = false := by
  rcases h.2 with ⟨h2, _⟩ | ⟨g', c', cur, e1, hb, hg, hn, hm, hcs, ht⟩
  · cases h2
  · injection e1 with e1 e2 e3
    injection e1 with e1
    injection e1 with e1
    subst e1 e2 e3
    simp [World.frozen?, hg]
theorem below_put {B : Nat} {w0 w : World} (h : Below B w0 w) {g i : Nat} (hg : B ≤ g) (x y : Value) : Below B w0 ((w.setCell ⟨g, i * 2, none⟩ x).setCell ⟨g, i * 2 + 1, none⟩ y) :=
  (h.setCell (p := ⟨g, i * 2, none⟩) hg x).setCell (p := ⟨g, i * 2 + 1, none⟩) hg y

/-! ### slices.Grow, slices.Concat -/
def laysGrowMR : Go.Shelf.Ren := ⟨fun | 4 => 118 | n => n,
  fun | 0 => 0 | 3 => 3 | 4 => 4 | 9 => 9 | 20 => 20 | 22 => 23 | 25 => 38 | n => n, fun n => n⟩
theorem laysGrowM : Go.Proofs.Lays8.n4 Tryz.prog laysGrowMR := {
  mixed := by kernel_rfl
  f4 := ⟨Tryz.f118.name, by decide, Tryz.func118.trans (congrArg some (by kernel_rfl))⟩
  t0 := Tryz.underlying0
  a0 := Tryz.isAgg0
  z0 := Tryz.sizeOf0
  v0 := Tryz.zeroValue0
  t3 := Tryz.underlying3
  a3 := Tryz.isAgg3
  z3 := Tryz.sizeOf3
  v3 := Tryz.zeroValue3
  t4 := Tryz.underlying4
  a4 := Tryz.isAgg4
  z4 := Tryz.sizeOf4
  v4 := Tryz.zeroValue4
  t9 := Tryz.underlying9
  a9 := Tryz.isAgg9
  z9 := Tryz.sizeOf9
  v9 := Tryz.zeroValue9
  t20 := Tryz.underlying20
  a20 := Tryz.isAgg20
  z20 := Tryz.sizeOf20
  v20 := Tryz.zeroValue20
  t22 := Tryz.underlying23
  a22 := Tryz.isAgg23
  z22 := Tryz.sizeOf23
  v22 := Tryz.zeroValue23 }
theorem growM_calls (n : Nat) (w : World) (hn : n ≤ 1000000) :
    Calls Tryz.prog 118 #[.slice none 0 0, .int .i64 n] w fun e w' => (∃ v, e = .returned v ∧ w'.ownsRow w.heap.size 38 2 v 0 []) ∧ Below w.heap.size w w' := by
  obtain ⟨i0, hi0, hz0, hz1, hz2⟩ := info_parts Tryz.infoMod
  by_cases h0 : n = 0
  · subst h0
    refine (Any8.slices_Grow_room laysGrowM none 0 0 0 w (Nat.le_refl _) (by decide) (by decide) (Nat.le_refl _)).mono ?_
    rintro e w' ⟨rfl, rfl⟩
    exact ⟨⟨_, rfl, World.ownsRow_nil _ _ _ _⟩, Below.refl _ _⟩
  · refine (Any8.slices_Grow_grow laysGrowM i0 (.agg #[.string ⟨#[]⟩, .string ⟨#[]⟩]) hi0 hz0 (by omega) none 0 0 n [] w (Nat.le_refl _) (by omega) (by rw [hz2]; omega) (by omega) (by simp) (fun _ => rfl) (fun a e => by cases e)).mono ?_
    rintro e w' ⟨rfl, rfl⟩
    have hge := grownCap_ge w (0 + n) 0 (laysGrowMR.t 25)
    have hle := grownCap_le_maxLen w (0 + n) 0 (laysGrowMR.t 25) (by unfold maxLen; omega)
    refine ⟨⟨_, rfl, by simp, .inr ⟨w.heap.size, _, _, rfl, Nat.le_refl _, Go.Deep.blk_alloc_new w.drew _, Nat.zero_le _, hle, ?_, by simp⟩⟩, ?_⟩
    · have z1 := zeroCells_len (Value.agg #[.string ⟨#[]⟩, .string ⟨#[]⟩]).cells rfl (0 + n - 0)
      have z2 := zeroCells_len (Value.agg #[.string ⟨#[]⟩, .string ⟨#[]⟩]).cells rfl (grownCap w (0 + n) 0 (laysGrowMR.t 25) - (0 + n))
      rw [Array.length_toList] at z1 z2
      rw [Array.size_append, Array.size_append, z1, z2]
      show ([] : List Value).toArray.size + _ + _ = grownCap w (0 + n) 0 (laysGrowMR.t 25) * 2
      show 0 + _ + _ = _
      omega
    · exact (Below.refl _ w).drew.alloc (Nat.le_refl _) _

theorem mods_len {w : World} {v : Value} {l : List Md} (h : ModsAt w v l) : ∃ a c, v = .slice a l.length c := by
  obtain ⟨a, n, cap, P, V, rfl, rfl, _⟩ := h
  exact ⟨a, cap, by rw [mdF_length]⟩
set_option maxHeartbeats 2000000 in
set_option maxRecDepth 100000 in
/-- slices.Concat of two -/
theorem concatM_calls (b : Nat) (va vb : Value) (la lb : List Md) (w : World) (ha : ModsAt w va la) (hb0 : ModsAt w vb lb) (hla : la.length ≤ 100000) (hlb : lb.length ≤ 100000) (c0 : w.cell? ⟨b, 0, none⟩ = some va) (c1 : w.cell? ⟨b, 1, none⟩ = some vb) :
    Calls Tryz.prog 76 #[.slice (some ⟨b, 0, none⟩) 2 2] w fun e w' => (∃ v L, e = .returned v ∧ mdTs L = la ++ lb ∧ w'.ownsRow w.heap.size 38 2 v L.length (mdVs L)) ∧ Below w.heap.size w w' := by
  obtain ⟨a1, k1, e1⟩ := mods_len ha
  obtain ⟨a2, k2, e2⟩ := mods_len hb0
  have HA := Lib.hid ha
  have HB := Lib.hid hb0
  have hgr := growM_calls (la.length + lb.length) w (by omega)
  subst e1 e2
  have hw1 := wrap_nat la.length (by omega)
  have hw2 := wrap_nat (la.length + lb.length) (by omega)
  push_cast at hw2 hgr
  generalize hn1 : la.length = n1 at *
  generalize hn2 : lb.length = n2 at *
  have HN := Lib.hid (And.intro hn1 hn2)
  replace hgr := Lib.hid hgr
  clear hn1 hn2 ha hb0
  go_enter Tryz.func76, Tryz.ntmps76
  go_wp2_with fail
  refine wp_loop_rounds 3 ?_
  rw [rounds_succ]
  go_wp2_with fail
  rw [rounds_succ]
  go_wp2_with fail
  rw [rounds_succ]
  go_wp2_with fail
  refine hgr.out.mono ?_
  rintro e w1 ⟨⟨v1, rfl, ho1⟩, hb1⟩
  have d0 := Below.cell_some hb1 c0
  have d1 := Below.cell_some hb1 c1
  obtain ⟨o2, w2, hap2, ⟨L2, hL2, ho2⟩, hg2⟩ := app_mods w1 w.heap.size hb1.size v1 (.slice a1 n1 k1) [] la ho1 (HA.out.below hb1) (by simp) (by rw [HN.out.1]; omega)
  have hb2 : Below w.heap.size w w2 := hb1.grown hg2 hb1.size (fun k hk => (ho1.lt k hk).1)
  obtain ⟨o3, w3, hap3, ⟨L3, hL3, ho3⟩, hg3⟩ := app_mods w2 w.heap.size hb2.size o2 (.slice a2 n2 k2) L2 lb ho2 (HB.out.below hb2) (by have := congrArg List.length hL2; rw [mdTs_length] at this; simp [mdTs] at this; have := HN.out.1; omega) (by rw [HN.out.2]; omega)
  have hb3 : Below w.heap.size w w3 := hb2.grown hg3 hb2.size (fun k hk => (ho2.lt k hk).1)
  have e0 := Below.cell_some hb2 c0
  have e1 := Below.cell_some hb2 c1
  obtain ⟨x1, y1, z1, rfl⟩ := own_form ho1
  obtain ⟨x2, y2, z2, rfl⟩ := own_form ho2
  obtain ⟨x3, y3, z3, rfl⟩ := own_form ho3
  have HAP2 := Lib.hid hap2
  have HAP3 := Lib.hid hap3
  have HO3 := Lib.hid ho3
  have HL : Hid (mdTs L3 = la ++ lb) := Lib.hid (by rw [hL3, hL2]; simp [mdTs])
  clear hap2 hap3 ho1 ho2 ho3 hL2 hL3 hg2 hg3 hgr
  go_wp2_with fail
  refine wp_loop_rounds 3 ?_
  rw [rounds_succ]
  go_wp2_with (at_builtin; refine wpList_append_run rfl _ _ 23 rfl _ _ rfl rfl _ _ HAP2.out ?_)
  rw [rounds_succ]
  go_wp2_with (at_builtin; refine wpList_append_run rfl _ _ 23 rfl _ _ rfl rfl _ _ HAP3.out ?_)
  rw [rounds_succ]
  go_wp2_with fail
  go_ret
  exact ⟨⟨_, L3, rfl, HL.out, HO3.out⟩, hb3⟩
end Go.Proofs.Pw

/- mvs.greatest. Conditions: lists of at most 1000000. -/
namespace Go.Proofs.Pw
open Go.RowKit
open Go.Lib hiding intOf

theorem mdTs_sn (L : List (ByteArray × ByteArray)) (x y : ByteArray) : mdTs (L ++ [(x, y)]) = mdTs L ++ [(x.data.toList, y.data.toList)] := by simp [mdTs]
theorem own_len {w : World} {base e k n cap m : Nat} {a : Option Addr} {xs : List Value} (h : w.ownsRow base e k (.slice a m cap) n xs) : m = n := by
  rcases h.2 with ⟨h1, rfl⟩ | ⟨g, c, cur, h1, _⟩
  · injection h1
  · injection h1
theorem grow1_new {out : List Md} {m : Md} (h : out.getLast?.map (·.1) ≠ some m.1) : grow1 out m = out ++ [m] := if_neg h
theorem set_last {α : Type} (l : List α) (a b : α) : (l ++ [a]).set l.length b = l ++ [b] := by
  rw [List.set_append_right _ _ (Nat.le_refl _)]; simp
theorem grow1_same {L : List (ByteArray × ByteArray)} {x y p q : ByteArray} (h : x = p) : grow1 (mdTs (L ++ [(x, y)])) (p.data.toList, q.data.toList) = mdTs ((L ++ [(x, y)]).set L.length (p, q)) := by
  subst h
  rw [set_last, mdTs_sn, mdTs_sn]
  unfold grow1
  rw [if_pos (by simp)]
  simp
theorem grow1_less {L : List (ByteArray × ByteArray)} {x y p q : ByteArray} (h : x ≠ p) : grow1 (mdTs (L ++ [(x, y)])) (p.data.toList, q.data.toList) = mdTs (L ++ [(x, y)] ++ [(p, q)]) := by
  rw [mdTs_sn (L ++ [(x, y)]), mdTs_sn L]
  refine grow1_new ?_
  simp only [List.getLast?_append, List.getLast?_singleton, Option.some_or, Option.map_some]
  exact fun e => h (bytes_eq.1 (Option.some.inj e))
theorem grow1_nil (p q : ByteArray) : grow1 (mdTs []) (p.data.toList, q.data.toList) = mdTs [(p, q)] := rfl

set_option maxHeartbeats 4000000 in
set_option maxRecDepth 100000 in
theorem greatest_calls (v : Value) (l : List Md) (w : World) (h : ModsAt w v l) (hl : l.length ≤ 1000000) :
    Calls Tryz.prog 64 #[v] w fun e w' => (∃ v' L, e = .returned v' ∧ mdTs L = greatest l ∧ w'.ownsRow w.heap.size 38 2 v' L.length (mdVs L)) ∧ Below w.heap.size w w' := by
  obtain ⟨i0, hi, hz0, hz1, hz2⟩ := info_parts Tryz.infoMod
  obtain ⟨a, n, cap, P, V, rfl, rfl, hnc, hcap, hc⟩ := h
  rw [mdF_length] at hl
  replace hc := Lib.hid hc
  go_enter Tryz.func64, Tryz.ntmps64
  go_wp2_with fail
  go_loopw [3, 9] (fun o i wr => ∃ (k : Nat) (L : List (ByteArray × ByteArray)), k ≤ n ∧ i = .int .i64 k ∧ Hid (wr.ownsRow w.heap.size 38 2 o L.length (mdVs L)) ∧ L.length ≤ k ∧ Hid (mdTs L = greatest ((mdF n P V).take k)) ∧ Below w.heap.size w wr) (fun _ i _ => n - (intOf i).toNat)
  case atStart => exact ⟨0, [], Nat.zero_le _, rfl, Lib.hid (World.ownsRow_nil _ _ _ _), Nat.le_refl _, Lib.hid rfl, Below.refl _ _⟩
  case round =>
    obtain ⟨k, L, hk, rfl, hO, hLk, hT, hBr⟩ := hrel
    obtain ⟨ao, no, co, rfl⟩ := own_form hO.out
    have hown := Lib.hid (fun q (e : (Value.slice ao no co).ownBlock = some q) => (hO.out.lt q e).1)
    by_cases hlt : k < n
    · have hkn : (k : Int) < (n : Int) := by omega
      obtain ⟨b1, o1, ea, c0, c1⟩ := hc.out k hlt
      replace c0 := Below.cell_some hBr c0
      replace c1 := Below.cell_some hBr c1
      have HTK := Lib.hid (mdF_take_succ n P V k hlt)
      subst ea
      have hba := below_alloc wr (.cells #[.string (P k), .string (V k)] 38)
      obtain ⟨y0, y1, _⟩ := box2_alloc wr (.string (P k)) (.string (V k)) 38
      rcases List.eq_nil_or_concat L with rfl | ⟨L', ⟨x, y⟩, hLc⟩
      · have hn0 : no = 0 := own_len hO.out
        subst hn0
        have HN : Hid (mdTs ([] ++ [(P k, V k)]) = greatest ((mdF n P V).take (k + 1))) := Lib.hid (by
          rw [HTK.out, greatest_snoc, ← hT.out]; exact (grow1_nil _ _).symm)
        have hOa := ownsRow_kept hO.out hba
        have hBa := below_step hBr hba
        clear hT HTK hO hBr
        go_wp2_with fail
        have hx1 : decide ((-1 : Int) ≥ 0) = false := by decide
        have hx2 : decide ((0 : Int) ≤ -1) = false := by decide
        generalize wr.alloc (.cells #[.string (P k), .string (V k)] 38) = wa at *
        refine wp_region_quiet_patch (by kernel_rfl) (by kernel_rfl) ?_
        repeat (go_big_quiet_step (fail))
        refine wpQuiet_nil ?_
        intro _ hw'
        obtain ⟨⟨dq, osq⟩, hw''⟩ := hw'
        subst hw''
        have hb := below_patch wa dq osq
        replace hBa := below_step hBa hb
        replace hOa := hOa.below hb
        replace y0 := Below.cell_some hb y0
        replace y1 := Below.cell_some hb y1
        clear hb
        generalize patch wa dq osq = w5 at hBa hOa y0 y1 ⊢
        have HO := Lib.hid hOa
        clear hOa hx1 hx2
        have hBr := hBa
        have hLk : ([] : List (ByteArray × ByteArray)).length ≤ k := by simp
        go_wp2_with (at_builtin; refine wpList_append_own _ rfl _ _ 23 rfl w.heap.size 38 i0 (.agg #[.string ⟨#[]⟩, .string ⟨#[]⟩]) 2 32 Tryz.underlying23 hi hz0 hz1 hz2 rfl (by decide) _ _ _ rfl (HO.out.alloc _) ⟨w5.heap.size, 0, none⟩ 1 1 [.string (P k), .string (V k)] rfl rfl (cell_two_new _ _ _ _) (by intro u hu; simp at hu; rcases hu with rfl | rfl <;> rfl) (by unfold maxLen; omega) (by omega) (by have := hBr.size; simp; omega) ?_; intro o' w4 hown4 hgrow4 _)
        go_roundw
        case rel =>
          refine ⟨k + 1, [] ++ [(P k, V k)], by omega, by go_num, Lib.hid ?_, by first | (simp at hLk ⊢; omega) | (simp at hLk ⊢), HN, ?_⟩
          · rw [List.length_append, List.length_singleton, ← mdVs_snoc]
            exact hown4
          · exact (hBr.alloc hBr.size _).grown hgrow4 (by have := hBr.size; simp; omega) hown.out
        case measure => simp [intOf]; omega
      · rw [List.concat_eq_append] at hLc
        subst hLc
        have hT1 := hT.out
        have hOs := hO.out
        have hlx : L'.length < (L' ++ [(x, y)]).length := by simp
        obtain ⟨ag, rfl⟩ : ∃ g, ao = some ⟨g, 0, none⟩ := by
          rcases hO.out.2 with ⟨_, h1⟩ | ⟨g, c, cur, h1, _⟩
          · simp at h1
          · injection h1 with h1; exact ⟨g, h1⟩
        obtain ⟨d0, d1, hno⟩ := own_cells (i := L'.length) (x := x) (y := y) hOs (by simp)
        have hnl : no = L'.length + 1 := by rw [hno]; simp
        clear hno
        subst hnl
        replace d0 := Below.cell_some hba d0
        replace d1 := Below.cell_some hba d1
        have hOa := ownsRow_kept hO.out hba
        have hBa := below_step hBr hba
        have hw1 := wrap_nat L'.length (by simp at hLk; omega)
        have hm1 : ((L'.length + 1 : Nat) : Int) - 1 = (L'.length : Int) := by omega
        clear hT hO
        have hnn1 : decide ((L'.length : Int) ≥ 0) = true := decide_eq_true (by omega)
        have hnn2 : decide (0 ≤ (L'.length : Int)) = true := decide_eq_true (by omega)
        by_cases hxp : x = P k
        · subst hxp
          go_wp2_with fail
          generalize wr.alloc (.cells #[.string (P k), .string (V k)] 38) = wa at *
          have kqd0 := fun d os => cell_patch (d := d) (os := os) d0
          have kqy0 := fun d os => cell_patch (d := d) (os := os) y0
          refine wp_region_quiet_patch (by kernel_rfl) (by kernel_rfl) ?_
          repeat (go_big_quiet_step (fail))
          refine wpQuiet_nil ?_
          intro _ hw'
          obtain ⟨⟨dq, osq⟩, hw''⟩ := hw'
          subst hw''
          clear kqd0 kqy0
          have hb := below_patch wa dq osq
          replace hBa := below_step hBa hb
          replace hOa := hOa.below hb
          replace y0 := Below.cell_some hb y0
          replace y1 := Below.cell_some hb y1
          clear hb
          generalize patch wa dq osq = w5 at hBa hOa y0 y1 ⊢
          clear d0 d1
          obtain ⟨d0, d1, -⟩ := own_cells (i := L'.length) (x := P k) (y := y) hOa (by simp)
          have f0 := own_frozen (j := L'.length * 2) hOa
          have f1 := own_frozen (j := L'.length * 2 + 1) hOa
          have s1 : (w5.setCell ⟨ag, L'.length * 2, none⟩ (.string (P k))).cell? ⟨ag, L'.length * 2 + 1, none⟩ = some (.string y) := by rw [set_off _ (by omega)]; exact d1
          have s2 : (w5.setCell ⟨ag, L'.length * 2, none⟩ (.string (P k))).frozen? ⟨ag, L'.length * 2 + 1, none⟩ = false := by simpa using f1
          have HP := Lib.hid (own_put (i := L'.length) hOa (P k) (V k))
          have HN : Hid (mdTs ((L' ++ [(P k, y)]).set L'.length (P k, V k)) = greatest ((mdF n P V).take (k + 1))) := Lib.hid (by
            rw [HTK.out, greatest_snoc, ← hT1, grow1_same rfl])
          have hag := Lib.hid (hown.out ag rfl)
          have hLk2 := Lib.hid hLk
          clear hOa hOs hT1 HTK hLk hlx
          have hi1 : (L'.length : Int) < (L'.length : Int) + 1 := by omega
          go_wp2_with fail
          go_roundw
          case rel =>
            refine ⟨k + 1, (L' ++ [(P k, y)]).set L'.length (P k, V k), by omega, by go_num, HP, by rw [List.length_set]; have := hLk2.out; omega, HN, below_put hBa hag.out _ _⟩
          case measure => simp [intOf]; omega
        · have hq1 : (x.toList == (P k).toList) = false := by rw [toList_data, toList_data]; exact beq_eq_false_iff_ne.2 (fun e => hxp (bytes_eq.1 e))
          go_wp2_with fail
          generalize wr.alloc (.cells #[.string (P k), .string (V k)] 38) = wa at *
          have kqd0 := fun d os => cell_patch (d := d) (os := os) d0
          have kqy0 := fun d os => cell_patch (d := d) (os := os) y0
          refine wp_region_quiet_patch (by kernel_rfl) (by kernel_rfl) ?_
          repeat (go_big_quiet_step (fail))
          refine wpQuiet_nil ?_
          intro _ hw'
          obtain ⟨⟨dq, osq⟩, hw''⟩ := hw'
          subst hw''
          clear kqd0 kqy0
          have hb := below_patch wa dq osq
          replace hBa := below_step hBa hb
          replace hOa := hOa.below hb
          replace y0 := Below.cell_some hb y0
          replace y1 := Below.cell_some hb y1
          clear hb
          generalize patch wa dq osq = w5 at hBa hOa y0 y1 ⊢
          have HO := Lib.hid hOa
          have HN : Hid (mdTs (L' ++ [(x, y)] ++ [(P k, V k)]) = greatest ((mdF n P V).take (k + 1))) := Lib.hid (by
            rw [HTK.out, greatest_snoc, ← hT1, grow1_less hxp])
          have hLk2 : L'.length + 1 ≤ k := by simpa using hLk
          replace hBr := hBa
          clear hOa hOs hT1 HTK d0 d1
          go_wp2_with (at_builtin; refine wpList_append_own _ rfl _ _ 23 rfl w.heap.size 38 i0 (.agg #[.string ⟨#[]⟩, .string ⟨#[]⟩]) 2 32 Tryz.underlying23 hi hz0 hz1 hz2 rfl (by decide) _ _ _ rfl (HO.out.alloc _) ⟨w5.heap.size, 0, none⟩ 1 1 [.string (P k), .string (V k)] rfl rfl (cell_two_new _ _ _ _) (by intro u hu; simp at hu; rcases hu with rfl | rfl <;> rfl) (by unfold maxLen; omega) (by omega) (by have := hBr.size; simp; omega) ?_; intro o' w4 hown4 hgrow4 _)
          go_roundw
          case rel =>
            refine ⟨k + 1, (L' ++ [(x, y)]) ++ [(P k, V k)], by omega, by go_num, Lib.hid ?_, by first | (simp at hLk ⊢; omega) | (simp at hLk ⊢), HN, ?_⟩
            · rw [List.length_append, List.length_singleton, ← mdVs_snoc]
              exact hown4
            · exact (hBr.alloc hBr.size _).grown hgrow4 (by have := hBr.size; simp; omega) hown.out
          case measure => simp [intOf]; omega
    · obtain rfl : k = n := by omega
      have HF : Hid (mdTs L = greatest (mdF k P V)) := Lib.hid (by rw [hT.out, mdF_take_all])
      have HOr := hO
      clear hT hlt
      go_wp2_with fail
      go_ret
      exact ⟨⟨_, L, rfl, HF.out, HOr.out⟩, hBr⟩

end Go.Proofs.Pw
