/- St: walks and plain laws, joined: RefP2 RefP3. Conditions: at each theorem. -/
import Derived.Test.YtglhgbcebpeomaaGreatDoorStq
import Derived.Test.YtglhgbcebpeomaaGreatDoorSti
import Derived.Test.YtglhgbcebpeomaaGreatDoorSth
import Derived.Test.YtglhgbcebpeomaaGreatDoorStj

namespace Go.Proofs.Pw
open Go.RowKit
open Go.Lib hiding intOf
theorem pathErr_elem {s x : Str} (hm : x ∈ split s [47]) (h : elemOk x = false) : pathErr s = 1 := by
  unfold pathErr
  simp only
  rw [if_pos (List.any_eq_true.2 ⟨x, hm, by rw [h]; rfl⟩)]
theorem pathErr_all {s : Str} (h : (split s [47]).all elemOk = true) : (split s [47]).any (fun w => !elemOk w) = false := by
  rw [Bool.eq_false_iff]
  intro e
  obtain ⟨x, hx, h2⟩ := List.any_eq_true.1 e
  rw [List.all_eq_true.1 h x hx] at h2
  cases h2
theorem pathErr_bound {s : Str} (h : (split s [47]).all elemOk = true) (hb : 5 < (split s [47]).length ∨ (split s [47]).any (fun w => decide (10 < w.length)) = true) : pathErr s = 2 := by
  unfold pathErr
  simp only
  rw [if_neg (by rw [pathErr_all h]; simp), if_pos hb]
theorem pathErr_rest {s : Str} (h : (split s [47]).all elemOk = true) (hb : ¬ (5 < (split s [47]).length ∨ (split s [47]).any (fun w => decide (10 < w.length)) = true)) :
    pathErr s = if 1 < (split s [47]).length ∧ sufWell ((split s [47]).getLast?.getD []) = false then 4 else 0 := by
  unfold pathErr
  simp only
  rw [if_neg (by rw [pathErr_all h]; simp), if_neg hb]
theorem refSuf_neg (x : Str) : refSuf x < 0 ↔ sufWell x = false := by
  unfold refSuf sufWell
  cases looksSuf x with
  | false => simp
  | true =>
    cases isSuf x with
    | true => simp
    | false => simp
theorem long_eq {n : Nat} {B : Bool} : (decide ((5 : Int) < (n : Int)) || B) = true ↔ (5 < n ∨ B = true) := by
  rw [Bool.or_eq_true, decide_eq_true_eq]
  have : (5 : Int) < (n : Int) ↔ 5 < n := by omega
  rw [this]
theorem refCut_slash (s : ByteArray) (w : World) (hs : s.size ≤ 1000000000) :
    Calls Tryz.prog 70 #[.string s, .int .u8 47] w fun e w' => (∃ v, e = .returned v ∧ StrsAt w' v (split s.data.toList [47]) ∧ NewRow w v) ∧ Below w.heap.size w w' := refCut_calls s 47 w hs
set_option maxHeartbeats 2000000 in
set_option maxRecDepth 100000 in
theorem refPath_calls (s : ByteArray) (w : World) (hs : s.size ≤ 1000000000) :
    Calls Tryz.prog 129 #[.string s] w fun e w' => e = .returned (.int .i64 (pathErr s.data.toList : Nat)) ∧ Below w.heap.size w w' := by
  go_enter Tryz.func129, Tryz.ntmps129
  go_wp2_with fail
  refine (refCut_slash s w hs).mono ?_
  rintro e w1 ⟨⟨v, rfl, hS, _⟩, hb1⟩
  obtain ⟨a, n, cap, L, rfl, hl, hn, hcap, hc⟩ := hS
  have hLs := lstF_mem_le (by decide) hl.symm
  have hs' : s.data.toList.length ≤ 1000000000 := by rw [← size_eq]; exact hs
  have hLs9 : ∀ j, j < n → (L j).size ≤ 1000000000 := fun j hj => Nat.le_trans (hLs j hj) hs'
  have hn1 : 1 ≤ n := by
    rcases Nat.eq_zero_or_pos n with rfl | h
    · exact absurd hl (split_ne 47 s.data.toList)
    · exact h
  have hn9 : n ≤ 1000000001 := by
    have h5 := congrArg List.length hl
    rw [lstF_length] at h5
    have := split_len 47 s.data.toList
    omega
  have HL : Hid (split s.data.toList [47] = lstF n L) := Lib.hid hl
  have HC := Lib.hid hc
  clear hl hc hLs hs'
  go_wp2_with fail
  go_loop [4, 5] (fun b i => ∃ (k : Nat) (C : Bool), k ≤ n ∧ i = .int .i64 k ∧ b = .bool C ∧ Hid ((decide ((5 : Int) < (n : Int)) || ((lstF n L).take k).any (fun w => decide (10 < w.length))) = C) ∧ Hid (((lstF n L).take k).all elemOk = true)) (fun _ i => n - (intOf i).toNat)
  case atStart => exact ⟨0, _, Nat.zero_le _, rfl, rfl, Lib.hid (by simp), Lib.hid rfl⟩
  case round =>
    obtain ⟨k, C, hk, rfl, rfl, HB, HA⟩ := hrel
    by_cases hlt : k < n
    · obtain ⟨b1, o1, rfl, hck⟩ := HC.out k hlt
      have hmem : (L k).data.toList ∈ split s.data.toList [47] := by rw [HL.out]; exact List.mem_of_getElem? (lstF_get n L k hlt)
      have HM := Lib.hid hmem
      have hp9 := hLs9 k hlt
      have HT : Hid ((lstF n L).take (k + 1) = (lstF n L).take k ++ [(L k).data.toList]) := Lib.hid (lstF_take_succ n L k hlt)
      clear hmem
      generalize L k = p at hck HM hp9 HT
      go_upto_block 2 with fail
      go_cut [6, 7, 8, 9, 10] from 22 to 83 (fun d _ _ _ _ wx => ∃ D : Bool, d = .bool D ∧ wx = w1 ∧ Hid (p.data.toList.all (· == 46) = D) ∧ Hid (p.data.toList.all isElemByte = true) ∧ Hid (NoOcc p.data.toList dots (p.size - 2)))
      case first =>
        go_wp2_with fail
        go_loop [6, 7, 8, 9, 10] (fun d i _ _ _ => ∃ (m : Nat) (D : Bool), m ≤ p.size ∧ i = .int .i64 m ∧ d = .bool D ∧ Hid ((p.data.toList.take m).all (· == 46) = D) ∧ Hid ((p.data.toList.take m).all isElemByte = true) ∧ Hid (NoOcc p.data.toList dots (m - 2))) (fun _ i _ _ _ => p.size - (intOf i).toNat)
        case atStart => exact ⟨0, true, Nat.zero_le _, rfl, rfl, Lib.hid rfl, Lib.hid rfl, Lib.hid (NoOcc.zero _ _)⟩
        case round =>
          obtain ⟨m, D, hm, rfl, rfl, HD, HE, HO⟩ := hrel
          by_cases hml : m < p.size
          · have hip := isElemByte_iff p[m]
            rcases elem_classes (p[m].toNat : Int) with h | h
            · have hyes : isElemByte p[m] = true := hip.2 (by omega)
              have HN : Hid ((p.data.toList.take (m + 1)).all isElemByte = true) := Lib.hid (by rw [take_snoc p m hml, List.all_append, HE.out]; simp [hyes])
              have HDn : Hid ((p.data.toList.take (m + 1)).all (· == 46) = (D && p[m] == 46)) := Lib.hid (by rw [take_snoc p m hml, List.all_append, HD.out]; simp)
              clear hip hyes
              by_cases h2 : m < 2
              · have HOn : Hid (NoOcc p.data.toList dots (m + 1 - 2)) := Lib.hid (noOcc_step HO.out (fun h => by omega))
                have h2' : ¬ (2 : Int) ≤ (m : Int) := by omega
                have HDa : Hid ((p[m].toNat : Int) = 46 → (p.data.toList.take (m + 1)).all (· == 46) = D) := Lib.hid (fun e => by rw [HDn.out, show p[m] = 46 from UInt8.toNat_inj.1 (by exact_mod_cast e)]; simp)
                have HDb : Hid ((p[m].toNat : Int) ≠ 46 → (p.data.toList.take (m + 1)).all (· == 46) = false) := Lib.hid (fun e => by rw [HDn.out, Bool.and_eq_false_iff]; right; exact beq_eq_false_iff_ne.2 (fun h => e (by rw [h]; rfl)))
                clear HDn
                cases D
                all_goals rcases h with ⟨c1, c2, c3, c4, c5⟩ | ⟨c1, c2, c3, c4, c5⟩ | h | h | h
                all_goals
                  go_wp2_with fail
                  go_round
                  case rel => exact ⟨m + 1, _, by omega, by go_num, rfl, Lib.hid (by first | exact HDa.out h | exact HDb.out (beq_eq_false_iff_ne.1 c5) | exact HDb.out (by omega)), HN, HOn⟩
                  case measure => simp [intOf]; omega
              · obtain ⟨m', rfl⟩ : ∃ m', m = m' + 2 := ⟨m - 2, by omega⟩
                have h2' : (2 : Int) ≤ ((m' + 2 : Nat) : Int) := by omega
                by_cases ho : (p.extract m' (m' + 3)).data.toList = dots
                · have HF : Hid (pathErr s.data.toList = 1) := Lib.hid (pathErr_elem HM.out (elem_occ (k := m') (by omega) (occ_dots.2 ho)))
                  have ho1 : p.extract m' (m' + 3) = ⟨#[46, 46, 46]⟩ := bytes_ext.1 ho
                  clear ho
                  cases D
                  all_goals rcases h with ⟨c1, c2, c3, c4, c5⟩ | ⟨c1, c2, c3, c4, c5⟩ | h | h | h
                  all_goals
                    go_wp2_with fail
                    go_ret
                    rw [HF.out]
                    exact ⟨rfl, hb1⟩
                · have HOn : Hid (NoOcc p.data.toList dots (m' + 2 + 1 - 2)) := Lib.hid (noOcc_step HO.out (fun _ => by
                    rw [Bool.eq_false_iff]; intro e; exact ho (occ_dots.1 e)))
                  have ho1 : p.extract m' (m' + 3) ≠ ⟨#[46, 46, 46]⟩ := fun e => ho (by rw [e]; rfl)
                  have ho2 : ((p.extract m' (m' + 3)).toList == [46, 46, 46]) = false := by rw [toList_data]; exact beq_eq_false_iff_ne.2 ho
                  clear ho
                  have HDa : Hid ((p[m' + 2].toNat : Int) = 46 → (p.data.toList.take (m' + 2 + 1)).all (· == 46) = D) := Lib.hid (fun e => by rw [HDn.out, show p[m' + 2] = 46 from UInt8.toNat_inj.1 (by exact_mod_cast e)]; simp)
                  have HDb : Hid ((p[m' + 2].toNat : Int) ≠ 46 → (p.data.toList.take (m' + 2 + 1)).all (· == 46) = false) := Lib.hid (fun e => by rw [HDn.out, Bool.and_eq_false_iff]; right; exact beq_eq_false_iff_ne.2 (fun h => e (by rw [h]; rfl)))
                  clear HDn
                  cases D
                  all_goals rcases h with ⟨c1, c2, c3, c4, c5⟩ | ⟨c1, c2, c3, c4, c5⟩ | h | h | h
                  all_goals
                    go_wp2_with fail
                    go_round
                    case rel => exact ⟨m' + 2 + 1, _, by omega, by go_num, rfl, Lib.hid (by first | exact HDa.out h | exact HDb.out (beq_eq_false_iff_ne.1 c5) | exact HDb.out (by omega)), HN, HOn⟩
                    case measure => simp [intOf]; omega
            · obtain ⟨⟨hd46, hd45, hd95⟩, hno, h⟩ := h
              have hnot : isElemByte p[m] = false := by
                rw [Bool.eq_false_iff]
                intro e
                have := hip.1 e
                have n46 : (p[m].toNat : Int) ≠ 46 := beq_eq_false_iff_ne.1 hd46
                have n45 : (p[m].toNat : Int) ≠ 45 := beq_eq_false_iff_ne.1 hd45
                have n95 : (p[m].toNat : Int) ≠ 95 := beq_eq_false_iff_ne.1 hd95
                omega
              have HF : Hid (pathErr s.data.toList = 1) := Lib.hid (pathErr_elem HM.out (elem_byte hml hnot))
              have hn46 : ((p[m].toNat : Int) != 46) = true := by unfold bne; rw [hd46]; rfl
              have hn45 : ((p[m].toNat : Int) != 45) = true := by unfold bne; rw [hd45]; rfl
              have hn95 : ((p[m].toNat : Int) != 95) = true := by unfold bne; rw [hd95]; rfl
              clear hip hnot hno
              rcases h with ⟨h1, h2, h3, h4⟩ | ⟨h1, h2, h3, h4⟩ | ⟨h1, h2, h3, h4⟩
              all_goals
                go_wp2_with fail
                go_ret
                rw [HF.out]
                exact ⟨rfl, hb1⟩
          · obtain rfl : m = p.size := by omega
            have HD2 : Hid (p.data.toList.all (· == 46) = D) := Lib.hid (by rw [← HD.out, take_size])
            have HE2 : Hid (p.data.toList.all isElemByte = true) := Lib.hid (by rw [← HE.out, take_size])
            go_wp2_with fail
            go_meet
            exact ⟨D, rfl, rfl, HD2, HE2, HO⟩
      case rest =>
        obtain ⟨D, rfl, rfl, HD, HE, HO⟩ := hcut
        cases D with
        | true =>
          have HF : Hid (pathErr s.data.toList = 1) := Lib.hid (pathErr_elem HM.out (elem_dot HD.out))
          go_wp2_with fail
          go_ret
          rw [HF.out]
          exact ⟨rfl, hb1⟩
        | false =>
          have HN : Hid (((lstF n L).take (k + 1)).all elemOk = true) := Lib.hid (by rw [HT.out, List.all_append, HA.out]; simp [elem_yes HE.out HD.out (by rw [← size_eq]; exact HO.out)])
          have HBn : Hid ((decide ((5 : Int) < (n : Int)) || ((lstF n L).take (k + 1)).any (fun w => decide (10 < w.length))) = (C || decide (10 < p.size))) := Lib.hid (by rw [HT.out, List.any_append, ← Bool.or_assoc, HB.out, size_eq]; simp)
          have HT2 : Hid (10 < p.size → (C || decide (10 < p.size)) = true) := Lib.hid (fun h => by simp [h])
          have HF2 : Hid (¬ 10 < p.size → (C || decide (10 < p.size)) = C) := Lib.hid (fun h => by simp [h])
          by_cases h10 : 10 < p.size
          · have h10' : (10 : Int) < (p.size : Int) := by omega
            rw [HT2.out h10] at HBn
            clear HT2 HF2
            cases C
            all_goals
              go_wp2_with fail
              go_round
              case rel => exact ⟨k + 1, true, by omega, by go_num, rfl, HBn, HN⟩
              case measure => simp [intOf]; omega
          · have h10' : ¬ (10 : Int) < (p.size : Int) := by omega
            rw [HF2.out h10] at HBn
            clear HT2 HF2
            cases C
            all_goals
              go_wp2_with fail
              go_round
              case rel => exact ⟨k + 1, _, by omega, by go_num, rfl, HBn, HN⟩
              case measure => simp [intOf]; omega
    · obtain rfl : k = n := by omega
      have HAll : Hid ((split s.data.toList [47]).all elemOk = true) := Lib.hid (by rw [HL.out, ← HA.out, lstF_take_all])
      have HLen : Hid ((split s.data.toList [47]).length = k) := Lib.hid (by rw [HL.out, lstF_length])
      have HBo : Hid ((5 < (split s.data.toList [47]).length ∨ (split s.data.toList [47]).any (fun w => decide (10 < w.length)) = true) ↔ C = true) := Lib.hid (by
        rw [HLen.out, ← long_eq, ← HB.out, lstF_take_all, HL.out])
      cases C with
      | true =>
        have HF : Hid (pathErr s.data.toList = 2) := Lib.hid (pathErr_bound HAll.out (HBo.out.2 rfl))
        go_wp2_with fail
        go_ret
        rw [HF.out]
        exact ⟨rfl, hb1⟩
      | false =>
        have HR : Hid (pathErr s.data.toList = if 1 < k ∧ sufWell ((L (k - 1)).data.toList) = false then 4 else 0) := Lib.hid (by
          rw [pathErr_rest HAll.out (fun h => by cases HBo.out.1 h), HLen.out, HL.out, getLast_lstF k L hn1])
        by_cases h1 : 1 < k
        · have h1' : (1 : Int) < (k : Int) := by omega
          obtain ⟨b1, o1, rfl, hck⟩ := HC.out (k - 1) (by omega)
          have hi : ((k : Int) - 1).toNat = k - 1 := by omega
          have hp9 := hLs9 (k - 1) (by omega)
          have hsu := refSuffix_calls (L (k - 1)) w1 hp9
          have hneg := refSuf_neg (L (k - 1)).data.toList
          generalize L (k - 1) = p at hck HR hsu hneg
          generalize refSuf p.data.toList = z at hsu hneg
          obtain ⟨k', rfl⟩ : ∃ k', k = k' + 1 := ⟨k - 1, by omega⟩
          simp only [Nat.add_sub_cancel] at hck
          have hk' : ((k' + 1 : Nat) : Int) - 1 = (k' : Int) := by omega
          have hk0 : (0 : Int) ≤ (k' : Int) := by omega
          clear hi
          by_cases hz : z < 0
          · have HF : Hid (pathErr s.data.toList = 4) := Lib.hid (by rw [HR.out, if_pos ⟨h1, hneg.1 hz⟩])
            clear hneg
            go_wp2_with fail
            refine hsu.mono ?_
            rintro e w' ⟨rfl, rfl⟩
            go_wp2_with fail
            go_ret
            rw [HF.out]
            exact ⟨rfl, hb1⟩
          · have HF : Hid (pathErr s.data.toList = 0) := Lib.hid (by rw [HR.out, if_neg (fun h => hz (hneg.2 h.2))])
            clear hneg
            go_wp2_with fail
            refine hsu.mono ?_
            rintro e w' ⟨rfl, rfl⟩
            go_wp2_with fail
            go_ret
            rw [HF.out]
            exact ⟨rfl, hb1⟩
        · have HF : Hid (pathErr s.data.toList = 0) := Lib.hid (by rw [HR.out, if_neg (fun h => h1 h.1)])
          have h1' : ¬ (1 : Int) < (k : Int) := by omega
          go_wp2_with fail
          go_ret
          rw [HF.out]
          exact ⟨rfl, hb1⟩
end Go.Proofs.Pw

namespace Go.Proofs.Pw
open Go.RowKit
open Go.Lib hiding intOf
theorem occ_slash {s : ByteArray} {k : Nat} (h : k < s.size) : occAt s.data.toList [47] k = decide (s[k] = 47) := by
  unfold occAt
  rw [drop_cons s k h, Bool.eq_iff_iff]
  simp only [List.isPrefixOf, Bool.and_true, decide_eq_true_eq, beq_iff_eq]
  exact eq_comm
theorem refSuf_pos {x : Str} (h : isSuf x = true) : refSuf x = (sufNum x : Int) ∧ (2 : Int) ≤ (sufNum x : Int) := by
  have hl : looksSuf x = true ∧ 2 ≤ (numberOf (sufD x)).1 := by
    unfold isSuf at h
    simp only [Bool.and_eq_true, decide_eq_true_eq] at h
    exact ⟨h.1, h.2.2⟩
  unfold refSuf
  rw [hl.1, h]
  exact ⟨rfl, by have := hl.2; unfold sufNum; omega⟩
theorem refSuf_not {x : Str} (h : isSuf x = false) : refSuf x ≤ 0 := by
  unfold refSuf
  rw [h]
  cases looksSuf x <;> simp
theorem bytes_take (s : ByteArray) (k : Nat) : s.extract 0 k = ⟨(s.data.toList.take k).toArray⟩ := by
  apply ByteArray.ext
  apply Array.ext'
  simp
set_option maxHeartbeats 400000 in
theorem refSplit_calls (s : ByteArray) (w : World) (hs : s.size ≤ 1000000000) :
    Calls Tryz.prog 131 #[.string s] w fun e w' => e = .returned (.tuple #[.string ⟨(modSplit s.data.toList).1.toArray⟩, .int .i64 ((modSplit s.data.toList).2 : Nat)]) ∧ Below w.heap.size w w' := by
  have hp := refPath_calls s w hs
  by_cases h0 : pathErr s.data.toList = 0
  · rw [h0] at hp
    have hne := fun (h : lastIndex s.data.toList [47] < 0) => modSplit_no h0 h
    have hat := fun (k : Nat) (h : lastIndex s.data.toList [47] = k) => modSplit_at h0 h
    have hst : lastOcc s.data.toList [47] s.size = lastIndex s.data.toList [47] := by
      unfold lastIndex
      rw [← size_eq]
      show _ = if 1 ≤ s.size then lastOcc s.data.toList [47] (s.size - 1 + 1) else -1
      by_cases h : 1 ≤ s.size
      · rw [if_pos h, Nat.sub_add_cancel h]
      · rw [if_neg h, show s.size = 0 by omega]; rfl
    replace hp := Lib.hid hp
    replace hne := Lib.hid hne
    replace hat := Lib.hid hat
    replace hst := Lib.hid hst
    clear h0
    go_enter Tryz.func131, Tryz.ntmps131
    go_wp2_with fail
    refine hp.out.mono ?_
    rintro e w1 ⟨rfl, hb1⟩
    go_wp2_with fail
    go_loop [4] (fun i => ∃ m : Nat, m ≤ s.size ∧ i = .int .i64 ((m : Int) - 1) ∧ Hid (lastOcc s.data.toList [47] m = lastIndex s.data.toList [47])) (fun i => (intOf i + 1).toNat)
    case atStart => exact ⟨s.size, Nat.le_refl _, rfl, hst⟩
    case round =>
      obtain ⟨m, hm, rfl, H⟩ := hrel
      rcases Nat.eq_zero_or_pos m with rfl | hm0
      · have HF := Lib.hid (hne.out (by rw [← H.out]; show (-1 : Int) < 0; decide))
        have hz : ((0 : Nat) : Int) - 1 = -1 := rfl
        simp only [hz]
        clear hz
        go_wp2_with fail
        go_ret2
        rw [HF.out]
        exact ⟨rfl, hb1⟩
      · obtain ⟨k, rfl⟩ : ∃ k, m = k + 1 := ⟨m - 1, by omega⟩
        have hz : ((k + 1 : Nat) : Int) - 1 = (k : Int) := by omega
        simp only [hz]
        clear hz
        have ho := occ_slash (s := s) (k := k) (by omega)
        by_cases hc : s[k] = 47
        · have hc1 : (s[k].toNat : Int) = 47 := by rw [hc]; rfl
          have hL : lastIndex s.data.toList [47] = k := by rw [← H.out]; exact lastOcc_hit _ _ _ (by rw [ho, decide_eq_true hc])
          have hsp := hat.out k hL
          have hsz : (s.extract (k + 1) s.size).size ≤ 1000000000 := Nat.le_trans (extract_size_le s _ _) hs
          have hsu := refSuffix_calls (s.extract (k + 1) s.size) w1 hsz
          have hdr : (s.extract (k + 1) s.size).data.toList = s.data.toList.drop (k + 1) := extract_to_end s (k + 1)
          rw [hdr] at hsu
          clear ho hc hL hdr
          cases hi : isSuf (s.data.toList.drop (k + 1)) with
          | true =>
            obtain ⟨h1, h2⟩ := refSuf_pos hi
            rw [hi, if_pos rfl] at hsp
            rw [h1] at hsu
            generalize sufNum (s.data.toList.drop (k + 1)) = q at hsp hsu h2
            replace hsp := Lib.hid hsp
            replace hsu := Lib.hid hsu
            clear hi h1
            go_wp2_with fail
            refine hsu.out.mono ?_
            rintro e w' ⟨rfl, rfl⟩
            go_wp2_with fail
            go_ret2
            rw [hsp.out, bytes_take]
            exact ⟨rfl, hb1⟩
          | false =>
            have h1 := refSuf_not hi
            rw [hi, if_neg (by decide)] at hsp
            generalize refSuf (s.data.toList.drop (k + 1)) = q at hsu h1
            replace hsp := Lib.hid hsp
            replace hsu := Lib.hid hsu
            clear hi
            go_wp2_with fail
            refine hsu.out.mono ?_
            rintro e w' ⟨rfl, rfl⟩
            go_wp2_with fail
            go_ret2
            rw [hsp.out]
            exact ⟨rfl, hb1⟩
        · have hc1 : ((s[k].toNat : Int) == 47) = false := byte_ne_int (c := 47) rfl hc
          have hc2 : ((s[k].toNat : Int) != 47) = true := by unfold bne; rw [hc1]; rfl
          have H1 : Hid (lastOcc s.data.toList [47] k = lastIndex s.data.toList [47]) := Lib.hid (by rw [← H.out]; exact (lastOcc_miss _ _ _ (by rw [ho, decide_eq_false hc])).symm)
          clear ho hc
          go_wp2_with fail
          go_round
          case rel => exact ⟨k, by omega, by go_num, H1⟩
          case measure => simp [intOf]
  · rw [modSplit_bad h0]
    have hpos : (0 : Int) < (pathErr s.data.toList : Int) := by omega
    generalize pathErr s.data.toList = q at hp hpos
    replace hp := Lib.hid hp
    clear h0
    go_enter Tryz.func131, Tryz.ntmps131
    go_wp2_with fail
    refine hp.out.mono ?_
    rintro e w1 ⟨rfl, hb1⟩
    go_wp2_with fail
    go_ret2
    exact ⟨rfl, hb1⟩
set_option maxHeartbeats 1000000 in
theorem refModErr_calls (p v : ByteArray) (w : World) (hp : p.size ≤ 1000000000) (hv : v.size ≤ 1000000000) :
    Calls Tryz.prog 65 #[.agg #[.string p, .string v]] w fun e w' => e = .returned (.int .i64 (modErr p.data.toList v.data.toList : Nat)) ∧ Below w.heap.size w w' := by
  have hB := below_alloc w (.cells #[.string p, .string v] 29)
  have hz := box2_alloc w (.string p) (.string v) 29
  have hpa := fun W => refPath_calls p W hp
  have hvo := fun W => refVerOf_calls v W hv
  have hsp := fun W => refSplit_calls p W hp
  by_cases h1 : pathErr p.data.toList = 0
  · rw [h1] at hpa
    by_cases h2 : verErr v.data.toList = 0
    · have hm := modErr_major h1 h2
      have hmc : ((modSplit p.data.toList).2 = 0 ∧ 1 < verNum v.data.toList 0) ∨ ((modSplit p.data.toList).2 = 0 ∧ ¬ 1 < verNum v.data.toList 0) ∨ (0 < (modSplit p.data.toList).2 ∧ verNum v.data.toList 0 ≠ (modSplit p.data.toList).2) ∨ (0 < (modSplit p.data.toList).2 ∧ verNum v.data.toList 0 = (modSplit p.data.toList).2) := by omega
      generalize modErr p.data.toList v.data.toList = R at hm ⊢
      rw [h2] at hvo
      generalize verNum v.data.toList 0 = n0 at hm hmc hvo
      generalize verNum v.data.toList 1 = n1 at hvo
      generalize verNum v.data.toList 2 = n2 at hvo
      generalize verPre v.data.toList = pre at hvo
      generalize (modSplit p.data.toList).1 = q1 at hsp
      generalize (modSplit p.data.toList).2 = q at hm hmc hsp
      replace hpa := Lib.hid hpa
      replace hvo := Lib.hid hvo
      replace hsp := Lib.hid hsp
      replace hm := Lib.hid hm
      replace hmc := Lib.hid hmc
      clear h1 h2
      go_enter Tryz.func65, Tryz.ntmps65
      go_wp2_with fail
      refine (hpa.out _).mono ?_
      rintro e w1 ⟨rfl, hb⟩
      replace hB := below_step hB hb
      replace hz := hz.below hb
      clear hb
      have c0 := hz.c0
      have c1 := hz.c1
      go_wp2_with fail
      refine (hvo.out _).mono ?_
      rintro e w2 ⟨⟨vv, rfl, hS⟩, hb⟩
      replace hB := below_step hB hb
      replace hz := hz.below hb
      clear hb
      obtain ⟨a, n, cap, L, rfl, _, _, _, _⟩ := hS
      clear c0 c1
      have hb := below_alloc w2 (.cells #[.int .i64 (n0 : Nat), .int .i64 (n1 : Nat), .int .i64 (n2 : Nat), .slice a n cap] 186)
      have hy := box4_alloc w2 (.int .i64 (n0 : Nat)) (.int .i64 (n1 : Nat)) (.int .i64 (n2 : Nat)) (.slice a n cap) 186
      replace hB := below_step hB hb
      replace hz := hz.below hb
      clear hb
      have c0 := hz.c0
      have c1 := hz.c1
      go_wp2_with fail
      refine (hsp.out _).mono ?_
      rintro e w4 ⟨rfl, hb⟩
      clear c0 c1
      replace hB := below_step hB hb
      replace hz := hz.below hb
      replace hy := hy.below hb
      clear hb
      have z0 := hy.c0
      clear hy hz
      rcases hmc.out with ⟨rfl, h⟩ | ⟨rfl, h⟩ | ⟨h, h'⟩ | ⟨h, rfl⟩
      · have HF : Hid (R = 4) := Lib.hid (by rw [hm.out, if_pos (.inl ⟨rfl, h⟩)])
        have hi : (1 : Int) < (n0 : Int) := by omega
        clear hm hmc h
        go_wp2_with fail
        go_ret
        rw [HF.out]
        exact ⟨rfl, hB⟩
      · have HF : Hid (R = 0) := Lib.hid (by rw [hm.out, if_neg (by omega)])
        have hi : ¬ (1 : Int) < (n0 : Int) := by omega
        clear hm hmc h
        go_wp2_with fail
        go_ret
        rw [HF.out]
        exact ⟨rfl, hB⟩
      · have HF : Hid (R = 4) := Lib.hid (by rw [hm.out, if_pos (.inr ⟨h, h'⟩)])
        have hi : (0 : Int) < (q : Int) := by omega
        have hi0 : ((q : Int) == 0) = false := beq_eq_false_iff_ne.2 (by omega)
        have hi1 : ((n0 : Int) == (q : Int)) = false := beq_eq_false_iff_ne.2 (by omega)
        have hi2 : ((n0 : Int) != (q : Int)) = true := bne_iff_ne.2 (by omega)
        clear hm hmc h h'
        go_wp2_with fail
        go_ret
        rw [HF.out]
        exact ⟨rfl, hB⟩
      · have HF : Hid (R = 0) := Lib.hid (by rw [hm.out, if_neg (by omega)])
        have hi : (0 : Int) < (n0 : Int) := by omega
        have hi0 : ((n0 : Int) == 0) = false := beq_eq_false_iff_ne.2 (by omega)
        clear hm hmc h
        go_wp2_with fail
        go_ret
        rw [HF.out]
        exact ⟨rfl, hB⟩
    · rw [modErr_ver h1 h2]
      have hpos : (0 : Int) < (verErr v.data.toList : Int) := by omega
      generalize verErr v.data.toList = q at hvo hpos
      replace hpa := Lib.hid hpa
      replace hvo := Lib.hid hvo
      clear h1 h2 hsp
      go_enter Tryz.func65, Tryz.ntmps65
      go_wp2_with fail
      refine (hpa.out _).mono ?_
      rintro e w1 ⟨rfl, hb⟩
      replace hB := below_step hB hb
      replace hz := hz.below hb
      clear hb
      have c0 := hz.c0
      have c1 := hz.c1
      go_wp2_with fail
      refine (hvo.out _).mono ?_
      rintro e w2 ⟨⟨vv, rfl, hS⟩, hb⟩
      replace hB := below_step hB hb
      clear hb
      obtain ⟨a, n, cap, L, rfl, _, _, _, _⟩ := hS
      clear c0 c1 hz
      go_wp2_with fail
      go_ret
      exact ⟨rfl, hB.alloc hB.size _⟩
  · rw [modErr_path h1]
    have hpos : (0 : Int) < (pathErr p.data.toList : Int) := by omega
    generalize pathErr p.data.toList = q at hpa hpos
    replace hpa := Lib.hid hpa
    clear h1 hvo hsp
    go_enter Tryz.func65, Tryz.ntmps65
    go_wp2_with fail
    refine (hpa.out _).mono ?_
    rintro e w1 ⟨rfl, hb⟩
    replace hB := below_step hB hb
    clear hb
    go_wp2_with fail
    go_ret
    exact ⟨rfl, hB⟩
theorem refModText_calls (p v : ByteArray) (w : World) (hp : p.size ≤ 1000000000) (hv : v.size ≤ 1000000000) :
    Calls Tryz.prog 55 #[.agg #[.string p, .string v]] w fun e w' => e = .returned (.string ⟨(modText p.data.toList v.data.toList).toArray⟩) ∧ Below w.heap.size w w' := by
  have hB := below_alloc w (.cells #[.string p, .string v] 29)
  have hz := box2_alloc w (.string p) (.string v) 29
  have hm : modText p.data.toList v.data.toList = if modErr p.data.toList v.data.toList = 0 then p.data.toList ++ [64] ++ v.data.toList else [] := rfl
  have hme := fun W => refModErr_calls p v W hp hv
  generalize modText p.data.toList v.data.toList = R at hm ⊢
  generalize modErr p.data.toList v.data.toList = q at hm hme
  replace hm := Lib.hid hm
  replace hme := Lib.hid hme
  go_enter Tryz.func55, Tryz.ntmps55
  go_wp2_with fail
  refine (hme.out _).mono ?_
  rintro e w1 ⟨rfl, hb⟩
  replace hB := below_step hB hb
  replace hz := hz.below hb
  clear hb
  have c0 := hz.c0
  have c1 := hz.c1
  clear hz
  rcases Nat.eq_zero_or_pos q with rfl | h
  · have HF : Hid (R = p.data.toList ++ [64] ++ v.data.toList) := Lib.hid (by rw [hm.out, if_pos rfl])
    go_wp2_with fail
    go_ret
    rw [HF.out]
    refine ⟨?_, hB⟩
    have : p ++ ⟨#[64]⟩ ++ v = ⟨(p.data.toList ++ [64] ++ v.data.toList).toArray⟩ := by
      apply ByteArray.ext
      apply Array.ext'
      simp
    rw [← this]
    rfl
  · have HF : Hid (R = []) := Lib.hid (by rw [hm.out, if_neg (by omega)])
    have hpos : (0 : Int) < (q : Int) := by omega
    clear h
    go_wp2_with fail
    go_ret
    rw [HF.out]
    exact ⟨rfl, hB⟩
end Go.Proofs.Pw
