/- R.PathError. Condition: a text of at most 1000000000 bytes. -/
import Derived.Test.YtaelindfneoajaaGreatDoorRefP
import Derived.Test.YtaelindfneoajaaGreatDoorModPath
namespace Go.Proofs.Pw
open Go.RowKit
open Go.Lib hiding intOf

theorem pathErr_elem {s x : Str} (hm : x ∈ split s [47]) (h : elemOk x = false) : pathErr s = 1 := by
  unfold pathErr
  simp only
  rw [if_pos (List.any_eq_true.2 ⟨x, hm, by rw [h]; rfl⟩)]
theorem pathErr_all {s : Str} (h : (split s [47]).all elemOk = true) : (split s [47]).any (fun w => !elemOk w) = false := by
  rw [Bool.eq_false_iff]
  intro e
  obtain ⟨x, hx, h2⟩ := List.any_eq_true.1 e
  rw [List.all_eq_true.1 h x hx] at h2
  cases h2
theorem pathErr_bound {s : Str} (h : (split s [47]).all elemOk = true) (hb : 5 < (split s [47]).length ∨ (split s [47]).any (fun w => decide (10 < w.length)) = true) : pathErr s = 2 := by
  unfold pathErr
  simp only
  rw [if_neg (by rw [pathErr_all h]; simp), if_pos hb]
theorem pathErr_rest {s : Str} (h : (split s [47]).all elemOk = true) (hb : ¬ (5 < (split s [47]).length ∨ (split s [47]).any (fun w => decide (10 < w.length)) = true)) :
    pathErr s = if 1 < (split s [47]).length ∧ sufWell ((split s [47]).getLast?.getD []) = false then 4 else 0 := by
  unfold pathErr
  simp only
  rw [if_neg (by rw [pathErr_all h]; simp), if_neg hb]
theorem refSuf_neg (x : Str) : refSuf x < 0 ↔ sufWell x = false := by
  unfold refSuf sufWell
  cases looksSuf x with
  | false => simp
  | true =>
    cases isSuf x with
    | true => simp
    | false => simp
theorem long_eq {n : Nat} {B : Bool} : (decide ((5 : Int) < (n : Int)) || B) = true ↔ (5 < n ∨ B = true) := by
  rw [Bool.or_eq_true, decide_eq_true_eq]
  have : (5 : Int) < (n : Int) ↔ 5 < n := by omega
  rw [this]

theorem refCut_slash (s : ByteArray) (w : World) (hs : s.size ≤ 1000000000) :
    Calls Tryz.prog 80 #[.string s, .int .u8 47] w fun e w' => (∃ v, e = .returned v ∧ StrsAt w' v (split s.data.toList [47]) ∧ NewRow w v) ∧ Below w.heap.size w w' := refCut_calls s 47 w hs

set_option maxHeartbeats 2000000 in
set_option maxRecDepth 100000 in
theorem refPath_calls (s : ByteArray) (w : World) (hs : s.size ≤ 1000000000) :
    Calls Tryz.prog 87 #[.string s] w fun e w' => e = .returned (.int .i64 (pathErr s.data.toList : Nat)) ∧ Below w.heap.size w w' := by
  go_enter Tryz.func87, Tryz.ntmps87
  go_wp2_with fail
  refine (refCut_slash s w hs).mono ?_
  rintro e w1 ⟨⟨v, rfl, hS, _⟩, hb1⟩
  obtain ⟨a, n, cap, L, rfl, hl, hn, hcap, hc⟩ := hS
  have hLs := lstF_mem_le (by decide) hl.symm
  have hs' : s.data.toList.length ≤ 1000000000 := by rw [← size_eq]; exact hs
  have hLs9 : ∀ j, j < n → (L j).size ≤ 1000000000 := fun j hj => Nat.le_trans (hLs j hj) hs'
  have hn1 : 1 ≤ n := by
    rcases Nat.eq_zero_or_pos n with rfl | h
    · exact absurd hl (split_ne 47 s.data.toList)
    · exact h
  have hn9 : n ≤ 1000000001 := by
    have h5 := congrArg List.length hl
    rw [lstF_length] at h5
    have := split_len 47 s.data.toList
    omega
  have HL : Hid (split s.data.toList [47] = lstF n L) := Lib.hid hl
  have HC := Lib.hid hc
  clear hl hc hLs hs'
  go_wp2_with fail
  go_loop [4, 5] (fun b i => ∃ (k : Nat) (C : Bool), k ≤ n ∧ i = .int .i64 k ∧ b = .bool C ∧ Hid ((decide ((5 : Int) < (n : Int)) || ((lstF n L).take k).any (fun w => decide (10 < w.length))) = C) ∧ Hid (((lstF n L).take k).all elemOk = true)) (fun _ i => n - (intOf i).toNat)
  case atStart => exact ⟨0, _, Nat.zero_le _, rfl, rfl, Lib.hid (by simp), Lib.hid rfl⟩
  case round =>
    obtain ⟨k, C, hk, rfl, rfl, HB, HA⟩ := hrel
    by_cases hlt : k < n
    · obtain ⟨b1, o1, rfl, hck⟩ := HC.out k hlt
      have hmem : (L k).data.toList ∈ split s.data.toList [47] := by rw [HL.out]; exact List.mem_of_getElem? (lstF_get n L k hlt)
      have HM := Lib.hid hmem
      have hp9 := hLs9 k hlt
      have HT : Hid ((lstF n L).take (k + 1) = (lstF n L).take k ++ [(L k).data.toList]) := Lib.hid (lstF_take_succ n L k hlt)
      clear hmem
      generalize L k = p at hck HM hp9 HT
      go_upto_block 2 with fail
      go_cut [6, 7, 8, 9, 10] from 22 to 83 (fun d _ _ _ _ wx => ∃ D : Bool, d = .bool D ∧ wx = w1 ∧ Hid (p.data.toList.all (· == 46) = D) ∧ Hid (p.data.toList.all isElemByte = true) ∧ Hid (NoOcc p.data.toList dots (p.size - 2)))
      case first =>
        go_wp2_with fail
        go_loop [6, 7, 8, 9, 10] (fun d i _ _ _ => ∃ (m : Nat) (D : Bool), m ≤ p.size ∧ i = .int .i64 m ∧ d = .bool D ∧ Hid ((p.data.toList.take m).all (· == 46) = D) ∧ Hid ((p.data.toList.take m).all isElemByte = true) ∧ Hid (NoOcc p.data.toList dots (m - 2))) (fun _ i _ _ _ => p.size - (intOf i).toNat)
        case atStart => exact ⟨0, true, Nat.zero_le _, rfl, rfl, Lib.hid rfl, Lib.hid rfl, Lib.hid (NoOcc.zero _ _)⟩
        case round =>
          obtain ⟨m, D, hm, rfl, rfl, HD, HE, HO⟩ := hrel
          by_cases hml : m < p.size
          · have hip := isElemByte_iff p[m]
            rcases elem_classes (p[m].toNat : Int) with h | h
            · have hyes : isElemByte p[m] = true := hip.2 (by omega)
              have HN : Hid ((p.data.toList.take (m + 1)).all isElemByte = true) := Lib.hid (by rw [take_snoc p m hml, List.all_append, HE.out]; simp [hyes])
              have HDn : Hid ((p.data.toList.take (m + 1)).all (· == 46) = (D && p[m] == 46)) := Lib.hid (by rw [take_snoc p m hml, List.all_append, HD.out]; simp)
              clear hip hyes
              by_cases h2 : m < 2
              · have HOn : Hid (NoOcc p.data.toList dots (m + 1 - 2)) := Lib.hid (noOcc_step HO.out (fun h => by omega))
                have h2' : ¬ (2 : Int) ≤ (m : Int) := by omega
                have HDa : Hid ((p[m].toNat : Int) = 46 → (p.data.toList.take (m + 1)).all (· == 46) = D) := Lib.hid (fun e => by rw [HDn.out, show p[m] = 46 from UInt8.toNat_inj.1 (by exact_mod_cast e)]; simp)
                have HDb : Hid ((p[m].toNat : Int) ≠ 46 → (p.data.toList.take (m + 1)).all (· == 46) = false) := Lib.hid (fun e => by rw [HDn.out, Bool.and_eq_false_iff]; right; exact beq_eq_false_iff_ne.2 (fun h => e (by rw [h]; rfl)))
                clear HDn
                cases D
                all_goals rcases h with ⟨c1, c2, c3, c4, c5⟩ | ⟨c1, c2, c3, c4, c5⟩ | h | h | h
                all_goals
                  go_wp2_with fail
                  go_round
                  case rel => exact ⟨m + 1, _, by omega, by go_num, rfl, Lib.hid (by first | exact HDa.out h | exact HDb.out (beq_eq_false_iff_ne.1 c5) | exact HDb.out (by omega)), HN, HOn⟩
                  case measure => simp [intOf]; omega
              · obtain ⟨m', rfl⟩ : ∃ m', m = m' + 2 := ⟨m - 2, by omega⟩
                have h2' : (2 : Int) ≤ ((m' + 2 : Nat) : Int) := by omega
                by_cases ho : (p.extract m' (m' + 3)).data.toList = dots
                · have HF : Hid (pathErr s.data.toList = 1) := Lib.hid (pathErr_elem HM.out (elem_occ (k := m') (by omega) (occ_dots.2 ho)))
                  have ho1 : p.extract m' (m' + 3) = ⟨#[46, 46, 46]⟩ := bytes_ext.1 ho
                  clear ho
                  cases D
                  all_goals rcases h with ⟨c1, c2, c3, c4, c5⟩ | ⟨c1, c2, c3, c4, c5⟩ | h | h | h
                  all_goals
                    go_wp2_with fail
                    go_ret
                    rw [HF.out]
                    exact ⟨rfl, hb1⟩
                · have HOn : Hid (NoOcc p.data.toList dots (m' + 2 + 1 - 2)) := Lib.hid (noOcc_step HO.out (fun _ => by
                    rw [Bool.eq_false_iff]; intro e; exact ho (occ_dots.1 e)))
                  have ho1 : p.extract m' (m' + 3) ≠ ⟨#[46, 46, 46]⟩ := fun e => ho (by rw [e]; rfl)
                  have ho2 : ((p.extract m' (m' + 3)).toList == [46, 46, 46]) = false := by rw [toList_data]; exact beq_eq_false_iff_ne.2 ho
                  clear ho
                  have HDa : Hid ((p[m' + 2].toNat : Int) = 46 → (p.data.toList.take (m' + 2 + 1)).all (· == 46) = D) := Lib.hid (fun e => by rw [HDn.out, show p[m' + 2] = 46 from UInt8.toNat_inj.1 (by exact_mod_cast e)]; simp)
                  have HDb : Hid ((p[m' + 2].toNat : Int) ≠ 46 → (p.data.toList.take (m' + 2 + 1)).all (· == 46) = false) := Lib.hid (fun e => by rw [HDn.out, Bool.and_eq_false_iff]; right; exact beq_eq_false_iff_ne.2 (fun h => e (by rw [h]; rfl)))
                  clear HDn
                  cases D
                  all_goals rcases h with ⟨c1, c2, c3, c4, c5⟩ | ⟨c1, c2, c3, c4, c5⟩ | h | h | h
                  all_goals
                    go_wp2_with fail
                    go_round
                    case rel => exact ⟨m' + 2 + 1, _, by omega, by go_num, rfl, Lib.hid (by first | exact HDa.out h | exact HDb.out (beq_eq_false_iff_ne.1 c5) | exact HDb.out (by omega)), HN, HOn⟩
                    case measure => simp [intOf]; omega
            · obtain ⟨⟨hd46, hd45, hd95⟩, hno, h⟩ := h
              have hnot : isElemByte p[m] = false := by
                rw [Bool.eq_false_iff]
                intro e
                have := hip.1 e
                have n46 : (p[m].toNat : Int) ≠ 46 := beq_eq_false_iff_ne.1 hd46
                have n45 : (p[m].toNat : Int) ≠ 45 := beq_eq_false_iff_ne.1 hd45
                have n95 : (p[m].toNat : Int) ≠ 95 := beq_eq_false_iff_ne.1 hd95
                omega
              have HF : Hid (pathErr s.data.toList = 1) := Lib.hid (pathErr_elem HM.out (elem_byte hml hnot))
              have hn46 : ((p[m].toNat : Int) != 46) = true := by unfold bne; rw [hd46]; rfl
              have hn45 : ((p[m].toNat : Int) != 45) = true := by unfold bne; rw [hd45]; rfl
              have hn95 : ((p[m].toNat : Int) != 95) = true := by unfold bne; rw [hd95]; rfl
              clear hip hnot hno
              rcases h with ⟨h1, h2, h3, h4⟩ | ⟨h1, h2, h3, h4⟩ | ⟨h1, h2, h3, h4⟩
              all_goals
                go_wp2_with fail
                go_ret
                rw [HF.out]
                exact ⟨rfl, hb1⟩
          · obtain rfl : m = p.size := by omega
            have HD2 : Hid (p.data.toList.all (· == 46) = D) := Lib.hid (by rw [← HD.out, take_size])
            have HE2 : Hid (p.data.toList.all isElemByte = true) := Lib.hid (by rw [← HE.out, take_size])
            go_wp2_with fail
            go_meet
            exact ⟨D, rfl, rfl, HD2, HE2, HO⟩
      case rest =>
        obtain ⟨D, rfl, rfl, HD, HE, HO⟩ := hcut
        cases D with
        | true =>
          have HF : Hid (pathErr s.data.toList = 1) := Lib.hid (pathErr_elem HM.out (elem_dot HD.out))
          go_wp2_with fail
          go_ret
          rw [HF.out]
          exact ⟨rfl, hb1⟩
        | false =>
          have HN : Hid (((lstF n L).take (k + 1)).all elemOk = true) := Lib.hid (by rw [HT.out, List.all_append, HA.out]; simp [elem_yes HE.out HD.out (by rw [← size_eq]; exact HO.out)])
          have HBn : Hid ((decide ((5 : Int) < (n : Int)) || ((lstF n L).take (k + 1)).any (fun w => decide (10 < w.length))) = (C || decide (10 < p.size))) := Lib.hid (by rw [HT.out, List.any_append, ← Bool.or_assoc, HB.out, size_eq]; simp)
          have HT2 : Hid (10 < p.size → (C || decide (10 < p.size)) = true) := Lib.hid (fun h => by simp [h])
          have HF2 : Hid (¬ 10 < p.size → (C || decide (10 < p.size)) = C) := Lib.hid (fun h => by simp [h])
          by_cases h10 : 10 < p.size
          · have h10' : (10 : Int) < (p.size : Int) := by omega
            rw [HT2.out h10] at HBn
            clear HT2 HF2
            cases C
            all_goals
              go_wp2_with fail
              go_round
              case rel => exact ⟨k + 1, true, by omega, by go_num, rfl, HBn, HN⟩
              case measure => simp [intOf]; omega
          · have h10' : ¬ (10 : Int) < (p.size : Int) := by omega
            rw [HF2.out h10] at HBn
            clear HT2 HF2
            cases C
            all_goals
              go_wp2_with fail
              go_round
              case rel => exact ⟨k + 1, _, by omega, by go_num, rfl, HBn, HN⟩
              case measure => simp [intOf]; omega
    · obtain rfl : k = n := by omega
      have HAll : Hid ((split s.data.toList [47]).all elemOk = true) := Lib.hid (by rw [HL.out, ← HA.out, lstF_take_all])
      have HLen : Hid ((split s.data.toList [47]).length = k) := Lib.hid (by rw [HL.out, lstF_length])
      have HBo : Hid ((5 < (split s.data.toList [47]).length ∨ (split s.data.toList [47]).any (fun w => decide (10 < w.length)) = true) ↔ C = true) := Lib.hid (by
        rw [HLen.out, ← long_eq, ← HB.out, lstF_take_all, HL.out])
      cases C with
      | true =>
        have HF : Hid (pathErr s.data.toList = 2) := Lib.hid (pathErr_bound HAll.out (HBo.out.2 rfl))
        go_wp2_with fail
        go_ret
        rw [HF.out]
        exact ⟨rfl, hb1⟩
      | false =>
        have HR : Hid (pathErr s.data.toList = if 1 < k ∧ sufWell ((L (k - 1)).data.toList) = false then 4 else 0) := Lib.hid (by
          rw [pathErr_rest HAll.out (fun h => by cases HBo.out.1 h), HLen.out, HL.out, getLast_lstF k L hn1])
        by_cases h1 : 1 < k
        · have h1' : (1 : Int) < (k : Int) := by omega
          obtain ⟨b1, o1, rfl, hck⟩ := HC.out (k - 1) (by omega)
          have hi : ((k : Int) - 1).toNat = k - 1 := by omega
          have hp9 := hLs9 (k - 1) (by omega)
          have hsu := refSuffix_calls (L (k - 1)) w1 hp9
          have hneg := refSuf_neg (L (k - 1)).data.toList
          generalize L (k - 1) = p at hck HR hsu hneg
          generalize refSuf p.data.toList = z at hsu hneg
          obtain ⟨k', rfl⟩ : ∃ k', k = k' + 1 := ⟨k - 1, by omega⟩
          simp only [Nat.add_sub_cancel] at hck
          have hk' : ((k' + 1 : Nat) : Int) - 1 = (k' : Int) := by omega
          have hk0 : (0 : Int) ≤ (k' : Int) := by omega
          clear hi
          by_cases hz : z < 0
          · have HF : Hid (pathErr s.data.toList = 4) := Lib.hid (by rw [HR.out, if_pos ⟨h1, hneg.1 hz⟩])
            clear hneg
            go_wp2_with fail
            refine hsu.mono ?_
            rintro e w' ⟨rfl, rfl⟩
            go_wp2_with fail
            go_ret
            rw [HF.out]
            exact ⟨rfl, hb1⟩
          · have HF : Hid (pathErr s.data.toList = 0) := Lib.hid (by rw [HR.out, if_neg (fun h => hz (hneg.2 h.2))])
            clear hneg
            go_wp2_with fail
            refine hsu.mono ?_
            rintro e w' ⟨rfl, rfl⟩
            go_wp2_with fail
            go_ret
            rw [HF.out]
            exact ⟨rfl, hb1⟩
        · have HF : Hid (pathErr s.data.toList = 0) := Lib.hid (by rw [HR.out, if_neg (fun h => h1 h.1)])
          have h1' : ¬ (1 : Int) < (k : Int) := by omega
          go_wp2_with fail
          go_ret
          rw [HF.out]
          exact ⟨rfl, hb1⟩
end Go.Proofs.Pw
