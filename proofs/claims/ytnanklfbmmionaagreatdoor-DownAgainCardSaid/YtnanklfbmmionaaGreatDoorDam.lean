/- Da: walks and plain laws, joined: RefP RefP2 RefO. Conditions: at each theorem. -/
import Derived.Test.YtnanklfbmmionaaGreatDoorDal
import Derived.Test.YtnanklfbmmionaaGreatDoorDaa
import Derived.Lib.IndexLaws
import Derived.Test.YtnanklfbmmionaaGreatDoorDad
import Derived.Test.YtnanklfbmmionaaGreatDoorDae
import Derived.RegionTactic
import Derived.BigRegion

namespace Go.Proofs.Pw
open Go.RowKit
open Go.Lib hiding intOf
def refSuf (s : Str) : Int := if looksSuf s then (if isSuf s then (sufNum s : Int) else -1) else 0
theorem looks_short {s : ByteArray} (h : s.size < 2) : looksSuf s.data.toList = false := by
  unfold looksSuf
  cases hp : hasPrefix s.data.toList [118] with
  | false => rfl
  | true =>
    have h0 := trimPrefix_byte s hp
    rw [sufD, h0, Bool.true_and]
    have : s.data.toList.drop 1 = [] := List.drop_eq_nil_of_le (by rw [← size_eq]; omega)
    rw [this]; rfl
theorem looks_byte {s : ByteArray} (h : 0 < s.size) (hb : s[0] ≠ 118) : looksSuf s.data.toList = false := by
  unfold looksSuf
  rw [hasPrefix_byte s h, decide_eq_false hb, Bool.false_and]
theorem looks_is {s : ByteArray} (h : 0 < s.size) (hb : s[0] = 118) : looksSuf s.data.toList = areDigits (s.extract 1 s.size).data.toList ∧ sufD s.data.toList = (s.extract 1 s.size).data.toList := by
  have hp : hasPrefix s.data.toList [118] = true := by rw [hasPrefix_byte s h, decide_eq_true hb]
  have h0 := trimPrefix_byte s hp
  unfold looksSuf
  rw [sufD, h0, hp, Bool.true_and, extract_to_end]
  exact ⟨rfl, rfl⟩
set_option maxHeartbeats 400000 in
theorem refSuffix_calls (s : ByteArray) (w : World) (hs : s.size ≤ 1000000000) :
    Calls Tryz.prog 181 #[.string s] w fun e w' => e = .returned (.int .i64 (refSuf s.data.toList)) ∧ w = w' := by
  by_cases h2 : s.size < 2
  · have HF : Hid (refSuf s.data.toList = 0) := Lib.hid (by unfold refSuf; rw [looks_short h2]; rfl)
    go_enter Tryz.func181, Tryz.ntmps181
    go_wp2_with fail
    go_ret
    rw [HF.out]
    exact ⟨rfl, rfl⟩
  · have h0 : 0 < s.size := by omega
    by_cases hb : s[0] = 118
    · have hb' : (s[0].toNat : Int) = 118 := by rw [hb]; rfl
      obtain ⟨hl, hd⟩ := looks_is h0 hb
      have hx : (s.extract 1 s.size).size ≤ 4000000000 := Nat.le_trans (extract_size_le s _ _) (by omega)
      have hR : refSuf s.data.toList = if areDigits (s.extract 1 s.size).data.toList then (if (numberOf (s.extract 1 s.size).data.toList).2 = 0 ∧ 2 ≤ (numberOf (s.extract 1 s.size).data.toList).1 then ((numberOf (s.extract 1 s.size).data.toList).1 : Int) else -1) else 0 := by
        unfold refSuf isSuf sufNum
        rw [hl, hd]
        cases areDigits (s.extract 1 s.size).data.toList with
        | false => rfl
        | true => simp only [Bool.true_and, decide_eq_true_eq, if_true]
      have HR := Lib.hid hR
      have hda := refDigits_calls (s.extract 1 s.size) w hx
      have hnu := refNumber_calls (s.extract 1 s.size) w hx
      clear hl hd hR hb
      generalize areDigits (s.extract 1 s.size).data.toList = D at HR hda
      generalize (numberOf (s.extract 1 s.size).data.toList).2 = E at HR hnu
      generalize (numberOf (s.extract 1 s.size).data.toList).1 = M at HR hnu
      cases D with
      | false =>
        go_enter Tryz.func181, Tryz.ntmps181
        go_wp2_with fail
        refine hda.mono ?_
        rintro e w' ⟨rfl, rfl⟩
        go_wp2_with fail
        go_ret
        rw [HR.out]
        exact ⟨rfl, rfl⟩
      | true =>
        by_cases hE : 0 < E
        · have hE' : (0 : Int) < (E : Int) := by omega
          have HF : Hid (refSuf s.data.toList = -1) := Lib.hid (by rw [HR.out, if_pos rfl, if_neg (by omega)])
          go_enter Tryz.func181, Tryz.ntmps181
          go_wp2_with fail
          refine hda.mono ?_
          rintro e w' ⟨rfl, rfl⟩
          go_wp2_with fail
          refine hnu.mono ?_
          rintro e w' ⟨rfl, rfl⟩
          go_wp2_with fail
          go_ret
          rw [HF.out]
          exact ⟨rfl, rfl⟩
        · obtain rfl : E = 0 := by omega
          by_cases hM : M < 2
          · have hM' : (M : Int) < 2 := by omega
            have HF : Hid (refSuf s.data.toList = -1) := Lib.hid (by rw [HR.out, if_pos rfl, if_neg (by omega)])
            go_enter Tryz.func181, Tryz.ntmps181
            go_wp2_with fail
            refine hda.mono ?_
            rintro e w' ⟨rfl, rfl⟩
            go_wp2_with fail
            refine hnu.mono ?_
            rintro e w' ⟨rfl, rfl⟩
            go_wp2_with fail
            go_ret
            rw [HF.out]
            exact ⟨rfl, rfl⟩
          · have hM' : ¬ (M : Int) < 2 := by omega
            have HF : Hid (refSuf s.data.toList = M) := Lib.hid (by rw [HR.out, if_pos rfl, if_pos (by omega)])
            go_enter Tryz.func181, Tryz.ntmps181
            go_wp2_with fail
            refine hda.mono ?_
            rintro e w' ⟨rfl, rfl⟩
            go_wp2_with fail
            refine hnu.mono ?_
            rintro e w' ⟨rfl, rfl⟩
            go_wp2_with fail
            go_ret
            rw [HF.out]
            exact ⟨rfl, rfl⟩
    · have HF : Hid (refSuf s.data.toList = 0) := Lib.hid (by unfold refSuf; rw [looks_byte h0 hb]; rfl)
      have hb' : ((s[0].toNat : Int) == 118) = false := byte_ne_int (c := 118) rfl hb
      clear hb
      go_enter Tryz.func181, Tryz.ntmps181
      go_wp2_with fail
      go_ret
      rw [HF.out]
      exact ⟨rfl, rfl⟩
theorem isElemByte_iff (c : UInt8) : isElemByte c = true ↔ (97 ≤ (c.toNat : Int) ∧ (c.toNat : Int) ≤ 122) ∨ (48 ≤ (c.toNat : Int) ∧ (c.toNat : Int) ≤ 57) ∨ (c.toNat : Int) = 46 ∨ (c.toNat : Int) = 45 ∨ (c.toNat : Int) = 95 := by
  unfold isElemByte isDig
  have e : ∀ d : UInt8, (c == d) = decide (c.toNat = d.toNat) := fun d => by
    rw [Bool.eq_iff_iff, beq_iff_eq, decide_eq_true_eq]
    exact ⟨fun h => by rw [h], fun h => UInt8.toNat_inj.1 h⟩
  rw [e, e, e]
  simp only [Bool.or_eq_true, decide_eq_true_eq, show (46 : UInt8).toNat = 46 from rfl, show (45 : UInt8).toNat = 45 from rfl, show (95 : UInt8).toNat = 95 from rfl]
  omega
theorem elem_classes (c : Int) :
    ((97 ≤ c ∧ c ≤ 122 ∧ 48 ≤ c ∧ ¬ c ≤ 57 ∧ (c == 46) = false) ∨ (¬ 97 ≤ c ∧ c ≤ 122 ∧ 48 ≤ c ∧ c ≤ 57 ∧ (c == 46) = false) ∨ c = 45 ∨ c = 95 ∨ c = 46) ∨
    (((c == 46) = false ∧ (c == 45) = false ∧ (c == 95) = false) ∧ ¬ ((97 ≤ c ∧ c ≤ 122) ∨ (48 ≤ c ∧ c ≤ 57)) ∧
      ((¬ 97 ≤ c ∧ c ≤ 122 ∧ ¬ 48 ≤ c ∧ c ≤ 57) ∨ (¬ 97 ≤ c ∧ c ≤ 122 ∧ 48 ≤ c ∧ ¬ c ≤ 57) ∨ (97 ≤ c ∧ ¬ c ≤ 122 ∧ 48 ≤ c ∧ ¬ c ≤ 57))) := by
  have e : ∀ d : Int, (c == d) = false ↔ c ≠ d := fun d => beq_eq_false_iff_ne
  simp only [e]
  omega
theorem elem_byte {s : ByteArray} {k : Nat} (h : k < s.size) (hb : isElemByte s[k] = false) : elemOk s.data.toList = false := by
  have : s.data.toList.all isElemByte = false := by
    rw [Bool.eq_false_iff]
    intro e
    have := List.all_eq_true.1 e _ (byte_mem s k h)
    rw [hb] at this
    cases this
  unfold elemOk
  rw [this]
  simp
theorem occ_dots {s : ByteArray} {k : Nat} : occAt s.data.toList dots k = true ↔ (s.extract k (k + 3)).data.toList = dots := by
  unfold occAt
  have e : (s.extract k (k + 3)).data.toList = (s.data.toList.drop k).take 3 := by rw [extract_data, Nat.add_sub_cancel_left]
  rw [List.isPrefixOf_iff_prefix, e]
  constructor
  · rintro ⟨t, ht⟩
    rw [← ht]; rfl
  · intro h
    exact ⟨(s.data.toList.drop k).drop 3, by rw [← h]; exact List.take_append_drop 3 _⟩
theorem elem_occ {s : ByteArray} {k : Nat} (hk : k ≤ s.size) (h : occAt s.data.toList dots k = true) : elemOk s.data.toList = false := by
  have : contains s.data.toList dots = true := by
    unfold contains
    apply decide_eq_true
    rcases index_spec s.data.toList dots with ⟨_, h2⟩ | ⟨i, h1, _⟩
    · have := h2 k (by rw [← size_eq]; exact hk)
      rw [h] at this; cases this
    · omega
  unfold elemOk
  rw [this]
  simp
theorem elem_dot {s : Str} (h : s.all (· == 46) = true) : elemOk s = false := by unfold elemOk; rw [h]; simp
theorem elem_yes {s : Str} (h1 : s.all isElemByte = true) (h2 : s.all (· == 46) = false) (h3 : NoOcc s dots (s.length - 2)) : elemOk s = true := by
  have hc : contains s dots = false := by
    unfold contains
    apply decide_eq_false
    rw [index_past (by decide) h3 (by show s.length < s.length - 2 + 3; omega)]
    decide
  have he : s.isEmpty = false := by cases s with | nil => cases h2 | cons => rfl
  unfold elemOk
  rw [he, h1, h2, hc]
  rfl
theorem noOcc_step {s : ByteArray} {m : Nat} (h : NoOcc s.data.toList dots (m - 2)) (hno : 2 ≤ m → occAt s.data.toList dots (m - 2) = false) : NoOcc s.data.toList dots (m + 1 - 2) := by
  intro j hj
  by_cases e : j = m - 2
  · subst e
    exact hno (by omega)
  · exact h j (by omega)
end Go.Proofs.Pw

namespace Go.Proofs.Pw
open Go.RowKit
open Go.Lib hiding intOf
theorem pathErr_elem {s x : Str} (hm : x ∈ split s [47]) (h : elemOk x = false) : pathErr s = 1 := by
  unfold pathErr
  simp only
  rw [if_pos (List.any_eq_true.2 ⟨x, hm, by rw [h]; rfl⟩)]
theorem pathErr_all {s : Str} (h : (split s [47]).all elemOk = true) : (split s [47]).any (fun w => !elemOk w) = false := by
  rw [Bool.eq_false_iff]
  intro e
  obtain ⟨x, hx, h2⟩ := List.any_eq_true.1 e
  rw [List.all_eq_true.1 h x hx] at h2
  cases h2
theorem pathErr_bound {s : Str} (h : (split s [47]).all elemOk = true) (hb : 5 < (split s [47]).length ∨ (split s [47]).any (fun w => decide (10 < w.length)) = true) : pathErr s = 2 := by
  unfold pathErr
  simp only
  rw [if_neg (by rw [pathErr_all h]; simp), if_pos hb]
theorem pathErr_rest {s : Str} (h : (split s [47]).all elemOk = true) (hb : ¬ (5 < (split s [47]).length ∨ (split s [47]).any (fun w => decide (10 < w.length)) = true)) :
    pathErr s = if 1 < (split s [47]).length ∧ sufWell ((split s [47]).getLast?.getD []) = false then 4 else 0 := by
  unfold pathErr
  simp only
  rw [if_neg (by rw [pathErr_all h]; simp), if_neg hb]
theorem refSuf_neg (x : Str) : refSuf x < 0 ↔ sufWell x = false := by
  unfold refSuf sufWell
  cases looksSuf x with
  | false => simp
  | true =>
    cases isSuf x with
    | true => simp
    | false => simp
theorem long_eq {n : Nat} {B : Bool} : (decide ((5 : Int) < (n : Int)) || B) = true ↔ (5 < n ∨ B = true) := by
  rw [Bool.or_eq_true, decide_eq_true_eq]
  have : (5 : Int) < (n : Int) ↔ 5 < n := by omega
  rw [this]
theorem refCut_slash (s : ByteArray) (w : World) (hs : s.size ≤ 1000000000) :
    Calls Tryz.prog 87 #[.string s, .int .u8 47] w fun e w' => (∃ v, e = .returned v ∧ StrsAt w' v (split s.data.toList [47]) ∧ NewRow w v) ∧ Below w.heap.size w w' := refCut_calls s 47 w hs
set_option maxHeartbeats 2000000 in
set_option maxRecDepth 100000 in
theorem refPath_calls (s : ByteArray) (w : World) (hs : s.size ≤ 1000000000) :
    Calls Tryz.prog 122 #[.string s] w fun e w' => e = .returned (.int .i64 (pathErr s.data.toList : Nat)) ∧ Below w.heap.size w w' := by
  go_enter Tryz.func122, Tryz.ntmps122
  go_wp2_with fail
  refine (refCut_slash s w hs).mono ?_
  rintro e w1 ⟨⟨v, rfl, hS, _⟩, hb1⟩
  obtain ⟨a, n, cap, L, rfl, hl, hn, hcap, hc⟩ := hS
  have hLs := lstF_mem_le (by decide) hl.symm
  have hs' : s.data.toList.length ≤ 1000000000 := by rw [← size_eq]; exact hs
  have hLs9 : ∀ j, j < n → (L j).size ≤ 1000000000 := fun j hj => Nat.le_trans (hLs j hj) hs'
  have hn1 : 1 ≤ n := by
    rcases Nat.eq_zero_or_pos n with rfl | h
    · exact absurd hl (split_ne 47 s.data.toList)
    · exact h
  have hn9 : n ≤ 1000000001 := by
    have h5 := congrArg List.length hl
    rw [lstF_length] at h5
    have := split_len 47 s.data.toList
    omega
  have HL : Hid (split s.data.toList [47] = lstF n L) := Lib.hid hl
  have HC := Lib.hid hc
  clear hl hc hLs hs'
  go_wp2_with fail
  go_loop [4, 5] (fun b i => ∃ (k : Nat) (C : Bool), k ≤ n ∧ i = .int .i64 k ∧ b = .bool C ∧ Hid ((decide ((5 : Int) < (n : Int)) || ((lstF n L).take k).any (fun w => decide (10 < w.length))) = C) ∧ Hid (((lstF n L).take k).all elemOk = true)) (fun _ i => n - (intOf i).toNat)
  case atStart => exact ⟨0, _, Nat.zero_le _, rfl, rfl, Lib.hid (by simp), Lib.hid rfl⟩
  case round =>
    obtain ⟨k, C, hk, rfl, rfl, HB, HA⟩ := hrel
    by_cases hlt : k < n
    · obtain ⟨b1, o1, rfl, hck⟩ := HC.out k hlt
      have hmem : (L k).data.toList ∈ split s.data.toList [47] := by rw [HL.out]; exact List.mem_of_getElem? (lstF_get n L k hlt)
      have HM := Lib.hid hmem
      have hp9 := hLs9 k hlt
      have HT : Hid ((lstF n L).take (k + 1) = (lstF n L).take k ++ [(L k).data.toList]) := Lib.hid (lstF_take_succ n L k hlt)
      clear hmem
      generalize L k = p at hck HM hp9 HT
      go_upto_block 2 with fail
      go_cut [6, 7, 8, 9, 10] from 22 to 83 (fun d _ _ _ _ wx => ∃ D : Bool, d = .bool D ∧ wx = w1 ∧ Hid (p.data.toList.all (· == 46) = D) ∧ Hid (p.data.toList.all isElemByte = true) ∧ Hid (NoOcc p.data.toList dots (p.size - 2)))
      case first =>
        go_wp2_with fail
        go_loop [6, 7, 8, 9, 10] (fun d i _ _ _ => ∃ (m : Nat) (D : Bool), m ≤ p.size ∧ i = .int .i64 m ∧ d = .bool D ∧ Hid ((p.data.toList.take m).all (· == 46) = D) ∧ Hid ((p.data.toList.take m).all isElemByte = true) ∧ Hid (NoOcc p.data.toList dots (m - 2))) (fun _ i _ _ _ => p.size - (intOf i).toNat)
        case atStart => exact ⟨0, true, Nat.zero_le _, rfl, rfl, Lib.hid rfl, Lib.hid rfl, Lib.hid (NoOcc.zero _ _)⟩
        case round =>
          obtain ⟨m, D, hm, rfl, rfl, HD, HE, HO⟩ := hrel
          by_cases hml : m < p.size
          · have hip := isElemByte_iff p[m]
            rcases elem_classes (p[m].toNat : Int) with h | h
            · have hyes : isElemByte p[m] = true := hip.2 (by omega)
              have HN : Hid ((p.data.toList.take (m + 1)).all isElemByte = true) := Lib.hid (by rw [take_snoc p m hml, List.all_append, HE.out]; simp [hyes])
              have HDn : Hid ((p.data.toList.take (m + 1)).all (· == 46) = (D && p[m] == 46)) := Lib.hid (by rw [take_snoc p m hml, List.all_append, HD.out]; simp)
              clear hip hyes
              by_cases h2 : m < 2
              · have HOn : Hid (NoOcc p.data.toList dots (m + 1 - 2)) := Lib.hid (noOcc_step HO.out (fun h => by omega))
                have h2' : ¬ (2 : Int) ≤ (m : Int) := by omega
                have HDa : Hid ((p[m].toNat : Int) = 46 → (p.data.toList.take (m + 1)).all (· == 46) = D) := Lib.hid (fun e => by rw [HDn.out, show p[m] = 46 from UInt8.toNat_inj.1 (by exact_mod_cast e)]; simp)
                have HDb : Hid ((p[m].toNat : Int) ≠ 46 → (p.data.toList.take (m + 1)).all (· == 46) = false) := Lib.hid (fun e => by rw [HDn.out, Bool.and_eq_false_iff]; right; exact beq_eq_false_iff_ne.2 (fun h => e (by rw [h]; rfl)))
                clear HDn
                cases D
                all_goals rcases h with ⟨c1, c2, c3, c4, c5⟩ | ⟨c1, c2, c3, c4, c5⟩ | h | h | h
                all_goals
                  go_wp2_with fail
                  go_round
                  case rel => exact ⟨m + 1, _, by omega, by go_num, rfl, Lib.hid (by first | exact HDa.out h | exact HDb.out (beq_eq_false_iff_ne.1 c5) | exact HDb.out (by omega)), HN, HOn⟩
                  case measure => simp [intOf]; omega
              · obtain ⟨m', rfl⟩ : ∃ m', m = m' + 2 := ⟨m - 2, by omega⟩
                have h2' : (2 : Int) ≤ ((m' + 2 : Nat) : Int) := by omega
                by_cases ho : (p.extract m' (m' + 3)).data.toList = dots
                · have HF : Hid (pathErr s.data.toList = 1) := Lib.hid (pathErr_elem HM.out (elem_occ (k := m') (by omega) (occ_dots.2 ho)))
                  have ho1 : p.extract m' (m' + 3) = ⟨#[46, 46, 46]⟩ := bytes_ext.1 ho
                  clear ho
                  cases D
                  all_goals rcases h with ⟨c1, c2, c3, c4, c5⟩ | ⟨c1, c2, c3, c4, c5⟩ | h | h | h
                  all_goals
                    go_wp2_with fail
                    go_ret
                    rw [HF.out]
                    exact ⟨rfl, hb1⟩
                · have HOn : Hid (NoOcc p.data.toList dots (m' + 2 + 1 - 2)) := Lib.hid (noOcc_step HO.out (fun _ => by
                    rw [Bool.eq_false_iff]; intro e; exact ho (occ_dots.1 e)))
                  have ho1 : p.extract m' (m' + 3) ≠ ⟨#[46, 46, 46]⟩ := fun e => ho (by rw [e]; rfl)
                  have ho2 : ((p.extract m' (m' + 3)).toList == [46, 46, 46]) = false := by rw [toList_data]; exact beq_eq_false_iff_ne.2 ho
                  clear ho
                  have HDa : Hid ((p[m' + 2].toNat : Int) = 46 → (p.data.toList.take (m' + 2 + 1)).all (· == 46) = D) := Lib.hid (fun e => by rw [HDn.out, show p[m' + 2] = 46 from UInt8.toNat_inj.1 (by exact_mod_cast e)]; simp)
                  have HDb : Hid ((p[m' + 2].toNat : Int) ≠ 46 → (p.data.toList.take (m' + 2 + 1)).all (· == 46) = false) := Lib.hid (fun e => by rw [HDn.out, Bool.and_eq_false_iff]; right; exact beq_eq_false_iff_ne.2 (fun h => e (by rw [h]; rfl)))
                  clear HDn
                  cases D
                  all_goals rcases h with ⟨c1, c2, c3, c4, c5⟩ | ⟨c1, c2, c3, c4, c5⟩ | h | h | h
                  all_goals
                    go_wp2_with fail
                    go_round
                    case rel => exact ⟨m' + 2 + 1, _, by omega, by go_num, rfl, Lib.hid (by first | exact HDa.out h | exact HDb.out (beq_eq_false_iff_ne.1 c5) | exact HDb.out (by omega)), HN, HOn⟩
                    case measure => simp [intOf]; omega
            · obtain ⟨⟨hd46, hd45, hd95⟩, hno, h⟩ := h
              have hnot : isElemByte p[m] = false := by
                rw [Bool.eq_false_iff]
                intro e
                have := hip.1 e
                have n46 : (p[m].toNat : Int) ≠ 46 := beq_eq_false_iff_ne.1 hd46
                have n45 : (p[m].toNat : Int) ≠ 45 := beq_eq_false_iff_ne.1 hd45
                have n95 : (p[m].toNat : Int) ≠ 95 := beq_eq_false_iff_ne.1 hd95
                omega
              have HF : Hid (pathErr s.data.toList = 1) := Lib.hid (pathErr_elem HM.out (elem_byte hml hnot))
              have hn46 : ((p[m].toNat : Int) != 46) = true := by unfold bne; rw [hd46]; rfl
              have hn45 : ((p[m].toNat : Int) != 45) = true := by unfold bne; rw [hd45]; rfl
              have hn95 : ((p[m].toNat : Int) != 95) = true := by unfold bne; rw [hd95]; rfl
              clear hip hnot hno
              rcases h with ⟨h1, h2, h3, h4⟩ | ⟨h1, h2, h3, h4⟩ | ⟨h1, h2, h3, h4⟩
              all_goals
                go_wp2_with fail
                go_ret
                rw [HF.out]
                exact ⟨rfl, hb1⟩
          · obtain rfl : m = p.size := by omega
            have HD2 : Hid (p.data.toList.all (· == 46) = D) := Lib.hid (by rw [← HD.out, take_size])
            have HE2 : Hid (p.data.toList.all isElemByte = true) := Lib.hid (by rw [← HE.out, take_size])
            go_wp2_with fail
            go_meet
            exact ⟨D, rfl, rfl, HD2, HE2, HO⟩
      case rest =>
        obtain ⟨D, rfl, rfl, HD, HE, HO⟩ := hcut
        cases D with
        | true =>
          have HF : Hid (pathErr s.data.toList = 1) := Lib.hid (pathErr_elem HM.out (elem_dot HD.out))
          go_wp2_with fail
          go_ret
          rw [HF.out]
          exact ⟨rfl, hb1⟩
        | false =>
          have HN : Hid (((lstF n L).take (k + 1)).all elemOk = true) := Lib.hid (by rw [HT.out, List.all_append, HA.out]; simp [elem_yes HE.out HD.out (by rw [← size_eq]; exact HO.out)])
          have HBn : Hid ((decide ((5 : Int) < (n : Int)) || ((lstF n L).take (k + 1)).any (fun w => decide (10 < w.length))) = (C || decide (10 < p.size))) := Lib.hid (by rw [HT.out, List.any_append, ← Bool.or_assoc, HB.out, size_eq]; simp)
          have HT2 : Hid (10 < p.size → (C || decide (10 < p.size)) = true) := Lib.hid (fun h => by simp [h])
          have HF2 : Hid (¬ 10 < p.size → (C || decide (10 < p.size)) = C) := Lib.hid (fun h => by simp [h])
          by_cases h10 : 10 < p.size
          · have h10' : (10 : Int) < (p.size : Int) := by omega
            rw [HT2.out h10] at HBn
            clear HT2 HF2
            cases C
            all_goals
              go_wp2_with fail
              go_round
              case rel => exact ⟨k + 1, true, by omega, by go_num, rfl, HBn, HN⟩
              case measure => simp [intOf]; omega
          · have h10' : ¬ (10 : Int) < (p.size : Int) := by omega
            rw [HF2.out h10] at HBn
            clear HT2 HF2
            cases C
            all_goals
              go_wp2_with fail
              go_round
              case rel => exact ⟨k + 1, _, by omega, by go_num, rfl, HBn, HN⟩
              case measure => simp [intOf]; omega
    · obtain rfl : k = n := by omega
      have HAll : Hid ((split s.data.toList [47]).all elemOk = true) := Lib.hid (by rw [HL.out, ← HA.out, lstF_take_all])
      have HLen : Hid ((split s.data.toList [47]).length = k) := Lib.hid (by rw [HL.out, lstF_length])
      have HBo : Hid ((5 < (split s.data.toList [47]).length ∨ (split s.data.toList [47]).any (fun w => decide (10 < w.length)) = true) ↔ C = true) := Lib.hid (by
        rw [HLen.out, ← long_eq, ← HB.out, lstF_take_all, HL.out])
      cases C with
      | true =>
        have HF : Hid (pathErr s.data.toList = 2) := Lib.hid (pathErr_bound HAll.out (HBo.out.2 rfl))
        go_wp2_with fail
        go_ret
        rw [HF.out]
        exact ⟨rfl, hb1⟩
      | false =>
        have HR : Hid (pathErr s.data.toList = if 1 < k ∧ sufWell ((L (k - 1)).data.toList) = false then 4 else 0) := Lib.hid (by
          rw [pathErr_rest HAll.out (fun h => by cases HBo.out.1 h), HLen.out, HL.out, getLast_lstF k L hn1])
        by_cases h1 : 1 < k
        · have h1' : (1 : Int) < (k : Int) := by omega
          obtain ⟨b1, o1, rfl, hck⟩ := HC.out (k - 1) (by omega)
          have hi : ((k : Int) - 1).toNat = k - 1 := by omega
          have hp9 := hLs9 (k - 1) (by omega)
          have hsu := refSuffix_calls (L (k - 1)) w1 hp9
          have hneg := refSuf_neg (L (k - 1)).data.toList
          generalize L (k - 1) = p at hck HR hsu hneg
          generalize refSuf p.data.toList = z at hsu hneg
          obtain ⟨k', rfl⟩ : ∃ k', k = k' + 1 := ⟨k - 1, by omega⟩
          simp only [Nat.add_sub_cancel] at hck
          have hk' : ((k' + 1 : Nat) : Int) - 1 = (k' : Int) := by omega
          have hk0 : (0 : Int) ≤ (k' : Int) := by omega
          clear hi
          by_cases hz : z < 0
          · have HF : Hid (pathErr s.data.toList = 4) := Lib.hid (by rw [HR.out, if_pos ⟨h1, hneg.1 hz⟩])
            clear hneg
            go_wp2_with fail
            refine hsu.mono ?_
            rintro e w' ⟨rfl, rfl⟩
            go_wp2_with fail
            go_ret
            rw [HF.out]
            exact ⟨rfl, hb1⟩
          · have HF : Hid (pathErr s.data.toList = 0) := Lib.hid (by rw [HR.out, if_neg (fun h => hz (hneg.2 h.2))])
            clear hneg
            go_wp2_with fail
            refine hsu.mono ?_
            rintro e w' ⟨rfl, rfl⟩
            go_wp2_with fail
            go_ret
            rw [HF.out]
            exact ⟨rfl, hb1⟩
        · have HF : Hid (pathErr s.data.toList = 0) := Lib.hid (by rw [HR.out, if_neg (fun h => h1 h.1)])
          have h1' : ¬ (1 : Int) < (k : Int) := by omega
          go_wp2_with fail
          go_ret
          rw [HF.out]
          exact ⟨rfl, hb1⟩
end Go.Proofs.Pw

namespace Go.Proofs.Pw
open Go.RowKit
open Go.Lib hiding intOf
def sgnB (x y : Bool) : Int := if x then -1 else if y then 1 else 0
theorem sgnB_int (a b : Int) : sgnB (decide (a < b)) (decide (b < a)) = sgn (a - b) := by
  unfold sgnB sgn
  by_cases h : a < b
  · simp [h]; omega
  · by_cases h2 : b < a
    · simp [h, h2]; omega
    · simp [h, h2]; omega
theorem sgnB_bytes (a b : Str) : sgnB (Op.bytesLess a b) (!Op.bytesLess a b && !(a == b)) = sgn (compareBytes a b) := by
  rw [bytesLess_iff]
  unfold sgnB sgn
  by_cases h : compareBytes a b < 0
  · simp [h]
  · by_cases h2 : 0 < compareBytes a b
    · have : ¬ a = b := fun e => by subst e; rw [compareBytes_ord.self] at h2; omega
      simp [h, h2, this]
    · have : a = b := compareBytes_zero (by omega)
      subst this
      simp [compareBytes_ord.self]
theorem sgn_zero' : sgn 0 = 0 := rfl
theorem sign_calls (x y : Bool) (w : World) :
    Calls Tryz.prog 119 #[.bool x, .bool y] w fun e w' => e = .returned (.int .i64 (sgnB x y)) ∧ w' = w := by
  cases x with
  | true =>
    go_enter Tryz.func119, Tryz.ntmps119
    go_wp2_with fail
    go_ret
    exact ⟨rfl, rfl⟩
  | false =>
    cases y with
    | true =>
      go_enter Tryz.func119, Tryz.ntmps119
      go_wp2_with fail
      go_ret
      exact ⟨rfl, rfl⟩
    | false =>
      go_enter Tryz.func119, Tryz.ntmps119
      go_wp2_with fail
      go_ret
      exact ⟨rfl, rfl⟩
theorem orderPart_calls (a b : ByteArray) (w : World) (ha : a.size ≤ 4000000000) (hb : b.size ≤ 4000000000) :
    Calls Tryz.prog 120 #[.string a, .string b] w fun e w' => e = .returned (.int .i64 (ordPart a.data.toList b.data.toList)) ∧ w' = w := by
  have hm : ordPart a.data.toList b.data.toList = if areDigits a.data.toList && areDigits b.data.toList then sgnB (decide (((numberOf a.data.toList).1 : Int) < (numberOf b.data.toList).1)) (decide (((numberOf b.data.toList).1 : Int) < (numberOf a.data.toList).1)) else if areDigits a.data.toList || areDigits b.data.toList then sgnB (areDigits a.data.toList) (areDigits b.data.toList) else sgnB (Op.bytesLess a.toList b.toList) (!Op.bytesLess a.toList b.toList && !(a.toList == b.toList)) := by
    rw [toList_data, toList_data, sgnB_bytes, sgnB_int]
    unfold ordPart
    cases areDigits a.data.toList <;> cases areDigits b.data.toList <;> rfl
  generalize ordPart a.data.toList b.data.toList = R at hm ⊢
  have h1 := fun W => refDigits_calls a W ha
  have h2 := fun W => refDigits_calls b W hb
  have h3 := fun W => refNumber_calls a W ha
  have h4 := fun W => refNumber_calls b W hb
  generalize areDigits a.data.toList = x at h1 hm
  generalize areDigits b.data.toList = y at h2 hm
  generalize (numberOf a.data.toList).1 = m at h3 hm
  generalize (numberOf b.data.toList).1 = n at h4 hm
  have HM := Lib.hid hm
  have H1 := Lib.hid h1
  have H2 := Lib.hid h2
  have H3 := Lib.hid h3
  have H4 := Lib.hid h4
  clear hm h1 h2 h3 h4
  go_enter Tryz.func120, Tryz.ntmps120
  go_wp2_with fail
  refine (H1.out w).mono ?_
  rintro e w1 ⟨rfl, rfl⟩
  go_wp2_with fail
  refine (H2.out w).mono ?_
  rintro e w1 ⟨rfl, rfl⟩
  cases x <;> cases y
  case false.false =>
    go_wp2_with fail
    refine (sign_calls _ _ w).mono ?_
    rintro e w1 ⟨rfl, rfl⟩
    go_wp2_with fail
    go_ret
    rw [HM.out]
    exact ⟨by simp, rfl⟩
  case true.true =>
    go_wp2_with fail
    refine (H3.out w).mono ?_
    rintro e w1 ⟨rfl, rfl⟩
    go_wp2_with fail
    refine (H4.out w).mono ?_
    rintro e w1 ⟨rfl, rfl⟩
    go_wp2_with fail
    refine (sign_calls _ _ w).mono ?_
    rintro e w1 ⟨rfl, rfl⟩
    go_wp2_with fail
    go_ret
    rw [HM.out]
    exact ⟨by simp, rfl⟩
  all_goals
    go_wp2_with fail
    refine (sign_calls _ _ w).mono ?_
    rintro e w1 ⟨rfl, rfl⟩
    go_wp2_with fail
    go_ret
    rw [HM.out]
    exact ⟨rfl, rfl⟩
theorem verNums_at {a b : Str} {k : Nat} (hk : k < 3) (h0 : ∀ j, j < k → verNum a j = verNum b j) (hne : verNum a k ≠ verNum b k) : verNums a b = (verNum a k : Int) - verNum b k := by
  unfold verNums orI
  obtain rfl | rfl | rfl : k = 0 ∨ k = 1 ∨ k = 2 := by omega
  · rw [if_neg (by omega)]
  · have := h0 0 (by omega)
    rw [if_pos (by omega), if_neg (by omega)]
  · have := h0 0 (by omega)
    have := h0 1 (by omega)
    rw [if_pos (by omega), if_pos (by omega)]
theorem verNums_same {a b : Str} (h0 : ∀ j, j < 3 → verNum a j = verNum b j) : verNums a b = 0 := by
  have := h0 0 (by omega)
  have := h0 1 (by omega)
  have := h0 2 (by omega)
  unfold verNums orI
  rw [if_pos (by omega), if_pos (by omega)]
  omega
theorem sgn_verKey {a b : Str} : sgn (verKey a b) = sgn (verCmp a b) := by
  have := verCmp_sign a b
  have h3 := verKey_ord.anti a b
  unfold sgn
  split <;> split <;> (try split) <;> (try split) <;> omega
theorem verKey_nums {a b : Str} (h : verNums a b ≠ 0) : verKey a b = verNums a b := by unfold verKey orI; rw [if_neg h]
theorem verKey_pre {a b : Str} (h : verNums a b = 0) : verKey a b = orI (preEnd a - preEnd b) (cmpList (verPre a) (verPre b)) := by unfold verKey; rw [h]; rfl
theorem sgnB_ne {x y : Nat} (h : x ≠ y) : sgnB (decide ((x : Int) < y)) true = sgn ((x : Int) - y) := by
  by_cases h1 : x < y
  · rw [sgn_neg (by omega)]
    simp [sgnB, h1]
  · rw [sgn_pos (by omega)]
    simp [sgnB, h1]
theorem ordEnd {a b : Str} {n1 n2 : Nat} {L1 L2 : Nat → ByteArray} (h : verNums a b = 0) (h1 : verPre a = lstF n1 L1) (h2 : verPre b = lstF n2 L2) :
    (n1 = 0 ∨ n2 = 0 → sgn (verKey a b) = sgnB (decide ((0 : Int) < n1)) (decide ((0 : Int) < n2))) ∧ (n1 ≠ 0 → n2 ≠ 0 → sgn (verKey a b) = sgn (cmpList (lstF n1 L1) (lstF n2 L2))) := by
  rw [verKey_pre h]
  unfold preEnd
  rw [h1, h2, lstF_length, lstF_length]
  refine ⟨fun h0 => ?_, fun q1 q2 => ?_⟩
  · by_cases q1 : n1 = 0
    · subst q1
      by_cases q2 : n2 = 0
      · subst q2; rfl
      · have hd : decide ((0 : Int) < n2) = true := decide_eq_true (by omega)
        rw [hd, if_pos rfl, if_neg q2]; rfl
    · obtain rfl : n2 = 0 := by omega
      have hd : decide ((0 : Int) < n1) = true := decide_eq_true (by omega)
      rw [hd, if_neg q1, if_pos rfl]; rfl
  · rw [if_neg q1, if_neg q2]; rfl
theorem cmpList_end1 {n m : Nat} {L M : Nat → ByteArray} {k : Nat} (h : k = n) (hm : k ≤ m) : sgn (cmpList ((lstF n L).drop k) ((lstF m M).drop k)) = sgnB (decide ((n : Int) < m)) (decide ((m : Int) < n)) := by
  subst h
  rw [List.drop_of_length_le (l := lstF k L) (by rw [lstF_length]; exact Nat.le_refl _)]
  by_cases h2 : k < m
  · rw [List.drop_eq_getElem_cons (by rw [lstF_length]; exact h2), decide_eq_true (show (k : Int) < m by omega)]; rfl
  · rw [List.drop_of_length_le (by rw [lstF_length]; omega), decide_eq_false (show ¬ (k : Int) < m by omega), decide_eq_false (show ¬ (m : Int) < k by omega)]; rfl
theorem cmpList_end2 {n m : Nat} {L M : Nat → ByteArray} {k : Nat} (h : k = m) (hm : k < n) : sgn (cmpList ((lstF n L).drop k) ((lstF m M).drop k)) = sgnB (decide ((n : Int) < m)) (decide ((m : Int) < n)) := by
  subst h
  rw [List.drop_of_length_le (l := lstF k M) (by rw [lstF_length]; exact Nat.le_refl _), List.drop_eq_getElem_cons (by rw [lstF_length]; exact hm), decide_eq_false (show ¬ (n : Int) < k by omega), decide_eq_true (show (k : Int) < n by omega)]; rfl
structure NumsAt (w : World) (b : Nat) (s : Str) (v3 : Value) : Prop where
  c : ∀ j, j < 3 → w.cell? ⟨b, j, none⟩ = some (.int .i64 (verNum s j : Nat))
  c3 : w.cell? ⟨b, 3, none⟩ = some v3
theorem NumsAt.below {w w' : World} {b : Nat} {s : Str} {v3 : Value} (h : NumsAt w b s v3) (hb : Below w.heap.size w w') : NumsAt w' b s v3 :=
  ⟨fun j hj => Below.cell_some hb (h.c j hj), Below.cell_some hb h.c3⟩
theorem numsAt_alloc (w : World) (s : Str) (v3 : Value) (t : TypeId) : NumsAt (w.alloc (.cells #[.int .i64 (verNum s 0 : Nat), .int .i64 (verNum s 1 : Nat), .int .i64 (verNum s 2 : Nat), v3] t)) w.heap.size s v3 :=
  ⟨fun j hj => by obtain rfl | rfl | rfl : j = 0 ∨ j = 1 ∨ j = 2 := by omega
                  all_goals simp, by simp⟩
set_option maxRecDepth 100000 in
set_option maxHeartbeats 1000000 in
theorem orderVer_calls (a b : ByteArray) (w : World) (ha : a.size ≤ 1000000000) (hb : b.size ≤ 1000000000) :
    Calls Tryz.prog 48 #[.string a, .string b] w fun e w' => e = .returned (.int .i64 (sgn (verCmp a.data.toList b.data.toList))) ∧ Below w.heap.size w w' := by
  have hR := sgn_verKey (a := a.data.toList) (b := b.data.toList)
  rw [← hR]
  clear hR
  have hs1 := verPre_small a.data.toList
  have hs2 := verPre_small b.data.toList
  go_enter Tryz.func48, Tryz.ntmps48
  go_wp2_with fail
  refine (refVerOf_calls a w ha).mono ?_
  rintro e w1 ⟨⟨va, rfl, a1, n1, cap1, L1, rfl, HL1, hn1, hn1', hc1⟩, hb1⟩
  have hbA := below_alloc w1 (.cells #[.int .i64 (verNum a.data.toList 0 : Nat), .int .i64 (verNum a.data.toList 1 : Nat), .int .i64 (verNum a.data.toList 2 : Nat), .slice a1 n1 cap1] 81)
  have hzA := numsAt_alloc w1 a.data.toList (.slice a1 n1 cap1) 81
  have hb1A := below_step hb1 hbA
  go_wp2_with fail
  refine (refVerOf_calls b _ hb).mono ?_
  rintro e w2 ⟨⟨vb, rfl, a2, n2, cap2, L2, rfl, HL2, hn2, hn2', hc2⟩, hb2⟩
  have hbB := below_alloc w2 (.cells #[.int .i64 (verNum b.data.toList 0 : Nat), .int .i64 (verNum b.data.toList 1 : Nat), .int .i64 (verNum b.data.toList 2 : Nat), .slice a2 n2 cap2] 81)
  have hzB := numsAt_alloc w2 b.data.toList (.slice a2 n2 cap2) 81
  have hzA2 := (hzA.below hb2).below hbB
  have hbw := below_step (below_step hb1A hb2) hbB
  have hc1' := fun j (hj : j < n1) => (let ⟨b, o, e, h2⟩ := hc1 j hj; ⟨b, o, e, Below.cell_some (below_step hbA (below_step hb2 hbB)) h2⟩ : ∃ b o, a1 = some ⟨b, o, none⟩ ∧ _)
  have hc2' := fun j (hj : j < n2) => (let ⟨b, o, e, h2⟩ := hc2 j hj; ⟨b, o, e, Below.cell_some hbB h2⟩ : ∃ b o, a2 = some ⟨b, o, none⟩ ∧ _)
  rw [HL1] at hs1
  rw [HL2] at hs2
  rw [lstF_length] at hs1 hs2
  have hL1 : ∀ j, j < n1 → (L1 j).size ≤ 4000000000 ∧ partErr (L1 j).data.toList = 0 := fun j hj => by
    have := hs1.2 _ (List.mem_of_getElem? (lstF_get n1 L1 j hj))
    exact ⟨by rw [size_eq]; omega, this.2⟩
  have hL2 : ∀ j, j < n2 → (L2 j).size ≤ 4000000000 ∧ partErr (L2 j).data.toList = 0 := fun j hj => by
    have := hs2.2 _ (List.mem_of_getElem? (lstF_get n2 L2 j hj))
    exact ⟨by rw [size_eq]; omega, this.2⟩
  have hm1 := hs1.1
  have hm2 := hs2.1
  have HPA := Lib.hid HL1
  have HPB := Lib.hid HL2
  have HC1 := Lib.hid hc1'
  have HC2 := Lib.hid hc2'
  have HS1 := Lib.hid hL1
  have HS2 := Lib.hid hL2
  clear hs1 hs2 hL1 hL2 hc1 hc2 hc1' hc2' HL1 HL2 hzA hb1 hbA hb1A
  go_wp2_with fail
  generalize hwB : w2.alloc (.cells #[.int .i64 (verNum b.data.toList 0 : Nat), .int .i64 (verNum b.data.toList 1 : Nat), .int .i64 (verNum b.data.toList 2 : Nat), .slice a2 n2 cap2] 81) = wB at *
  clear hwB
  go_loopw [9] (fun i wr => ∃ k : Nat, k ≤ 3 ∧ i = .int .i64 k ∧ Below wB.heap.size wB wr ∧ Hid (∀ j, j < k → verNum a.data.toList j = verNum b.data.toList j)) (fun i _ => 3 - (intOf i).toNat)
  case atStart => exact ⟨0, by omega, rfl, Below.refl _ _, Lib.hid (fun j hj => absurd hj (Nat.not_lt_zero _))⟩
  case round =>
    obtain ⟨k, hk, rfl, hbr, HA⟩ := hrel
    have hbrw := below_step hbw hbr
    by_cases hlt : k < 3
    · have d1 := (hzA2.below hbr).c k hlt
      have d2 := (hzB.below hbr).c k hlt
      by_cases he : verNum a.data.toList k = verNum b.data.toList k
      · have HN : Hid (∀ j, j < k + 1 → verNum a.data.toList j = verNum b.data.toList j) := Lib.hid (fun j hj => by
          by_cases e : j = k
          · subst e; exact he
          · exact HA.out j (by omega))
        rw [he] at d1
        generalize verNum b.data.toList k = x at d1 d2
        clear he
        go_wp2_with fail
        go_region
        all_goals
          go_wp2_with fail
          go_roundw
          case rel => exact ⟨k + 1, by omega, by go_num, hbr.drew, HN⟩
          case measure => simp [intOf]; omega
      · have hX : sgn (verKey a.data.toList b.data.toList) = sgnB (decide ((verNum a.data.toList k : Int) < verNum b.data.toList k)) true := by
          have h1 := verNums_at hlt HA.out he
          rw [verKey_nums (by rw [h1]; omega), h1, sgnB_ne he]
        have hne : ((verNum a.data.toList k : Int) == (verNum b.data.toList k : Int)) = false := beq_eq_false_iff_ne.2 (by omega)
        generalize verNum a.data.toList k = x at d1 hX hne
        generalize verNum b.data.toList k = y at d2 hX hne
        have HX := Lib.hid hX
        clear he hX
        go_wp2_with fail
        go_region
        go_wp2_with fail
        have e1 : wr.drew.cell? _ = _ := d1
        have e2 : wr.drew.cell? _ = _ := d2
        have hbd := Below.drew hbrw
        generalize wr.drew = wd at e1 e2 hbd ⊢
        clear d1 d2
        go_quiet ((go_at_call 119; exact Calls.quiet_of_same (sign_calls _ _ _)))
        go_wp2_with fail
        go_ret
        rw [HX.out]
        exact ⟨by simp, Below.drewN hbd _⟩
    · obtain rfl : k = 3 := by omega
      have hEnd := ordEnd (verNums_same HA.out) HPA.out HPB.out
      have p3 := (hzA2.below hbr).c3
      have q3 := (hzB.below hbr).c3
      have hE1 := Lib.hid hEnd.1
      have hE2 := Lib.hid hEnd.2
      clear hEnd HA
      by_cases p1 : n1 = 0
      · have HX := Lib.hid (hE1.out (.inl p1))
        have p1' : ((n1 : Int) == 0) = true := beq_iff_eq.2 (by omega)
        have p1'' : ¬ (0 : Int) < (n1 : Int) := by omega
        clear p1
        go_wp2_with fail
        refine (sign_calls _ _ _).mono ?_
        rintro e w5 ⟨rfl, rfl⟩
        go_wp2_with fail
        go_ret
        rw [HX.out]
        exact ⟨by simp, hbrw⟩
      · have p1' : ((n1 : Int) == 0) = false := beq_eq_false_iff_ne.2 (by omega)
        have p1'' : (0 : Int) < (n1 : Int) := by omega
        by_cases p2 : n2 = 0
        · have HX := Lib.hid (hE1.out (.inr p2))
          have p2' : ((n2 : Int) == 0) = true := beq_iff_eq.2 (by omega)
          have p2'' : ¬ (0 : Int) < (n2 : Int) := by omega
          clear p1 p2
          go_wp2_with fail
          refine (sign_calls _ _ _).mono ?_
          rintro e w5 ⟨rfl, rfl⟩
          go_wp2_with fail
          go_ret
          rw [HX.out]
          exact ⟨by simp, hbrw⟩
        · have HX := Lib.hid (hE2.out p1 p2)
          have p2' : ((n2 : Int) == 0) = false := beq_eq_false_iff_ne.2 (by omega)
          clear p1 p2 p1'' hE1 hE2
          obtain ⟨wo, hwo⟩ : ∃ wo : World, wo = wr := ⟨_, rfl⟩
          subst hwo
          go_wp2_with fail
          go_loopw [10, 11] (fun i _ wq => ∃ m : Nat, m ≤ n1 ∧ m ≤ n2 ∧ i = .int .i64 m ∧ Below wo.heap.size wo wq ∧ Hid (sgn (verKey a.data.toList b.data.toList) = sgn (cmpList ((lstF n1 L1).drop m) ((lstF n2 L2).drop m)))) (fun i _ _ => n1 - (intOf i).toNat)
          case atStart => exact ⟨0, by omega, by omega, rfl, Below.refl _ _, HX⟩
          case round =>
            obtain ⟨m, hm, hm', rfl, hbq, HC⟩ := hrel
            have hbqw := below_step hbrw hbq
            have hbqB := below_step hbr hbq
            replace p3 := Below.cell_some hbq p3
            replace q3 := Below.cell_some hbq q3
            by_cases hl1 : m < n1
            · by_cases hl2 : m < n2
              · obtain ⟨b1, o1, rfl, e1⟩ := HC1.out m hl1
                obtain ⟨b2, o2, rfl, e2⟩ := HC2.out m hl2
                replace e1 := Below.cell_some hbqB e1
                replace e2 := Below.cell_some hbqB e2
                have hcall := fun W => orderPart_calls (L1 m) (L2 m) W (HS1.out m hl1).1 (HS2.out m hl2).1
                rw [ordPart_eq (HS1.out m hl1).2 (HS2.out m hl2).2] at hcall
                have hst := cmpList_drop n1 n2 L1 L2 m hl1 hl2
                generalize cmpPart (L1 m).data.toList (L2 m).data.toList = c at hcall hst
                by_cases hc : c = 0
                · subst hc
                  rw [orI_zero] at hst
                  rw [sgn_zero'] at hcall
                  have HN : Hid (sgn (verKey a.data.toList b.data.toList) = sgn (cmpList ((lstF n1 L1).drop (m + 1)) ((lstF n2 L2).drop (m + 1)))) := Lib.hid (by rw [HC.out, hst])
                  have HCall := Lib.hid hcall
                  clear hst hcall
                  go_wp2_with fail
                  go_quiet ((go_at_call 120; exact Calls.quiet_of_same (HCall.out _)))
                  go_wp2_with fail
                  go_roundw
                  case rel => exact ⟨m + 1, by omega, by omega, by go_num, Below.drewN hbq _, HN⟩
                  case measure => simp [intOf]; omega
                · have hne : (sgn c == 0) = false := beq_eq_false_iff_ne.2 (fun e => hc (sgn_zero.1 e))
                  rw [orI_left hc] at hst
                  have HN : Hid (sgn (verKey a.data.toList b.data.toList) = sgn c) := Lib.hid (by rw [HC.out, hst])
                  generalize sgn c = sc at hcall hne HN
                  have HCall := Lib.hid hcall
                  clear hst hcall hc
                  go_wp2_with fail
                  go_quiet ((go_at_call 120; exact Calls.quiet_of_same (HCall.out _)))
                  go_wp2_with fail
                  go_ret
                  rw [HN.out]
                  exact ⟨rfl, Below.drewN hbqw _⟩
              · have HN : Hid (sgn (verKey a.data.toList b.data.toList) = sgnB (decide ((n1 : Int) < n2)) (decide ((n2 : Int) < n1))) := Lib.hid (by rw [HC.out, cmpList_end2 (by omega) hl1])
                go_wp2_with fail
                refine (sign_calls _ _ _).mono ?_
                rintro e w5 ⟨rfl, rfl⟩
                go_wp2_with fail
                go_ret
                rw [HN.out]
                exact ⟨by simp, hbqw⟩
            · have HN : Hid (sgn (verKey a.data.toList b.data.toList) = sgnB (decide ((n1 : Int) < n2)) (decide ((n2 : Int) < n1))) := Lib.hid (by rw [HC.out, cmpList_end1 (by omega) hm'])
              go_wp2_with fail
              refine (sign_calls _ _ _).mono ?_
              rintro e w5 ⟨rfl, rfl⟩
              go_wp2_with fail
              go_ret
              rw [HN.out]
              exact ⟨by simp, hbqw⟩
theorem isVer_calls (a : ByteArray) (w : World) (ha : a.size ≤ 1000000000) :
    Calls Tryz.prog 103 #[.string a] w fun e w' => e = .returned (.bool (decide (verErr a.data.toList = 0))) ∧ Below w.heap.size w w' := by
  go_enter Tryz.func103, Tryz.ntmps103
  go_wp2_with fail
  refine (refVerOf_calls a w ha).mono ?_
  rintro e w1 ⟨⟨va, rfl, a1, n1, cap1, L1, rfl, _, _, _, _⟩, hb1⟩
  by_cases h : verErr a.data.toList = 0
  · have HF := Lib.hid (decide_eq_true h)
    rw [h]
    clear h
    go_wp2_with fail
    go_ret
    rw [HF.out]
    exact ⟨rfl, hb1.alloc hb1.size _⟩
  · have h' : ((verErr a.data.toList : Int) == 0) = false := beq_eq_false_iff_ne.2 (by omega)
    have HF := Lib.hid (decide_eq_false h)
    clear h
    go_wp2_with fail
    go_ret
    rw [HF.out]
    exact ⟨rfl, hb1.alloc hb1.size _⟩
theorem isLess_calls (a b : ByteArray) (w : World) (ha : a.size ≤ 1000000000) (hb : b.size ≤ 1000000000) :
    Calls Tryz.prog 39 #[.string a, .string b] w fun e w' => e = .returned (.bool (verLess a.data.toList b.data.toList)) ∧ Below w.heap.size w w' := by
  have hm : verLess a.data.toList b.data.toList = (decide (verErr a.data.toList = 0) && (decide (verErr b.data.toList = 0) && decide (sgn (verCmp a.data.toList b.data.toList) < 0))) := by
    unfold verLess
    rw [Bool.eq_iff_iff]
    simp [sgn_lt]
  generalize verLess a.data.toList b.data.toList = R at hm ⊢
  have h1 := fun W => isVer_calls a W ha
  have h2 := fun W => isVer_calls b W hb
  have h3 := fun W => orderVer_calls a b W ha hb
  generalize decide (verErr a.data.toList = 0) = x at h1 hm
  generalize decide (verErr b.data.toList = 0) = y at h2 hm
  generalize sgn (verCmp a.data.toList b.data.toList) = c at h3 hm
  have HM := Lib.hid hm
  have H1 := Lib.hid h1
  have H2 := Lib.hid h2
  have H3 := Lib.hid h3
  clear hm h1 h2 h3
  go_enter Tryz.func39, Tryz.ntmps39
  go_wp2_with fail
  refine (H1.out w).mono ?_
  rintro e w1 ⟨rfl, hb1⟩
  go_wp2_with fail
  refine (H2.out w1).mono ?_
  rintro e w2 ⟨rfl, hb2⟩
  have hb12 := below_step hb1 hb2
  cases x <;> cases y
  case true.true =>
    go_wp2_with fail
    refine (H3.out w2).mono ?_
    rintro e w3 ⟨rfl, hb3⟩
    have hb13 := below_step hb12 hb3
    go_wp2_with fail
    go_ret
    rw [HM.out]
    exact ⟨by simp, hb13⟩
  all_goals
    go_wp2_with fail
    go_ret
    rw [HM.out]
    exact ⟨rfl, hb12⟩
end Go.Proofs.Pw
