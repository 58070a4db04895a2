/- R.suffixOf and R.PathError. Conditions: texts of at most 1000000000 bytes. -/
import Derived.Test.YtaelindfneoajaaGreatDoorRefV2
import Derived.Test.YtaelindfneoajaaGreatDoorModMath
import Derived.Lib.IndexLaws
namespace Go.Proofs.Pw
open Go.RowKit
open Go.Lib hiding intOf

/-- R.suffixOf's answer -/
def refSuf (s : Str) : Int := if looksSuf s then (if isSuf s then (sufNum s : Int) else -1) else 0

theorem looks_short {s : ByteArray} (h : s.size < 2) : looksSuf s.data.toList = false := by
  unfold looksSuf
  cases hp : hasPrefix s.data.toList [118] with
  | false => rfl
  | true =>
    have h0 := trimPrefix_byte s hp
    rw [sufD, h0, Bool.true_and]
    have : s.data.toList.drop 1 = [] := List.drop_eq_nil_of_le (by rw [← size_eq]; omega)
    rw [this]; rfl
theorem looks_byte {s : ByteArray} (h : 0 < s.size) (hb : s[0] ≠ 118) : looksSuf s.data.toList = false := by
  unfold looksSuf
  rw [hasPrefix_byte s h, decide_eq_false hb, Bool.false_and]
theorem looks_is {s : ByteArray} (h : 0 < s.size) (hb : s[0] = 118) : looksSuf s.data.toList = areDigits (s.extract 1 s.size).data.toList ∧ sufD s.data.toList = (s.extract 1 s.size).data.toList := by
  have hp : hasPrefix s.data.toList [118] = true := by rw [hasPrefix_byte s h, decide_eq_true hb]
  have h0 := trimPrefix_byte s hp
  unfold looksSuf
  rw [sufD, h0, hp, Bool.true_and, extract_to_end]
  exact ⟨rfl, rfl⟩

set_option maxHeartbeats 400000 in
theorem refSuffix_calls (s : ByteArray) (w : World) (hs : s.size ≤ 1000000000) :
    Calls Tryz.prog 162 #[.string s] w fun e w' => e = .returned (.int .i64 (refSuf s.data.toList)) ∧ w = w' := by
  by_cases h2 : s.size < 2
  · have HF : Hid (refSuf s.data.toList = 0) := Lib.hid (by unfold refSuf; rw [looks_short h2]; rfl)
    go_enter Tryz.func162, Tryz.ntmps162
    go_wp2_with fail
    go_ret
    rw [HF.out]
    exact ⟨rfl, rfl⟩
  · have h0 : 0 < s.size := by omega
    by_cases hb : s[0] = 118
    · have hb' : (s[0].toNat : Int) = 118 := by rw [hb]; rfl
      obtain ⟨hl, hd⟩ := looks_is h0 hb
      have hx : (s.extract 1 s.size).size ≤ 4000000000 := Nat.le_trans (extract_size_le s _ _) (by omega)
      have hR : refSuf s.data.toList = if areDigits (s.extract 1 s.size).data.toList then (if (numberOf (s.extract 1 s.size).data.toList).2 = 0 ∧ 2 ≤ (numberOf (s.extract 1 s.size).data.toList).1 then ((numberOf (s.extract 1 s.size).data.toList).1 : Int) else -1) else 0 := by
        unfold refSuf isSuf sufNum
        rw [hl, hd]
        cases areDigits (s.extract 1 s.size).data.toList with
        | false => rfl
        | true => simp only [Bool.true_and, decide_eq_true_eq, if_true]
      have HR := Lib.hid hR
      have hda := refDigits_calls (s.extract 1 s.size) w hx
      have hnu := refNumber_calls (s.extract 1 s.size) w hx
      clear hl hd hR hb
      generalize areDigits (s.extract 1 s.size).data.toList = D at HR hda
      generalize (numberOf (s.extract 1 s.size).data.toList).2 = E at HR hnu
      generalize (numberOf (s.extract 1 s.size).data.toList).1 = M at HR hnu
      cases D with
      | false =>
        go_enter Tryz.func162, Tryz.ntmps162
        go_wp2_with fail
        refine hda.mono ?_
        rintro e w' ⟨rfl, rfl⟩
        go_wp2_with fail
        go_ret
        rw [HR.out]
        exact ⟨rfl, rfl⟩
      | true =>
        by_cases hE : 0 < E
        · have hE' : (0 : Int) < (E : Int) := by omega
          have HF : Hid (refSuf s.data.toList = -1) := Lib.hid (by rw [HR.out, if_pos rfl, if_neg (by omega)])
          go_enter Tryz.func162, Tryz.ntmps162
          go_wp2_with fail
          refine hda.mono ?_
          rintro e w' ⟨rfl, rfl⟩
          go_wp2_with fail
          refine hnu.mono ?_
          rintro e w' ⟨rfl, rfl⟩
          go_wp2_with fail
          go_ret
          rw [HF.out]
          exact ⟨rfl, rfl⟩
        · obtain rfl : E = 0 := by omega
          by_cases hM : M < 2
          · have hM' : (M : Int) < 2 := by omega
            have HF : Hid (refSuf s.data.toList = -1) := Lib.hid (by rw [HR.out, if_pos rfl, if_neg (by omega)])
            go_enter Tryz.func162, Tryz.ntmps162
            go_wp2_with fail
            refine hda.mono ?_
            rintro e w' ⟨rfl, rfl⟩
            go_wp2_with fail
            refine hnu.mono ?_
            rintro e w' ⟨rfl, rfl⟩
            go_wp2_with fail
            go_ret
            rw [HF.out]
            exact ⟨rfl, rfl⟩
          · have hM' : ¬ (M : Int) < 2 := by omega
            have HF : Hid (refSuf s.data.toList = M) := Lib.hid (by rw [HR.out, if_pos rfl, if_pos (by omega)])
            go_enter Tryz.func162, Tryz.ntmps162
            go_wp2_with fail
            refine hda.mono ?_
            rintro e w' ⟨rfl, rfl⟩
            go_wp2_with fail
            refine hnu.mono ?_
            rintro e w' ⟨rfl, rfl⟩
            go_wp2_with fail
            go_ret
            rw [HF.out]
            exact ⟨rfl, rfl⟩
    · have HF : Hid (refSuf s.data.toList = 0) := Lib.hid (by unfold refSuf; rw [looks_byte h0 hb]; rfl)
      have hb' : ((s[0].toNat : Int) == 118) = false := byte_ne_int (c := 118) rfl hb
      clear hb
      go_enter Tryz.func162, Tryz.ntmps162
      go_wp2_with fail
      go_ret
      rw [HF.out]
      exact ⟨rfl, rfl⟩

/-! ### elements, byte by byte -/
theorem isElemByte_iff (c : UInt8) : isElemByte c = true ↔ (97 ≤ (c.toNat : Int) ∧ (c.toNat : Int) ≤ 122) ∨ (48 ≤ (c.toNat : Int) ∧ (c.toNat : Int) ≤ 57) ∨ (c.toNat : Int) = 46 ∨ (c.toNat : Int) = 45 ∨ (c.toNat : Int) = 95 := by
  unfold isElemByte isDig
  have e : ∀ d : UInt8, (c == d) = decide (c.toNat = d.toNat) := fun d => by
    rw [Bool.eq_iff_iff, beq_iff_eq, decide_eq_true_eq]
    exact ⟨fun h => by rw [h], fun h => UInt8.toNat_inj.1 h⟩
  rw [e, e, e]
  simp only [Bool.or_eq_true, decide_eq_true_eq, show (46 : UInt8).toNat = 46 from rfl, show (45 : UInt8).toNat = 45 from rfl, show (95 : UInt8).toNat = 95 from rfl]
  omega
theorem elem_classes (c : Int) :
    ((97 ≤ c ∧ c ≤ 122 ∧ 48 ≤ c ∧ ¬ c ≤ 57 ∧ (c == 46) = false) ∨ (¬ 97 ≤ c ∧ c ≤ 122 ∧ 48 ≤ c ∧ c ≤ 57 ∧ (c == 46) = false) ∨ c = 45 ∨ c = 95 ∨ c = 46) ∨
    (((c == 46) = false ∧ (c == 45) = false ∧ (c == 95) = false) ∧ ¬ ((97 ≤ c ∧ c ≤ 122) ∨ (48 ≤ c ∧ c ≤ 57)) ∧
      ((¬ 97 ≤ c ∧ c ≤ 122 ∧ ¬ 48 ≤ c ∧ c ≤ 57) ∨ (¬ 97 ≤ c ∧ c ≤ 122 ∧ 48 ≤ c ∧ ¬ c ≤ 57) ∨ (97 ≤ c ∧ ¬ c ≤ 122 ∧ 48 ≤ c ∧ ¬ c ≤ 57))) := by
  have e : ∀ d : Int, (c == d) = false ↔ c ≠ d := fun d => beq_eq_false_iff_ne
  simp only [e]
  omega
theorem elem_byte {s : ByteArray} {k : Nat} (h : k < s.size) (hb : isElemByte s[k] = false) : elemOk s.data.toList = false := by
  have : s.data.toList.all isElemByte = false := by
    rw [Bool.eq_false_iff]
    intro e
    have := List.all_eq_true.1 e _ (byte_mem s k h)
    rw [hb] at this
    cases this
  unfold elemOk
  rw [this]
  simp
theorem occ_dots {s : ByteArray} {k : Nat} : occAt s.data.toList dots k = true ↔ (s.extract k (k + 3)).data.toList = dots := by
  unfold occAt
  have e : (s.extract k (k + 3)).data.toList = (s.data.toList.drop k).take 3 := by rw [extract_data, Nat.add_sub_cancel_left]
  rw [List.isPrefixOf_iff_prefix, e]
  constructor
  · rintro ⟨t, ht⟩
    rw [← ht]; rfl
  · intro h
    exact ⟨(s.data.toList.drop k).drop 3, by rw [← h]; exact List.take_append_drop 3 _⟩
theorem elem_occ {s : ByteArray} {k : Nat} (hk : k ≤ s.size) (h : occAt s.data.toList dots k = true) : elemOk s.data.toList = false := by
  have : contains s.data.toList dots = true := by
    unfold contains
    apply decide_eq_true
    rcases index_spec s.data.toList dots with ⟨_, h2⟩ | ⟨i, h1, _⟩
    · have := h2 k (by rw [← size_eq]; exact hk)
      rw [h] at this; cases this
    · omega
  unfold elemOk
  rw [this]
  simp
theorem elem_dot {s : Str} (h : s.all (· == 46) = true) : elemOk s = false := by unfold elemOk; rw [h]; simp
theorem elem_yes {s : Str} (h1 : s.all isElemByte = true) (h2 : s.all (· == 46) = false) (h3 : NoOcc s dots (s.length - 2)) : elemOk s = true := by
  have hc : contains s dots = false := by
    unfold contains
    apply decide_eq_false
    rw [index_past (by decide) h3 (by show s.length < s.length - 2 + 3; omega)]
    decide
  have he : s.isEmpty = false := by cases s with | nil => cases h2 | cons => rfl
  unfold elemOk
  rw [he, h1, h2, hc]
  rfl
theorem noOcc_step {s : ByteArray} {m : Nat} (h : NoOcc s.data.toList dots (m - 2)) (hno : 2 ≤ m → occAt s.data.toList dots (m - 2) = false) : NoOcc s.data.toList dots (m + 1 - 2) := by
  intro j hj
  by_cases e : j = m - 2
  · subst e
    exact hno (by omega)
  · exact h j (by omega)
end Go.Proofs.Pw
