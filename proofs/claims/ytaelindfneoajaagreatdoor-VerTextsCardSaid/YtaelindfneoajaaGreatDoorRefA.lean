/- The references' small functions: AreDigits, NumberOf, Cut, SameTexts. Conditions: texts of at most 4000000000 bytes. -/
import Derived.Test.YtaelindfneoajaaGreatDoorVerLong
import Derived.Test.YtaelindfneoajaaGreatDoorVerTxt
import Derived.Laws.AppendOwn
import Derived.LoopTactic
namespace Go.Proofs.Pw
open Go.RowKit
open Go.Lib hiding intOf

theorem take_snoc (s : ByteArray) (k : Nat) (h : k < s.size) : s.data.toList.take (k + 1) = s.data.toList.take k ++ [s[k]] := by
  rw [List.take_succ_eq_append_getElem (by simpa using h)]; rfl
theorem drop_cons (s : ByteArray) (k : Nat) (h : k < s.size) : s.data.toList.drop k = s[k] :: s.data.toList.drop (k + 1) := by
  rw [List.drop_eq_getElem_cons (by simpa using h)]; rfl
theorem byte_mem (s : ByteArray) (k : Nat) (h : k < s.size) : s[k] ∈ s.data.toList := by
  have : s[k] = s.data.toList[k]'(by simpa using h) := rfl
  rw [this]; exact List.getElem_mem _
theorem take_size (s : ByteArray) : s.data.toList.take s.size = s.data.toList := by rw [size_eq, List.take_length]
theorem drop_size (s : ByteArray) : s.data.toList.drop s.size = [] := by rw [size_eq, List.drop_length]
theorem isDig_no {c : UInt8} (h : (c.toNat : Int) < 48 ∨ 57 < (c.toNat : Int)) : isDig c = false := by unfold isDig; apply decide_eq_false; omega
theorem isDig_yes {c : UInt8} (h1 : ¬ (c.toNat : Int) < 48) (h2 : ¬ 57 < (c.toNat : Int)) : isDig c = true := by unfold isDig; apply decide_eq_true; omega
theorem areDigits_no {s : ByteArray} {k : Nat} (h : k < s.size) (hd : isDig s[k] = false) : areDigits s.data.toList = false := by
  unfold areDigits
  have : s.data.toList.all isDig = false := by
    rw [Bool.eq_false_iff]
    intro e
    have := List.all_eq_true.1 e _ (byte_mem s k h)
    rw [hd] at this
    cases this
  rw [this, Bool.and_false]
theorem areDigits_yes {s : ByteArray} (h : 0 < s.size) (ha : (s.data.toList.take s.size).all isDig = true) : areDigits s.data.toList = true := by
  rw [take_size] at ha
  unfold areDigits
  rw [ha]
  cases e : s.data.toList with
  | nil => rw [size_eq, e] at h; simp at h
  | cons => rfl
theorem areDigits_none {s : ByteArray} (h : s.size = 0) : areDigits s.data.toList = false := by
  have : s.data.toList = [] := List.length_eq_zero_iff.1 (by rw [← size_eq]; exact h)
  rw [this]; rfl

/-- R.AreDigits -/
theorem refDigits_calls (s : ByteArray) (w : World) (hs : s.size ≤ 4000000000) :
    Calls Tryz.prog 82 #[.string s] w fun e w' => e = .returned (.bool (areDigits s.data.toList)) ∧ w = w' := by
  go_enter Tryz.func82, Tryz.ntmps82
  go_wp2_with fail
  go_loop [3] (fun i => ∃ k : Nat, k ≤ s.size ∧ i = .int .i64 k ∧ Hid ((s.data.toList.take k).all isDig = true)) (fun i => s.size - (intOf i).toNat)
  case atStart => exact ⟨0, Nat.zero_le _, rfl, Lib.hid rfl⟩
  case round =>
    obtain ⟨k, hk, rfl, HA⟩ := hrel
    by_cases hlt : k < s.size
    · by_cases h1 : (s[k].toNat : Int) < 48
      · have HF := Lib.hid (areDigits_no hlt (isDig_no (.inl h1)))
        go_wp2_with fail
        go_ret
        rw [HF.out]
        exact ⟨rfl, rfl⟩
      · by_cases h2 : 57 < (s[k].toNat : Int)
        · have HF := Lib.hid (areDigits_no hlt (isDig_no (.inr h2)))
          go_wp2_with fail
          go_ret
          rw [HF.out]
          exact ⟨rfl, rfl⟩
        · have HN : Hid ((s.data.toList.take (k + 1)).all isDig = true) := Lib.hid (by rw [take_snoc s k hlt, List.all_append, HA.out]; simp [isDig_yes h1 h2])
          go_wp2_with fail
          go_round
          case rel => exact ⟨k + 1, by omega, by go_num, HN⟩
          case measure => simp [intOf]; omega
    · obtain rfl : k = s.size := by omega
      by_cases h0 : 0 < s.size
      · have HF := Lib.hid (areDigits_yes h0 HA.out)
        go_wp2_with fail
        go_ret
        rw [HF.out]
        exact ⟨rfl, rfl⟩
      · have HF := Lib.hid (areDigits_none (s := s) (by omega))
        go_wp2_with fail
        go_ret
        rw [HF.out]
        exact ⟨rfl, rfl⟩

theorem decVal_bound {l : Str} (h : l.all isDig = true) (h6 : l.length ≤ 6) : decVal l ≤ 999999 := by
  have h1 := decVal_lt l h
  have := Nat.pow_le_pow_right (n := 10) (by decide) h6
  omega

set_option maxHeartbeats 400000 in
/-- R.NumberOf -/
theorem refNumber_calls (s : ByteArray) (w : World) (hs : s.size ≤ 4000000000) :
    Calls Tryz.prog 81 #[.string s] w fun e w' => e = .returned (.tuple #[.int .i64 ((numberOf s.data.toList).1 : Nat), .int .i64 ((numberOf s.data.toList).2 : Nat)]) ∧ w = w' := by
  cases hd : areDigits s.data.toList with
  | false =>
    have HF := Lib.hid (numberOf_text (s := s.data.toList) (.inl hd))
    have HD := Lib.hid hd
    clear hd
    go_enter Tryz.func81, Tryz.ntmps81
    go_wp2_with fail
    refine (refDigits_calls s w hs).mono ?_
    rintro e w' ⟨rfl, rfl⟩
    rw [HD.out]
    go_wp2_with fail
    go_ret2
    rw [HF.out]
    exact ⟨rfl, rfl⟩
  | true =>
    have HD := Lib.hid hd
    have hall : s.data.toList.all isDig = true := by
      unfold areDigits at hd; simp only [Bool.and_eq_true] at hd; exact hd.2
    have hne : 0 < s.size := by
      rw [size_eq]
      cases hsd : s.data.toList with
      | nil => rw [hsd] at hd; simp [areDigits] at hd
      | cons c r => simp
    have h0 : s.data.toList.head? = some (s[0]'hne) := by
      rw [List.head?_eq_getElem?, List.getElem?_eq_getElem (by rw [← size_eq]; omega)]; rfl
    have HA := Lib.hid hall
    by_cases hz : 1 < s.size ∧ s[0]'hne = 48
    · have HF := Lib.hid (numberOf_text (s := s.data.toList) (.inr ⟨by rw [← size_eq]; exact hz.1, by rw [h0, hz.2]⟩))
      have h1 := hz.1
      have h2 : ((s[0]'hne).toNat : Int) = 48 := by rw [hz.2]; rfl
      clear hd hall h0 hz
      go_enter Tryz.func81, Tryz.ntmps81
      go_wp2_with fail
      refine (refDigits_calls s w hs).mono ?_
      rintro e w' ⟨rfl, rfl⟩
      rw [HD.out]
      go_wp2_with fail
      go_ret2
      rw [HF.out]
      exact ⟨rfl, rfl⟩
    · have hz2 : ¬ (1 < s.data.toList.length ∧ s.data.toList.head? = some 48) := by
        rw [← size_eq, h0]
        rintro ⟨h1, h2⟩
        exact hz ⟨h1, Option.some.inj h2⟩
      have hnot : ¬ (areDigits s.data.toList = false ∨ (1 < s.data.toList.length ∧ s.data.toList.head? = some 48)) := by
        rintro (h | h)
        · rw [hd] at h; cases h
        · exact hz2 h
      have h01 : (1 < s.size ∧ (((s[0]'hne).toNat : Int) == 48) = false) ∨ ¬ 1 < s.size := by
        by_cases h1 : 1 < s.size
        · refine .inl ⟨h1, ?_⟩
          rw [beq_eq_false_iff_ne]
          intro e
          refine hz ⟨h1, ?_⟩
          have : (s[0]'hne).toNat = 48 := by exact_mod_cast e
          rw [show (48 : UInt8) = UInt8.ofNat 48 from rfl, ← this, UInt8.ofNat_toNat]
        · exact .inr h1
      by_cases h6 : 6 < s.size
      · have HF := Lib.hid (numberOf_long hnot (by rw [← size_eq]; exact h6))
        obtain ⟨h1, h2⟩ := h01.resolve_right (by omega)
        clear hd hall h0 hz hz2 hnot
        go_enter Tryz.func81, Tryz.ntmps81
        go_wp2_with fail
        refine (refDigits_calls s w hs).mono ?_
        rintro e w' ⟨rfl, rfl⟩
        rw [HD.out]
        go_wp2_with fail
        go_ret2
        rw [HF.out]
        exact ⟨rfl, rfl⟩
      · have HF := Lib.hid (numberOf_ok hnot (by rw [← size_eq]; exact h6))
        clear hd hall h0 hz hz2 hnot
        rcases h01 with ⟨h1, h2⟩ | h1
        all_goals
          go_enter Tryz.func81, Tryz.ntmps81
          go_wp2_with fail
          refine (refDigits_calls s w hs).mono ?_
          rintro e w' ⟨rfl, rfl⟩
          rw [HD.out]
          go_wp2_with fail
          go_loop [5, 6] (fun n i => ∃ k : Nat, k ≤ s.size ∧ i = .int .i64 k ∧ n = .int .i64 (decVal (s.data.toList.take k) : Nat)) (fun _ i => s.size - (intOf i).toNat)
          case atStart => exact ⟨0, Nat.zero_le _, rfl, rfl⟩
          case' round =>
            obtain ⟨k, hk, rfl, rfl⟩ := hrel
            by_cases hlt : k < s.size
            case' pos =>
              have hc := dig_lt (List.all_eq_true.1 HA.out _ (byte_mem s k hlt))
              have hall : (s.data.toList.take k).all isDig = true := List.all_eq_true.2 fun c hc => List.all_eq_true.1 HA.out c (List.mem_of_mem_take hc)
              have hb := decVal_bound hall (by rw [List.length_take]; omega)
              have HN : Hid (decVal (s.data.toList.take (k + 1)) = 10 * decVal (s.data.toList.take k) + (s[k].toNat - 48)) := Lib.hid (by rw [take_snoc s k hlt, decVal_snoc])
              have hc1 : (s[k].toNat : Int) - 48 ≤ 9 := by omega
              have hc2 : 48 ≤ (s[k].toNat : Int) := by omega
              generalize decVal (s.data.toList.take k) = v at hb HN ⊢
              clear hc hall
              go_wp2_with fail
              go_round
              case rel => exact ⟨k + 1, by omega, by go_num, by rw [HN.out]; go_num⟩
              case measure => simp [intOf]; omega
            case' neg =>
              obtain rfl : k = s.size := by omega
              have HT := Lib.hid (take_size s)
              go_wp2_with fail
              go_ret2
              rw [HF.out, HT.out]
              exact ⟨rfl, rfl⟩
end Go.Proofs.Pw
