/- Plain mathematics of versions: digits, numbers, parts, versions, their order. No program in sight. -/
import Derived.Test.YtfkimddlgopgbaaGreatDoorMath
import Derived.Lib.SlTrimSet
import Derived.Lib.AtoiAll
namespace Go.Proofs.Pw
open Go.Lib

def isDig (c : UInt8) : Bool := decide (48 ≤ c.toNat ∧ c.toNat ≤ 57)
def areDigits (s : Str) : Bool := !s.isEmpty && s.all isDig
def decVal (s : Str) : Nat := s.foldl (fun n c => 10 * n + (c.toNat - 48)) 0

/-- ver.number: the number, the error's number -/
def numberOf (s : Str) : Nat × Nat :=
  if areDigits s = false ∨ (1 < s.length ∧ s.head? = some 48) then (0, 1)
  else if 6 < s.length then (0, 2) else (decVal s, 0)

def isLetter (c : UInt8) : Bool := decide ((97 ≤ c.toNat ∧ c.toNat ≤ 122) ∨ (65 ≤ c.toNat ∧ c.toNat ≤ 90))
def isPartByte (c : UInt8) : Bool := isDig c || isLetter c || c == 45

/-- ver.part: the error's number -/
def partErr (s : Str) : Nat :=
  if s = [] ∨ 8 < s.length ∨ s.all isPartByte = false then 1
  else if areDigits s then (numberOf s).2 else 0

/-- worse of two error numbers: 1 ahead of 2 ahead of 0 -/
def worseN (a b : Nat) : Nat := if a = 1 ∨ b = 0 then a else b

/-! ### trims -/

theorem dropWhile_eq_nil {p : UInt8 → Bool} : ∀ l : Str, l.dropWhile p = [] ↔ ∀ c ∈ l, p c = true
  | [] => by simp
  | c :: r => by
    by_cases h : p c
    · simp [h, dropWhile_eq_nil r]
    · simp [h]

theorem trimS_nil (l cs : Str) : trimS l cs = [] ↔ ∀ c ∈ l, cs.contains c = true := by
  have key : ∀ m : Str, trimRightS m cs = [] ↔ ∀ c ∈ m, cs.contains c = true := fun m => by
    unfold trimRightS
    rw [List.reverse_eq_nil_iff, dropWhile_eq_nil]
    simp
  constructor
  · intro h
    unfold trimS trimLeftS at h
    rw [dropWhile_eq_nil] at h
    -- what trimRightS leaves has a last byte outside, unless it is empty
    have hr : trimRightS l cs = [] := by
      rcases List.eq_nil_or_concat (trimRightS l cs) with h0 | ⟨m, b, hb⟩
      · exact h0
      · exfalso
        have h1 := h b (by rw [hb]; simp)
        have h2 : (trimRightS l cs).reverse = (l.reverse.dropWhile (cs.contains ·)) := by unfold trimRightS; rw [List.reverse_reverse]
        rw [hb] at h2
        simp only [List.concat_eq_append, List.reverse_append, List.reverse_cons, List.reverse_nil, List.nil_append, List.singleton_append] at h2
        have h3 := List.head?_dropWhile_not (cs.contains ·) l.reverse
        rw [← h2] at h3
        simp only [List.head?_cons] at h3
        rw [h1] at h3
        exact absurd h3 (by decide)
    exact (key l).1 hr
  · intro h
    unfold trimS
    rw [(key l).2 h]
    rfl

theorem trimS_nil_bool (l cs : Str) (p : UInt8 → Bool) (hp : ∀ c, cs.contains c = p c) : (trimS l cs == []) = l.all p := by
  rw [Bool.eq_iff_iff, beq_iff_eq, trimS_nil, List.all_eq_true]
  constructor
  · intro h c hc; rw [← hp]; exact h c hc
  · intro h c hc; rw [hp]; exact h c hc

theorem byte_cases (P : UInt8 → Prop) (h : ∀ n, n < 256 → P (UInt8.ofNat n)) (c : UInt8) : P c := by
  have := h c.toNat c.toNat_lt
  rwa [UInt8.ofNat_toNat] at this

def digitsSet : Str := [48, 49, 50, 51, 52, 53, 54, 55, 56, 57]
theorem digitsSet_ok : ∀ c : UInt8, digitsSet.contains c = isDig c := by
  apply byte_cases
  decide +kernel

def partSet : Str := [97, 98, 99, 100, 101, 102, 103, 104, 105, 106, 107, 108, 109, 110, 111, 112, 113, 114, 115, 116, 117, 118, 119, 120, 121, 122, 65, 66, 67, 68, 69, 70, 71, 72, 73, 74, 75, 76, 77, 78, 79, 80, 81, 82, 83, 84, 85, 86, 87, 88, 89, 90, 48, 49, 50, 51, 52, 53, 54, 55, 56, 57, 45]
theorem partSet_ok : ∀ c : UInt8, partSet.contains c = isPartByte c := by
  apply byte_cases
  decide +kernel

/-! ### numbers -/
theorem decVal_snoc (l : Str) (c : UInt8) : decVal (l ++ [c]) = 10 * decVal l + (c.toNat - 48) := by simp [decVal]

theorem dig_lt {c : UInt8} (h : isDig c = true) : c.toNat - 48 ≤ 9 ∧ 48 ≤ c.toNat := by
  unfold isDig at h
  have := of_decide_eq_true h
  omega

theorem foldl_dec (l : Str) : ∀ n : Nat, l.foldl (fun n c => 10 * n + (c.toNat - 48)) n = n * 10 ^ l.length + decVal l := by
  induction l with
  | nil => intro n; simp [decVal]
  | cons c r ih =>
    intro n
    simp only [List.foldl_cons, decVal, List.length_cons]
    rw [ih, ih (10 * 0 + _), Nat.pow_succ]
    have : (10 * n + (c.toNat - 48)) * 10 ^ r.length = n * (10 ^ r.length * 10) + (c.toNat - 48) * 10 ^ r.length := by
      rw [Nat.add_mul, Nat.mul_comm 10 n, Nat.mul_assoc, Nat.mul_comm 10]
    rw [this]
    simp only [Nat.mul_zero, Nat.zero_add]
    omega

theorem decVal_cons (c : UInt8) (r : Str) : decVal (c :: r) = (c.toNat - 48) * 10 ^ r.length + decVal r := by
  simp only [decVal, List.foldl_cons]
  rw [foldl_dec]
  simp [decVal]

theorem decVal_lt : ∀ l : Str, l.all isDig = true → decVal l < 10 ^ l.length
  | [], _ => by simp [decVal]
  | c :: r, h => by
    simp only [List.all_cons, Bool.and_eq_true] at h
    have h1 := decVal_lt r h.2
    have h2 := (dig_lt h.1).1
    rw [decVal_cons, List.length_cons, Nat.pow_succ]
    have := Nat.mul_le_mul_right (10 ^ r.length) h2
    omega

theorem parseUint10_digits : ∀ (l : Str) (acc : Nat), l.all isDig = true → parseUint10 acc l = .range ∨ parseUint10 acc l = .ok (l.foldl (fun n c => 10 * n + (c.toNat - 48)) acc)
  | [], acc, _ => .inr rfl
  | c :: r, acc, h => by
    simp only [List.all_cons, Bool.and_eq_true] at h
    have hc : 48 ≤ c.toNat ∧ c.toNat ≤ 57 := of_decide_eq_true h.1
    rw [parseUint10, if_pos hc]
    split
    · exact .inl rfl
    · split
      · exact .inl rfl
      · have := parseUint10_digits r (acc * 10 + (c.toNat - 48)) h.2
        rw [Nat.mul_comm acc 10] at this ⊢
        exact this

theorem atoiAll_digits {s : Str} (h : areDigits s = true) : atoiAll s = .range ∨ atoiAll s = .ok (decVal s) := by
  unfold areDigits at h
  simp only [Bool.and_eq_true, Bool.not_eq_true'] at h
  cases s with
  | nil => simp at h
  | cons c r =>
    have hc : 48 ≤ c.toNat ∧ c.toNat ≤ 57 := by
      have := h.2
      simp only [List.all_cons, Bool.and_eq_true] at this
      exact of_decide_eq_true this.1
    unfold atoiAll
    simp only
    rw [if_neg (by omega)]
    unfold parseMag
    rw [if_neg (by simp)]
    rcases parseUint10_digits (c :: r) 0 h.2 with e | e
    · rw [e]; exact .inl rfl
    · rw [e]
      simp only
      split
      · exact .inl rfl
      · rw [if_neg (by omega), if_neg (by omega)]
        exact .inr rfl

theorem decVal_small {s : Str} (h : areDigits s = true) (hz : ¬ (1 < s.length ∧ s.head? = some 48)) : decVal s ≤ 999999 ↔ s.length ≤ 6 := by
  unfold areDigits at h
  simp only [Bool.and_eq_true, Bool.not_eq_true'] at h
  constructor
  · intro hv
    rcases Nat.lt_or_ge 6 s.length with hl | hl
    · exfalso
      cases s with
      | nil => simp at hl
      | cons c r =>
        have hc := h.2
        simp only [List.all_cons, Bool.and_eq_true] at hc
        have hd := of_decide_eq_true hc.1
        have hne : c ≠ 48 := fun e => hz ⟨by omega, by simp [e]⟩
        have hpos : 1 ≤ c.toNat - 48 := by
          rcases Nat.eq_or_lt_of_le hd.1 with e | e
          · exact absurd (UInt8.toNat_inj.1 (by simpa using e.symm)) hne
          · omega
        rw [decVal_cons] at hv
        have h6 : 6 ≤ r.length := by simp at hl; omega
        have := Nat.pow_le_pow_right (n := 10) (by decide) h6
        have h2 := Nat.mul_le_mul_right (10 ^ r.length) hpos
        omega
    · exact hl
  · intro hl
    have h1 := decVal_lt s h.2
    have := Nat.pow_le_pow_right (n := 10) (by decide) hl
    omega

theorem atoiAll_range_long {s : Str} (h : areDigits s = true) (hr : atoiAll s = .range) : 6 < s.length := by
  rcases Nat.lt_or_ge 6 s.length with hl | hl
  · exact hl
  · exfalso
    have h' := h
    unfold areDigits at h
    simp only [Bool.and_eq_true, Bool.not_eq_true'] at h
    have hv := decVal_lt s h.2
    have hp := Nat.pow_le_pow_right (n := 10) (by decide) hl
    have key : ∀ (l : Str) (acc : Nat), l.all isDig = true → acc * 10 ^ l.length + decVal l < 10 ^ 18 → parseUint10 acc l ≠ .range := by
      intro l
      induction l with
      | nil => intro acc _ _ e; cases e
      | cons c r ih =>
        intro acc hd hb
        simp only [List.all_cons, Bool.and_eq_true] at hd
        have hc : 48 ≤ c.toNat ∧ c.toNat ≤ 57 := of_decide_eq_true hd.1
        rw [decVal_cons, List.length_cons, Nat.pow_succ] at hb
        have hb2 : (acc * 10 + (c.toNat - 48)) * 10 ^ r.length + decVal r < 10 ^ 18 := by
          rw [Nat.add_mul, Nat.mul_assoc, Nat.mul_comm 10]; omega
        have hp1 : 1 ≤ 10 ^ r.length := Nat.one_le_pow _ _ (by decide)
        have hb3 : acc * 10 + (c.toNat - 48) < 10 ^ 18 := by
          have := Nat.mul_le_mul_left (acc * 10 + (c.toNat - 48)) hp1
          omega
        rw [parseUint10, if_pos hc, if_neg (by omega), if_neg (by omega)]
        exact ih _ hd.2 hb2
    unfold atoiAll at hr
    cases s with
    | nil => simp at h
    | cons c r =>
      have hc : 48 ≤ c.toNat ∧ c.toNat ≤ 57 := by
        have := h.2
        simp only [List.all_cons, Bool.and_eq_true] at this
        exact of_decide_eq_true this.1
      simp only at hr
      rw [if_neg (by omega)] at hr
      unfold parseMag at hr
      rw [if_neg (by simp)] at hr
      have hk := key (c :: r) 0 h.2 (by rw [Nat.zero_mul, Nat.zero_add]; omega)
      rcases parseUint10_digits (c :: r) 0 h.2 with e | e
      · exact hk e
      · rw [e] at hr
        simp only at hr
        have e2 : (c :: r).foldl (fun n c => 10 * n + (c.toNat - 48)) 0 = decVal (c :: r) := rfl
        rw [e2, if_neg (by omega), if_neg (by omega)] at hr
        cases hr

theorem numberOf_le (s : Str) : (numberOf s).1 ≤ 999999 ∧ (numberOf s).2 ≤ 2 := by
  unfold numberOf
  split
  · exact ⟨by decide, by decide⟩
  · split
    · exact ⟨by decide, by decide⟩
    · rename_i h1 h2
      refine ⟨?_, Nat.zero_le _⟩
      rw [not_or] at h1
      exact (decVal_small (by simpa using h1.1) h1.2).2 (by omega)

/-! ### versions -/
def numErrs (l : List Str) (b : Nat) : Nat := l.foldl (fun b w => worseN b (numberOf w).2) b
def partErrs (l : List Str) (b : Nat) : Nat := l.foldl (fun b w => worseN b (partErr w)) b

theorem worseN_le {a b : Nat} (ha : a ≤ 2) (hb : b ≤ 2) : worseN a b ≤ 2 := by unfold worseN; split <;> assumption
theorem partErr_le (s : Str) : partErr s ≤ 2 := by
  unfold partErr
  split
  · decide
  · split
    · exact (numberOf_le s).2
    · decide
theorem numErrs_le (l : List Str) : ∀ b, b ≤ 2 → numErrs l b ≤ 2 := by
  induction l with
  | nil => intro b hb; exact hb
  | cons c r ih => intro b hb; exact ih _ (worseN_le hb (numberOf_le c).2)
theorem partErrs_le (l : List Str) : ∀ b, b ≤ 2 → partErrs l b ≤ 2 := by
  induction l with
  | nil => intro b hb; exact hb
  | cons c r ih => intro b hb; exact ih _ (worseN_le hb (partErr_le c))
theorem numErrs_snoc (l : List Str) (w : Str) (b : Nat) : numErrs (l ++ [w]) b = worseN (numErrs l b) (numberOf w).2 := by simp [numErrs]
theorem partErrs_snoc (l : List Str) (w : Str) (b : Nat) : partErrs (l ++ [w]) b = worseN (partErrs l b) (partErr w) := by simp [partErrs]

theorem lstF_take_succ (n : Nat) (L : Nat → ByteArray) (k : Nat) (h : k < n) : (lstF n L).take (k + 1) = (lstF n L).take k ++ [(L k).data.toList] := by
  rw [List.take_add_one, lstF_get n L k h]
  rfl
theorem lstF_take_all (n : Nat) (L : Nat → ByteArray) : (lstF n L).take n = lstF n L := by
  conv => lhs; rw [← lstF_length n L]
  rw [lstF_length]
  exact List.take_of_length_le (by rw [lstF_length]; exact Nat.le_refl _)

/-- a text behind its v, its head's words, its pre's words (none: it has none) -/
def verWords (s : Str) : List Str := split (cut (trimPrefix s [118]) [45]).1 [46]
def verPres (s : Str) : List Str := if (cut (trimPrefix s [118]) [45]).2.2 then split (cut (trimPrefix s [118]) [45]).2.1 [46] else []
def verErrs (s : Str) : Nat :=
  let e := partErrs (verPres s) (numErrs (verWords s) 0)
  if 5 < (verPres s).length then worseN e 2 else e
/-- ver.Split: the error's number -/
def verErr (s : Str) : Nat := if hasPrefix s [118] = false ∨ (verWords s).length ≠ 3 then 1 else verErrs s
def verNum (s : Str) (i : Nat) : Nat := if verErr s = 0 then (numberOf ((verWords s).getD i [])).1 else 0
def verPre (s : Str) : List Str := if verErr s = 0 then verPres s else []

theorem verErrs_le (s : Str) : verErrs s ≤ 2 := by
  unfold verErrs
  have h := partErrs_le (verPres s) _ (numErrs_le (verWords s) 0 (by decide))
  split
  · exact worseN_le h (by decide)
  · exact h
theorem verErr_le (s : Str) : verErr s ≤ 2 := by
  unfold verErr
  split
  · decide
  · exact verErrs_le s
end Go.Proofs.Pw
