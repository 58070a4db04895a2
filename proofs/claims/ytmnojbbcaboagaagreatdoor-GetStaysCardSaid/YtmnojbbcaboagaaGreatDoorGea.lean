/- Ge: walks and plain laws, joined: Math VerMath ModMath VerOrd. Conditions: at each theorem. -/
import Derived.Lib.SplitLaws
import Derived.Lib.Hide
import Derived.Lib.SlTrimSet
import Derived.Lib.AtoiAll
import Derived.Lib.ItoaNum
import Derived.Lib.LastIndexLaws
import Derived.Lib.Bytealg

namespace Go.Proofs.Pw
open Go.Lib hiding intOf
abbrev Str := List UInt8
abbrev Md := Str × Str
def mids : List Str → Str → Option Str
  | [], s => some s
  | p :: r, s => if index s p < 0 then none else mids r (s.drop ((index s p).toNat + p.length))
def pmatches : List Str → Str → Bool
  | [], _ => false
  | p :: r, s => hasPrefix s p &&
      (if r = [] then s.drop p.length == [] else
        match mids r.dropLast (s.drop p.length) with
        | none => false
        | some t => hasSuffix t (r.getLast?.getD []))
def dots : Str := [46, 46, 46]
def slashDots : Str := [47, 46, 46, 46]
def pMatch (p s : Str) : Bool :=
  pmatches (split p dots) s || (hasSuffix p slashDots && pmatches (split (trimSuffix p slashDots) dots) s)
theorem split_none {s sub : Str} (h : index s sub = -1) : split s sub = [s] := by
  unfold split
  rw [count_miss h]
  rfl
theorem split_hit {s sub : Str} {i : Nat} (hs : sub ≠ []) (h : index s sub = i) :
    split s sub = s.take i :: split (s.drop (i + sub.length)) sub := by
  unfold split
  rw [count_hit hs h, Nat.add_comm 1, splitK]
  rw [if_neg (by rw [h]; simp), h]
  simp
theorem index_no {s sub : Str} (hs : sub ≠ []) (h : ∀ c, sub.head? = some c → c ∉ s) : index s sub = -1 := by
  cases sub with
  | nil => exact absurd rfl hs
  | cons c t =>
    have hc := h c rfl
    induction s with
    | nil => rfl
    | cons b l ih =>
      simp only [List.mem_cons, not_or] at hc
      unfold index
      rw [if_neg (by simp [List.isPrefixOf, hc.1]), ih (by intro d hd; simp at hd; subst hd; exact hc.2) hc.2]
      rfl
theorem index_at {a b sub : Str} (hs : sub ≠ []) (h : ∀ c, sub.head? = some c → c ∉ a) : index (a ++ sub ++ b) sub = a.length := by
  cases sub with
  | nil => exact absurd rfl hs
  | cons c t =>
    have hc := h c rfl
    refine index_first (by simp) (by simp [occAt]) ?_
    intro j hj
    simp only [occAt, List.append_assoc]
    rw [List.drop_append_of_le_length (Nat.le_of_lt hj), List.drop_eq_getElem_cons hj]
    simp only [List.cons_append, List.isPrefixOf]
    have : a[j] ≠ c := fun e => hc (e ▸ List.getElem_mem hj)
    simp [Ne.symm this]
def lstF (n : Nat) (L : Nat → ByteArray) : List Str := (List.range n).map fun j => (L j).data.toList
theorem lstF_length (n L) : (lstF n L).length = n := by simp [lstF]
theorem lstF_get (n L) (j : Nat) (h : j < n) : (lstF n L)[j]? = some (L j).data.toList := by simp [lstF, h]
theorem lstF_mids (n : Nat) (L) (k : Nat) (h : k < n - 2) : ((lstF n L).tail.dropLast).drop k = (L (1 + k)).data.toList :: ((lstF n L).tail.dropLast).drop (k + 1) := by
  have hl : k < ((lstF n L).tail.dropLast).length := by simp [lstF_length]; omega
  rw [List.drop_eq_getElem_cons hl]
  congr 1
  have : ((lstF n L).tail.dropLast)[k]? = some (L (1 + k)).data.toList := by
    rw [List.getElem?_dropLast, if_pos (by simp [lstF_length]; omega), List.getElem?_tail, lstF_get _ _ _ (by omega), Nat.add_comm]
  simpa [List.getElem?_eq_getElem hl] using this
theorem lstF_mids_end (n : Nat) (L) (h : 2 ≤ n) : ((lstF n L).tail.dropLast).drop (n - 2) = [] := by
  apply List.drop_eq_nil_of_le
  simp [lstF_length]; omega
theorem pmatches_lstF (n : Nat) (L) (s : Str) (h : 2 ≤ n) (hp : hasPrefix s (L 0).data.toList = true) :
    pmatches (lstF n L) s = match mids ((lstF n L).tail.dropLast) (trimPrefix s (L 0).data.toList) with
      | none => false
      | some t => hasSuffix t (L (n - 1)).data.toList := by
  have e : lstF n L = (L 0).data.toList :: (lstF n L).tail := by
    obtain ⟨m, rfl⟩ : ∃ m, n = m + 1 := ⟨n - 1, by omega⟩
    simp [lstF, List.range_succ_eq_map]
  have hne : (lstF n L).tail ≠ [] := by
    intro h0
    have := congrArg List.length h0
    simp [lstF_length] at this; omega
  have hlast : (lstF n L).tail.getLast?.getD [] = (L (n - 1)).data.toList := by
    rw [List.getLast?_eq_getElem?, List.getElem?_tail, List.length_tail, lstF_length, lstF_get _ _ _ (by omega)]
    simp only [Option.getD_some]
    congr 2
    congr 1
    omega
  have ht : trimPrefix s (L 0).data.toList = s.drop (L 0).data.toList.length := by unfold trimPrefix; rw [if_pos hp]
  generalize lstF n L = l at *
  rw [e, pmatches, hp, Bool.true_and, if_neg hne, ht]
  simp only [List.tail_cons, hlast]
theorem mids_hit {p : Str} {r : List Str} {s : Str} (h : ¬ index s p < 0) : mids (p :: r) s = mids r (s.drop ((index s p).toNat + p.length)) := by
  rw [mids, if_neg h]
theorem mids_miss {p : Str} {r : List Str} {s : Str} (h : index s p < 0) : mids (p :: r) s = none := by
  rw [mids, if_pos h]
theorem lstF_zero_not (n : Nat) (L) (s : Str) (h : 1 ≤ n) (hp : hasPrefix s (L 0).data.toList = false) : pmatches (lstF n L) s = false := by
  obtain ⟨m, rfl⟩ : ∃ m, n = m + 1 := ⟨n - 1, by omega⟩
  have e : lstF (m + 1) L = (L 0).data.toList :: (lstF (m + 1) L).tail := by simp [lstF, List.range_succ_eq_map]
  rw [e, pmatches, hp, Bool.false_and]
theorem lstF_one (L) (s : Str) (hp : hasPrefix s (L 0).data.toList = true) : pmatches (lstF 1 L) s = (trimPrefix s (L 0).data.toList == []) := by
  have ht : trimPrefix s (L 0).data.toList = s.drop (L 0).data.toList.length := by unfold trimPrefix; rw [if_pos hp]
  simp [lstF, pmatches, hp, ht]
def splitL (s sep : ByteArray) (j : Nat) : ByteArray := (splitB sep 0 (countB s sep) s).getD j ByteArray.empty
theorem splitL_lstF (s sep : ByteArray) (h1 : 1 ≤ sep.size) : lstF (countB s sep + 1) (splitL s sep) = split s.data.toList sep.data.toList := by
  unfold split
  rw [← splitB_data]
  have hl := splitB_all sep h1 0 _ s rfl
  apply List.ext_getElem
  · simp [lstF_length, hl]
  · intro i h1 h2
    simp only [lstF, List.getElem_map, List.getElem_range, splitL]
    simp only [List.length_map, hl] at h2
    rw [List.getD_eq_getElem?_getD, List.getElem?_eq_getElem (by omega), Option.getD_some]
end Go.Proofs.Pw

namespace Go.Proofs.Pw
open Go.Lib hiding intOf
def isDig (c : UInt8) : Bool := decide (48 ≤ c.toNat ∧ c.toNat ≤ 57)
def areDigits (s : Str) : Bool := !s.isEmpty && s.all isDig
def decVal (s : Str) : Nat := s.foldl (fun n c => 10 * n + (c.toNat - 48)) 0
def numberOf (s : Str) : Nat × Nat :=
  if areDigits s = false ∨ (1 < s.length ∧ s.head? = some 48) then (0, 1)
  else if 6 < s.length then (0, 2) else (decVal s, 0)
def isLetter (c : UInt8) : Bool := decide ((97 ≤ c.toNat ∧ c.toNat ≤ 122) ∨ (65 ≤ c.toNat ∧ c.toNat ≤ 90))
def isPartByte (c : UInt8) : Bool := isDig c || isLetter c || c == 45
def partErr (s : Str) : Nat :=
  if s = [] ∨ 8 < s.length ∨ s.all isPartByte = false then 1
  else if areDigits s then (numberOf s).2 else 0
def worseN (a b : Nat) : Nat := if a = 1 ∨ b = 0 then a else b
theorem dropWhile_eq_nil {p : UInt8 → Bool} : ∀ l : Str, l.dropWhile p = [] ↔ ∀ c ∈ l, p c = true
  | [] => by simp
  | c :: r => by
    by_cases h : p c
    · simp [h, dropWhile_eq_nil r]
    · simp [h]
theorem trimS_nil (l cs : Str) : trimS l cs = [] ↔ ∀ c ∈ l, cs.contains c = true := by
  have key : ∀ m : Str, trimRightS m cs = [] ↔ ∀ c ∈ m, cs.contains c = true := fun m => by
    unfold trimRightS
    rw [List.reverse_eq_nil_iff, dropWhile_eq_nil]
    simp
  constructor
  · intro h
    unfold trimS trimLeftS at h
    rw [dropWhile_eq_nil] at h
    -- what trimRightS leaves has a last byte outside, unless it is empty
    have hr : trimRightS l cs = [] := by
      rcases List.eq_nil_or_concat (trimRightS l cs) with h0 | ⟨m, b, hb⟩
      · exact h0
      · exfalso
        have h1 := h b (by rw [hb]; simp)
        have h2 : (trimRightS l cs).reverse = (l.reverse.dropWhile (cs.contains ·)) := by unfold trimRightS; rw [List.reverse_reverse]
        rw [hb] at h2
        simp only [List.concat_eq_append, List.reverse_append, List.reverse_cons, List.reverse_nil, List.nil_append, List.singleton_append] at h2
        have h3 := List.head?_dropWhile_not (cs.contains ·) l.reverse
        rw [← h2] at h3
        simp only [List.head?_cons] at h3
        rw [h1] at h3
        exact absurd h3 (by decide)
    exact (key l).1 hr
  · intro h
    unfold trimS
    rw [(key l).2 h]
    rfl
theorem trimS_nil_bool (l cs : Str) (p : UInt8 → Bool) (hp : ∀ c, cs.contains c = p c) : (trimS l cs == []) = l.all p := by
  rw [Bool.eq_iff_iff, beq_iff_eq, trimS_nil, List.all_eq_true]
  constructor
  · intro h c hc; rw [← hp]; exact h c hc
  · intro h c hc; rw [hp]; exact h c hc
theorem byte_cases (P : UInt8 → Prop) (h : ∀ n, n < 256 → P (UInt8.ofNat n)) (c : UInt8) : P c := by
  have := h c.toNat c.toNat_lt
  rwa [UInt8.ofNat_toNat] at this
def digitsSet : Str := [48, 49, 50, 51, 52, 53, 54, 55, 56, 57]
theorem digitsSet_ok : ∀ c : UInt8, digitsSet.contains c = isDig c := by
  apply byte_cases
  decide +kernel
def partSet : Str := [97, 98, 99, 100, 101, 102, 103, 104, 105, 106, 107, 108, 109, 110, 111, 112, 113, 114, 115, 116, 117, 118, 119, 120, 121, 122, 65, 66, 67, 68, 69, 70, 71, 72, 73, 74, 75, 76, 77, 78, 79, 80, 81, 82, 83, 84, 85, 86, 87, 88, 89, 90, 48, 49, 50, 51, 52, 53, 54, 55, 56, 57, 45]
theorem partSet_ok : ∀ c : UInt8, partSet.contains c = isPartByte c := by
  apply byte_cases
  decide +kernel
theorem decVal_snoc (l : Str) (c : UInt8) : decVal (l ++ [c]) = 10 * decVal l + (c.toNat - 48) := by simp [decVal]
theorem dig_lt {c : UInt8} (h : isDig c = true) : c.toNat - 48 ≤ 9 ∧ 48 ≤ c.toNat := by
  unfold isDig at h
  have := of_decide_eq_true h
  omega
theorem foldl_dec (l : Str) : ∀ n : Nat, l.foldl (fun n c => 10 * n + (c.toNat - 48)) n = n * 10 ^ l.length + decVal l := by
  induction l with
  | nil => intro n; simp [decVal]
  | cons c r ih =>
    intro n
    simp only [List.foldl_cons, decVal, List.length_cons]
    rw [ih, ih (10 * 0 + _), Nat.pow_succ]
    have : (10 * n + (c.toNat - 48)) * 10 ^ r.length = n * (10 ^ r.length * 10) + (c.toNat - 48) * 10 ^ r.length := by
      rw [Nat.add_mul, Nat.mul_comm 10 n, Nat.mul_assoc, Nat.mul_comm 10]
    rw [this]
    simp only [Nat.mul_zero, Nat.zero_add]
    omega
theorem decVal_cons (c : UInt8) (r : Str) : decVal (c :: r) = (c.toNat - 48) * 10 ^ r.length + decVal r := by
  simp only [decVal, List.foldl_cons]
  rw [foldl_dec]
  simp [decVal]
theorem decVal_lt : ∀ l : Str, l.all isDig = true → decVal l < 10 ^ l.length
  | [], _ => by simp [decVal]
  | c :: r, h => by
    simp only [List.all_cons, Bool.and_eq_true] at h
    have h1 := decVal_lt r h.2
    have h2 := (dig_lt h.1).1
    rw [decVal_cons, List.length_cons, Nat.pow_succ]
    have := Nat.mul_le_mul_right (10 ^ r.length) h2
    omega
theorem parseUint10_digits : ∀ (l : Str) (acc : Nat), l.all isDig = true → parseUint10 acc l = .range ∨ parseUint10 acc l = .ok (l.foldl (fun n c => 10 * n + (c.toNat - 48)) acc)
  | [], acc, _ => .inr rfl
  | c :: r, acc, h => by
    simp only [List.all_cons, Bool.and_eq_true] at h
    have hc : 48 ≤ c.toNat ∧ c.toNat ≤ 57 := of_decide_eq_true h.1
    rw [parseUint10, if_pos hc]
    split
    · exact .inl rfl
    · split
      · exact .inl rfl
      · have := parseUint10_digits r (acc * 10 + (c.toNat - 48)) h.2
        rw [Nat.mul_comm acc 10] at this ⊢
        exact this
theorem atoiAll_digits {s : Str} (h : areDigits s = true) : atoiAll s = .range ∨ atoiAll s = .ok (decVal s) := by
  unfold areDigits at h
  simp only [Bool.and_eq_true, Bool.not_eq_true'] at h
  cases s with
  | nil => simp at h
  | cons c r =>
    have hc : 48 ≤ c.toNat ∧ c.toNat ≤ 57 := by
      have := h.2
      simp only [List.all_cons, Bool.and_eq_true] at this
      exact of_decide_eq_true this.1
    unfold atoiAll
    simp only
    rw [if_neg (by omega)]
    unfold parseMag
    rw [if_neg (by simp)]
    rcases parseUint10_digits (c :: r) 0 h.2 with e | e
    · rw [e]; exact .inl rfl
    · rw [e]
      simp only
      split
      · exact .inl rfl
      · rw [if_neg (by omega), if_neg (by omega)]
        exact .inr rfl
theorem decVal_small {s : Str} (h : areDigits s = true) (hz : ¬ (1 < s.length ∧ s.head? = some 48)) : decVal s ≤ 999999 ↔ s.length ≤ 6 := by
  unfold areDigits at h
  simp only [Bool.and_eq_true, Bool.not_eq_true'] at h
  constructor
  · intro hv
    rcases Nat.lt_or_ge 6 s.length with hl | hl
    · exfalso
      cases s with
      | nil => simp at hl
      | cons c r =>
        have hc := h.2
        simp only [List.all_cons, Bool.and_eq_true] at hc
        have hd := of_decide_eq_true hc.1
        have hne : c ≠ 48 := fun e => hz ⟨by omega, by simp [e]⟩
        have hpos : 1 ≤ c.toNat - 48 := by
          rcases Nat.eq_or_lt_of_le hd.1 with e | e
          · exact absurd (UInt8.toNat_inj.1 (by simpa using e.symm)) hne
          · omega
        rw [decVal_cons] at hv
        have h6 : 6 ≤ r.length := by simp at hl; omega
        have := Nat.pow_le_pow_right (n := 10) (by decide) h6
        have h2 := Nat.mul_le_mul_right (10 ^ r.length) hpos
        omega
    · exact hl
  · intro hl
    have h1 := decVal_lt s h.2
    have := Nat.pow_le_pow_right (n := 10) (by decide) hl
    omega
theorem atoiAll_range_long {s : Str} (h : areDigits s = true) (hr : atoiAll s = .range) : 6 < s.length := by
  rcases Nat.lt_or_ge 6 s.length with hl | hl
  · exact hl
  · exfalso
    have h' := h
    unfold areDigits at h
    simp only [Bool.and_eq_true, Bool.not_eq_true'] at h
    have hv := decVal_lt s h.2
    have hp := Nat.pow_le_pow_right (n := 10) (by decide) hl
    have key : ∀ (l : Str) (acc : Nat), l.all isDig = true → acc * 10 ^ l.length + decVal l < 10 ^ 18 → parseUint10 acc l ≠ .range := by
      intro l
      induction l with
      | nil => intro acc _ _ e; cases e
      | cons c r ih =>
        intro acc hd hb
        simp only [List.all_cons, Bool.and_eq_true] at hd
        have hc : 48 ≤ c.toNat ∧ c.toNat ≤ 57 := of_decide_eq_true hd.1
        rw [decVal_cons, List.length_cons, Nat.pow_succ] at hb
        have hb2 : (acc * 10 + (c.toNat - 48)) * 10 ^ r.length + decVal r < 10 ^ 18 := by
          rw [Nat.add_mul, Nat.mul_assoc, Nat.mul_comm 10]; omega
        have hp1 : 1 ≤ 10 ^ r.length := Nat.one_le_pow _ _ (by decide)
        have hb3 : acc * 10 + (c.toNat - 48) < 10 ^ 18 := by
          have := Nat.mul_le_mul_left (acc * 10 + (c.toNat - 48)) hp1
          omega
        rw [parseUint10, if_pos hc, if_neg (by omega), if_neg (by omega)]
        exact ih _ hd.2 hb2
    unfold atoiAll at hr
    cases s with
    | nil => simp at h
    | cons c r =>
      have hc : 48 ≤ c.toNat ∧ c.toNat ≤ 57 := by
        have := h.2
        simp only [List.all_cons, Bool.and_eq_true] at this
        exact of_decide_eq_true this.1
      simp only at hr
      rw [if_neg (by omega)] at hr
      unfold parseMag at hr
      rw [if_neg (by simp)] at hr
      have hk := key (c :: r) 0 h.2 (by rw [Nat.zero_mul, Nat.zero_add]; omega)
      rcases parseUint10_digits (c :: r) 0 h.2 with e | e
      · exact hk e
      · rw [e] at hr
        simp only at hr
        have e2 : (c :: r).foldl (fun n c => 10 * n + (c.toNat - 48)) 0 = decVal (c :: r) := rfl
        rw [e2, if_neg (by omega), if_neg (by omega)] at hr
        cases hr
theorem numberOf_le (s : Str) : (numberOf s).1 ≤ 999999 ∧ (numberOf s).2 ≤ 2 := by
  unfold numberOf
  split
  · exact ⟨by decide, by decide⟩
  · split
    · exact ⟨by decide, by decide⟩
    · rename_i h1 h2
      refine ⟨?_, Nat.zero_le _⟩
      rw [not_or] at h1
      exact (decVal_small (by simpa using h1.1) h1.2).2 (by omega)
def numErrs (l : List Str) (b : Nat) : Nat := l.foldl (fun b w => worseN b (numberOf w).2) b
def partErrs (l : List Str) (b : Nat) : Nat := l.foldl (fun b w => worseN b (partErr w)) b
theorem worseN_le {a b : Nat} (ha : a ≤ 2) (hb : b ≤ 2) : worseN a b ≤ 2 := by unfold worseN; split <;> assumption
theorem partErr_le (s : Str) : partErr s ≤ 2 := by
  unfold partErr
  split
  · decide
  · split
    · exact (numberOf_le s).2
    · decide
theorem numErrs_le (l : List Str) : ∀ b, b ≤ 2 → numErrs l b ≤ 2 := by
  induction l with
  | nil => intro b hb; exact hb
  | cons c r ih => intro b hb; exact ih _ (worseN_le hb (numberOf_le c).2)
theorem partErrs_le (l : List Str) : ∀ b, b ≤ 2 → partErrs l b ≤ 2 := by
  induction l with
  | nil => intro b hb; exact hb
  | cons c r ih => intro b hb; exact ih _ (worseN_le hb (partErr_le c))
theorem numErrs_snoc (l : List Str) (w : Str) (b : Nat) : numErrs (l ++ [w]) b = worseN (numErrs l b) (numberOf w).2 := by simp [numErrs]
theorem partErrs_snoc (l : List Str) (w : Str) (b : Nat) : partErrs (l ++ [w]) b = worseN (partErrs l b) (partErr w) := by simp [partErrs]
theorem lstF_take_succ (n : Nat) (L : Nat → ByteArray) (k : Nat) (h : k < n) : (lstF n L).take (k + 1) = (lstF n L).take k ++ [(L k).data.toList] := by
  rw [List.take_add_one, lstF_get n L k h]
  rfl
theorem lstF_take_all (n : Nat) (L : Nat → ByteArray) : (lstF n L).take n = lstF n L := by
  conv => lhs; rw [← lstF_length n L]
  rw [lstF_length]
  exact List.take_of_length_le (by rw [lstF_length]; exact Nat.le_refl _)
def verWords (s : Str) : List Str := split (cut (trimPrefix s [118]) [45]).1 [46]
def verPres (s : Str) : List Str := if (cut (trimPrefix s [118]) [45]).2.2 then split (cut (trimPrefix s [118]) [45]).2.1 [46] else []
def verErrs (s : Str) : Nat :=
  let e := partErrs (verPres s) (numErrs (verWords s) 0)
  if 5 < (verPres s).length then worseN e 2 else e
def verErr (s : Str) : Nat := if hasPrefix s [118] = false ∨ (verWords s).length ≠ 3 then 1 else verErrs s
def verNum (s : Str) (i : Nat) : Nat := if verErr s = 0 then (numberOf ((verWords s).getD i [])).1 else 0
def verPre (s : Str) : List Str := if verErr s = 0 then verPres s else []
theorem verErrs_le (s : Str) : verErrs s ≤ 2 := by
  unfold verErrs
  have h := partErrs_le (verPres s) _ (numErrs_le (verWords s) 0 (by decide))
  split
  · exact worseN_le h (by decide)
  · exact h
theorem verErr_le (s : Str) : verErr s ≤ 2 := by
  unfold verErr
  split
  · decide
  · exact verErrs_le s
end Go.Proofs.Pw

namespace Go.Proofs.Pw
open Go.Lib hiding intOf
theorem isDig_ofNat {n : Nat} (h : n < 10) : isDig (UInt8.ofNat (48 + n)) = true ∧ (UInt8.ofNat (48 + n)).toNat = 48 + n := by
  have : (UInt8.ofNat (48 + n)).toNat = 48 + n := by simp; omega
  exact ⟨by unfold isDig; rw [this]; simp; omega, this⟩
theorem decDigits_decVal : ∀ (k : Nat) (s : Str), s.length ≤ k → areDigits s = true → ¬ (1 < s.length ∧ s.head? = some 48) → decDigits (decVal s) = s
  | 0, s, hk, h, _ => by cases s with
    | nil => simp [areDigits] at h
    | cons c r => simp at hk
  | k + 1, s, hk, h, hz => by
    rcases List.eq_nil_or_concat s with rfl | ⟨l, c, rfl⟩
    · simp [areDigits] at h
    · rw [List.concat_eq_append] at *
      have hall : l.all isDig = true ∧ isDig c = true := by
        unfold areDigits at h
        simp only [List.all_append, Bool.and_eq_true, List.all_cons, List.all_nil, Bool.and_true] at h
        exact ⟨h.2.1, h.2.2⟩
      have hc := dig_lt hall.2
      have hcv : UInt8.ofNat (48 + (c.toNat - 48)) = c := by
        rw [show 48 + (c.toNat - 48) = c.toNat by omega, UInt8.ofNat_toNat]
      rw [decVal_snoc]
      cases l with
      | nil =>
        rw [show decVal [] = 0 from rfl, decDigits, dif_pos (by omega)]
        rw [Nat.mul_zero, Nat.zero_add, hcv]
        rfl
      | cons b r =>
        have hb : b ≠ 48 := fun e => hz ⟨by simp, by simp [e]⟩
        have hl : areDigits (b :: r) = true := by unfold areDigits; rw [hall.1]; rfl
        have ih := decDigits_decVal k (b :: r) (by simp at hk ⊢; omega) hl (by rintro ⟨_, h2⟩; simp at h2; exact hb h2)
        have hpos : 1 ≤ decVal (b :: r) := by
          rw [decVal_cons]
          have h1 := hall.1
          simp only [List.all_cons, Bool.and_eq_true] at h1
          have := dig_lt h1.1
          have hne : b.toNat ≠ 48 := fun e => hb (UInt8.toNat_inj.1 (by simpa using e))
          have hp : 1 ≤ 10 ^ r.length := Nat.one_le_pow _ _ (by decide)
          have := Nat.mul_le_mul (show 1 ≤ b.toNat - 48 by omega) hp
          omega
        rw [decDigits, dif_neg (by omega)]
        rw [show (10 * decVal (b :: r) + (c.toNat - 48)) / 10 = decVal (b :: r) by omega, show (10 * decVal (b :: r) + (c.toNat - 48)) % 10 = c.toNat - 48 by omega, ih, hcv]
theorem decDigits_ne_nil (u : Nat) : decDigits u ≠ [] := by
  rw [decDigits]; split
  · simp
  · simp
theorem decDigits_head (u : Nat) : ¬ (1 < (decDigits u).length ∧ (decDigits u).head? = some 48) := by
  induction u using Nat.strongRecOn with
  | _ u ih =>
    rw [decDigits]
    split
    · simp
    · rename_i h
      rintro ⟨_, h2⟩
      rw [List.head?_append] at h2
      by_cases h10 : u / 10 < 10
      · rw [decDigits, dif_pos h10] at h2
        simp only [List.head?_cons, Option.some_or, Option.some.injEq] at h2
        have := congrArg UInt8.toNat h2
        rw [(isDig_ofNat h10).2] at this
        have h48 : (48 : UInt8).toNat = 48 := rfl
        omega
      · apply ih (u / 10) (by omega)
        constructor
        · rw [decDigits_length, nDigits_big h10]
          have := nDigits_pos (u / 10 / 10)
          omega
        · cases hd : (decDigits (u / 10)).head? with
          | none => rw [List.head?_eq_none_iff] at hd; exact absurd hd (decDigits_ne_nil _)
          | some b => rw [hd] at h2; simpa using h2
theorem itoa_decVal {s : Str} (h : areDigits s = true) : itoa ((decVal s : Nat) : Int) = s ↔ ¬ (1 < s.length ∧ s.head? = some 48) := by
  have e : itoa ((decVal s : Nat) : Int) = decDigits (decVal s) := by unfold itoa; rw [if_neg (by omega)]; simp
  rw [e]
  constructor
  · intro e2 hz
    have := decDigits_head (decVal s)
    rw [e2] at this
    exact this hz
  · exact decDigits_decVal s.length s (Nat.le_refl _) h
def isElemByte (c : UInt8) : Bool := decide (97 ≤ c.toNat ∧ c.toNat ≤ 122) || isDig c || c == 46 || c == 45 || c == 95
def elemSet : Str := [97, 98, 99, 100, 101, 102, 103, 104, 105, 106, 107, 108, 109, 110, 111, 112, 113, 114, 115, 116, 117, 118, 119, 120, 121, 122, 48, 49, 50, 51, 52, 53, 54, 55, 56, 57, 46, 45, 95]
theorem elemSet_ok : ∀ c : UInt8, elemSet.contains c = isElemByte c := by
  apply byte_cases
  decide +kernel
theorem dotSet_ok : ∀ c : UInt8, ([46] : Str).contains c = (c == 46) := by
  apply byte_cases
  decide +kernel
def elemOk (s : Str) : Bool := !s.isEmpty && s.all isElemByte && !s.all (· == 46) && !contains s dots
def sufD (s : Str) : Str := trimPrefix s [118]
def looksSuf (s : Str) : Bool := hasPrefix s [118] && areDigits (sufD s)
def isSuf (s : Str) : Bool := looksSuf s && decide ((numberOf (sufD s)).2 = 0 ∧ 2 ≤ (numberOf (sufD s)).1)
def sufWell (s : Str) : Bool := !looksSuf s || isSuf s
def sufNum (s : Str) : Nat := (numberOf (sufD s)).1
def pathErr (s : Str) : Nat :=
  let l := split s [47]
  if l.any (fun w => !elemOk w) then 1
  else if 5 < l.length ∨ l.any (fun w => decide (10 < w.length)) then 2
  else if 1 < l.length ∧ sufWell (l.getLast?.getD []) = false then 4 else 0
def modSplit (s : Str) : Str × Nat :=
  if pathErr s ≠ 0 then ([], 0)
  else
    let l := lastIndex s [47]
    if l < 0 then (s, 0)
    else if isSuf (s.drop (l.toNat + 1)) then (s.take l.toNat, sufNum (s.drop (l.toNat + 1))) else (s, 0)
def modErr (p v : Str) : Nat :=
  if pathErr p ≠ 0 then pathErr p
  else if verErr v ≠ 0 then verErr v
  else if ((modSplit p).2 = 0 ∧ 1 < verNum v 0) ∨ (0 < (modSplit p).2 ∧ verNum v 0 ≠ (modSplit p).2) then 4 else 0
def modText (p v : Str) : Str := if modErr p v = 0 then p ++ [64] ++ v else []
end Go.Proofs.Pw

namespace Go.Proofs.Pw
open Go.Lib hiding intOf
def orI (a b : Int) : Int := if a = 0 then b else a
def cmpPart (a b : Str) : Int :=
  if areDigits a && areDigits b then orI ((a.length : Int) - b.length) (compareBytes a b)
  else if areDigits a then -1 else if areDigits b then 1 else compareBytes a b
def cmpList : List Str → List Str → Int
  | [], [] => 0
  | [], _ :: _ => -1
  | _ :: _, [] => 1
  | a :: r, b :: t => orI (cmpPart a b) (cmpList r t)
def verCmp (a b : Str) : Int :=
  let n := orI ((verNum a 0 : Int) - verNum b 0) (orI ((verNum a 1 : Int) - verNum b 1) ((verNum a 2 : Int) - verNum b 2))
  if n = 0 ∧ decide ((verPre a).length = 0) ≠ decide ((verPre b).length = 0) then ((verPre b).length : Int) - (verPre a).length
  else orI n (cmpList (verPre a) (verPre b))
def verLess (a b : Str) : Bool := decide (verErr a = 0 ∧ verErr b = 0 ∧ verCmp a b < 0)
structure Ord3 {α : Type} (f : α → α → Int) : Prop where
  anti : ∀ a b, f a b < 0 ↔ 0 < f b a
  tr : ∀ a b c, f a b ≤ 0 → f b c ≤ 0 → f a c ≤ 0
section
variable {α β : Type} {f g : α → α → Int}
theorem Ord3.self (h : Ord3 f) (a : α) : f a a = 0 := by have := h.anti a a; omega
theorem Ord3.zero (h : Ord3 f) {a b : α} (e : f a b = 0) : f b a = 0 := by have := h.anti a b; have := h.anti b a; omega
theorem orI_le {a b : Int} : orI a b ≤ 0 ↔ a < 0 ∨ (a = 0 ∧ b ≤ 0) := by unfold orI; split <;> omega
theorem orI_lt {a b : Int} : orI a b < 0 ↔ a < 0 ∨ (a = 0 ∧ b < 0) := by unfold orI; split <;> omega
theorem orI_gt {a b : Int} : 0 < orI a b ↔ 0 < a ∨ (a = 0 ∧ 0 < b) := by unfold orI; split <;> omega
theorem orI_eq {a b : Int} : orI a b = 0 ↔ a = 0 ∧ b = 0 := by unfold orI; split <;> omega
theorem Ord3.or (hf : Ord3 f) (hg : Ord3 g) : Ord3 fun a b => orI (f a b) (g a b) := by
  refine ⟨fun a b => ?_, fun a b c h1 h2 => ?_⟩
  · have := hf.anti a b
    have := hf.anti b a
    have := hg.anti a b
    rw [orI_lt, orI_gt]
    omega
  · rw [orI_le] at *
    have a1 := hf.anti a b
    have a2 := hf.anti b a
    have a3 := hf.anti a c
    have a4 := hf.anti c a
    have a5 := hf.anti b c
    have a6 := hf.anti c b
    have t1 := hf.tr a b c
    have t2 := hf.tr b c a
    have t3 := hf.tr c a b
    have t4 := hg.tr a b c
    omega
theorem Ord3.comap (hf : Ord3 f) (k : β → α) : Ord3 fun a b => f (k a) (k b) := ⟨fun _ _ => hf.anti _ _, fun _ _ _ => hf.tr _ _ _⟩
theorem ord3_sub (k : α → Int) : Ord3 fun a b => k a - k b := ⟨fun a b => by omega, fun a b c => by omega⟩
theorem Ord3.sign (hg : Ord3 g) (h : ∀ a b, (f a b < 0 ↔ g a b < 0) ∧ (f a b = 0 ↔ g a b = 0)) : Ord3 f := by
  refine ⟨fun a b => ?_, fun a b c h1 h2 => ?_⟩
  · have := hg.anti a b
    have := h a b
    have := h b a
    omega
  · have := hg.tr a b c
    have := h a b
    have := h b c
    have := h a c
    omega
def lexI (f : α → α → Int) : List α → List α → Int
  | [], [] => 0
  | [], _ :: _ => -1
  | _ :: _, [] => 1
  | a :: r, b :: t => orI (f a b) (lexI f r t)
theorem lexI_anti (hf : Ord3 f) : ∀ a b : List α, lexI f a b < 0 ↔ 0 < lexI f b a
  | [], [] => by simp [lexI]
  | [], _ :: _ => by simp [lexI]
  | _ :: _, [] => by simp [lexI]
  | a :: r, b :: t => by
    have := lexI_anti hf r t
    have := hf.anti a b
    have := hf.anti b a
    rw [lexI, lexI, orI_lt, orI_gt]
    omega
theorem lexI_tr (hf : Ord3 f) : ∀ a b c : List α, lexI f a b ≤ 0 → lexI f b c ≤ 0 → lexI f a c ≤ 0
  | [], _, [] => by simp [lexI]
  | [], _, _ :: _ => by simp [lexI]
  | _ :: _, [], _ => by simp [lexI]
  | _ :: _, _ :: _, [] => by simp [lexI]
  | a :: r, b :: s, c :: t => by
    have := lexI_tr hf r s t
    rw [lexI, lexI, lexI, orI_le, orI_le, orI_le]
    have a1 := hf.anti a b
    have a2 := hf.anti b a
    have a3 := hf.anti a c
    have a4 := hf.anti c a
    have a5 := hf.anti b c
    have a6 := hf.anti c b
    have t1 := hf.tr a b c
    have t2 := hf.tr b c a
    have t3 := hf.tr c a b
    omega
theorem lexI_ord (hf : Ord3 f) : Ord3 (lexI f) := ⟨lexI_anti hf, lexI_tr hf⟩
theorem lexI_zero (hf : ∀ a b, f a b = 0 → a = b) : ∀ a b : List α, lexI f a b = 0 → a = b
  | [], [], _ => rfl
  | [], _ :: _, h => by simp [lexI] at h
  | _ :: _, [], h => by simp [lexI] at h
  | a :: r, b :: t, h => by
    rw [lexI, orI_eq] at h
    rw [hf a b h.1, lexI_zero hf r t h.2]
end
def byteCmp (a b : UInt8) : Int := if a < b then -1 else if b < a then 1 else 0
theorem byteCmp_ord : Ord3 byteCmp := by
  refine ⟨fun a b => ?_, fun a b c => ?_⟩
  · unfold byteCmp
    simp only [UInt8.lt_iff_toNat_lt]
    split <;> split <;> (try split) <;> omega
  · unfold byteCmp
    simp only [UInt8.lt_iff_toNat_lt]
    split <;> split <;> split <;> (try split) <;> (try split) <;> (try split) <;> omega
theorem byteCmp_zero (a b : UInt8) (h : byteCmp a b = 0) : a = b := by
  unfold byteCmp at h
  simp only [UInt8.lt_iff_toNat_lt] at h
  apply UInt8.toNat_inj.1
  split at h
  · omega
  · split at h <;> omega
theorem compareBytes_eq : ∀ a b : Str, compareBytes a b = lexI byteCmp a b
  | [], [] => rfl
  | [], _ :: _ => rfl
  | _ :: _, [] => rfl
  | a :: r, b :: t => by
    rw [compareBytes, lexI, compareBytes_eq r t]
    unfold byteCmp orI
    split
    · simp
    · split
      · simp
      · simp
theorem compareBytes_ord : Ord3 compareBytes := (lexI_ord byteCmp_ord).sign fun a b => by rw [compareBytes_eq]; exact ⟨Iff.rfl, Iff.rfl⟩
theorem compareBytes_zero {a b : Str} (h : compareBytes a b = 0) : a = b := lexI_zero byteCmp_zero a b (by rw [← compareBytes_eq]; exact h)
theorem compareBytes_zero_iff {a b : Str} : compareBytes a b = 0 ↔ a = b := ⟨compareBytes_zero, fun e => by subst e; exact compareBytes_ord.self a⟩
def ndig (s : Str) : Int := if areDigits s then 0 else 1
def dlen (s : Str) : Int := if areDigits s then s.length else 0
theorem cmpPart_eq (a b : Str) : cmpPart a b = orI (ndig a - ndig b) (orI (dlen a - dlen b) (compareBytes a b)) := by
  unfold cmpPart ndig dlen
  cases areDigits a <;> cases areDigits b <;> simp [orI]
theorem cmpPart_ord : Ord3 cmpPart :=
  ((ord3_sub ndig).or ((ord3_sub dlen).or compareBytes_ord)).sign fun a b => by rw [cmpPart_eq]; exact ⟨Iff.rfl, Iff.rfl⟩
theorem cmpPart_zero (a b : Str) (h : cmpPart a b = 0) : a = b := by
  rw [cmpPart_eq, orI_eq, orI_eq] at h
  exact compareBytes_zero h.2.2
theorem cmpList_eq : ∀ a b : List Str, cmpList a b = lexI cmpPart a b
  | [], [] => rfl
  | [], _ :: _ => rfl
  | _ :: _, [] => rfl
  | a :: r, b :: t => by rw [cmpList, lexI, cmpList_eq r t]
theorem cmpList_ord : Ord3 cmpList := (lexI_ord cmpPart_ord).sign fun a b => by rw [cmpList_eq]; exact ⟨Iff.rfl, Iff.rfl⟩
theorem cmpList_zero {a b : List Str} (h : cmpList a b = 0) : a = b := lexI_zero cmpPart_zero a b (by rw [← cmpList_eq]; exact h)
def preEnd (s : Str) : Int := if (verPre s).length = 0 then 1 else 0
def verNums (a b : Str) : Int := orI ((verNum a 0 : Int) - verNum b 0) (orI ((verNum a 1 : Int) - verNum b 1) ((verNum a 2 : Int) - verNum b 2))
def verKey (a b : Str) : Int := orI (verNums a b) (orI (preEnd a - preEnd b) (cmpList (verPre a) (verPre b)))
theorem verKey_ord : Ord3 verKey :=
  (((ord3_sub fun s => (verNum s 0 : Int)).or ((ord3_sub fun s => (verNum s 1 : Int)).or (ord3_sub fun s => (verNum s 2 : Int)))).or ((ord3_sub preEnd).or (cmpList_ord.comap verPre)))
theorem verCmp_eq (a b : Str) : verCmp a b = if verNums a b = 0 ∧ decide ((verPre a).length = 0) ≠ decide ((verPre b).length = 0) then ((verPre b).length : Int) - (verPre a).length else orI (verNums a b) (cmpList (verPre a) (verPre b)) := rfl
theorem verCmp_sign (a b : Str) : (verCmp a b < 0 ↔ verKey a b < 0) ∧ (verCmp a b = 0 ↔ verKey a b = 0) := by
  rw [verCmp_eq]
  unfold verKey preEnd
  generalize verNums a b = n
  generalize cmpList (verPre a) (verPre b) = c
  generalize (verPre a).length = x
  generalize (verPre b).length = y
  by_cases hn : n = 0
  · subst hn
    by_cases hx : x = 0
    · by_cases hy : y = 0
      · simp [hx, hy, orI]
      · simp [hx, hy, orI]
    · by_cases hy : y = 0
      · simp [hx, hy, orI]; omega
      · simp [hx, hy, orI]
  · simp [hn, orI]
theorem verCmp_ord : Ord3 verCmp := verKey_ord.sign verCmp_sign
theorem verCmp_zero {a b : Str} (h : verCmp a b = 0) : (∀ i, i < 3 → verNum a i = verNum b i) ∧ verPre a = verPre b := by
  have h2 := (verCmp_sign a b).2.1 h
  unfold verKey verNums at h2
  rw [orI_eq, orI_eq, orI_eq, orI_eq] at h2
  refine ⟨fun i hi => ?_, cmpList_zero h2.2.2⟩
  obtain rfl | rfl | rfl : i = 0 ∨ i = 1 ∨ i = 2 := by omega
  all_goals omega
theorem numberOf_err {s : Str} (h : (numberOf s).2 = 0) : areDigits s = true ∧ ¬ (1 < s.length ∧ s.head? = some 48) ∧ (numberOf s).1 = decVal s ∧ s.length ≤ 6 := by
  unfold numberOf at h ⊢
  by_cases h1 : areDigits s = false ∨ (1 < s.length ∧ s.head? = some 48)
  · rw [if_pos h1] at h; simp at h
  · rw [if_neg h1] at h ⊢
    by_cases h2 : 6 < s.length
    · rw [if_pos h2] at h; simp at h
    · rw [if_neg h2]
      rw [not_or] at h1
      exact ⟨by simpa using h1.1, h1.2, rfl, by omega⟩
theorem partErr_zero {s : Str} (h : partErr s = 0) : s ≠ [] ∧ s.length ≤ 8 ∧ s.all isPartByte = true ∧ (areDigits s = true → (numberOf s).2 = 0) := by
  unfold partErr at h
  by_cases h1 : s = [] ∨ 8 < s.length ∨ s.all isPartByte = false
  · rw [if_pos h1] at h; simp at h
  · rw [if_neg h1] at h
    rw [not_or, not_or] at h1
    refine ⟨h1.1, by omega, by simpa using h1.2.2, fun hd => ?_⟩
    rw [if_pos hd] at h
    exact h
end Go.Proofs.Pw
