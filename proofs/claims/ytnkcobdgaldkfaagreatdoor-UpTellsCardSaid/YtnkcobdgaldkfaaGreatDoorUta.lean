/- Ut: walks and plain laws, joined: Math VerMath ModMath VerOrd VerTxt SortMath ModLaw World Mem FileMath FileLaw IdxMath Ver Pat VerSplit. Conditions: at each theorem. -/
import Derived.Lib.SplitLaws
import Derived.Lib.Hide
import Derived.Lib.SlTrimSet
import Derived.Lib.AtoiAll
import Derived.Lib.ItoaNum
import Derived.Lib.LastIndexLaws
import Derived.Lib.Bytealg
import Derived.Lib.Join
import Derived.Lib.SlicesCompact
import Derived.Test.YtnkcobdgaldkfaaGreatDoorProg
import Derived.WalkKit
import Derived.WalkSmall
import Derived.Lib.LaidTab
import Derived.WalkLawsBesides
import Derived.WalkSpells
import Derived.Laws.StructEq
import Derived.RegionTactic
import Derived.BigRegion
import Derived.Test.YtnkcobdgaldkfaaGreatDoorShelf
import Derived.Stop.IfaceNil
import Derived.LaidEql
import Derived.Deep.QuietTactic
import Derived.BigQuiet
import Derived.Shelf.Strings.SlTrimAscii

namespace Go.Proofs.Pw
open Go.Lib hiding intOf
abbrev Str := List UInt8
abbrev Md := Str × Str
def dots : Str := [46, 46, 46]
theorem split_none {s sub : Str} (h : index s sub = -1) : split s sub = [s] := by
  unfold split
  rw [count_miss h]
  rfl
theorem split_hit {s sub : Str} {i : Nat} (hs : sub ≠ []) (h : index s sub = i) :
    split s sub = s.take i :: split (s.drop (i + sub.length)) sub := by
  unfold split
  rw [count_hit hs h, Nat.add_comm 1, splitK]
  rw [if_neg (by rw [h]; simp), h]
  simp
theorem index_no {s sub : Str} (hs : sub ≠ []) (h : ∀ c, sub.head? = some c → c ∉ s) : index s sub = -1 := by
  cases sub with
  | nil => exact absurd rfl hs
  | cons c t =>
    have hc := h c rfl
    induction s with
    | nil => rfl
    | cons b l ih =>
      simp only [List.mem_cons, not_or] at hc
      unfold index
      rw [if_neg (by simp [List.isPrefixOf, hc.1]), ih (by intro d hd; simp at hd; subst hd; exact hc.2) hc.2]
      rfl
theorem index_at {a b sub : Str} (hs : sub ≠ []) (h : ∀ c, sub.head? = some c → c ∉ a) : index (a ++ sub ++ b) sub = a.length := by
  cases sub with
  | nil => exact absurd rfl hs
  | cons c t =>
    have hc := h c rfl
    refine index_first (by simp) (by simp [occAt]) ?_
    intro j hj
    simp only [occAt, List.append_assoc]
    rw [List.drop_append_of_le_length (Nat.le_of_lt hj), List.drop_eq_getElem_cons hj]
    simp only [List.cons_append, List.isPrefixOf]
    have : a[j] ≠ c := fun e => hc (e ▸ List.getElem_mem hj)
    simp [Ne.symm this]
def lstF (n : Nat) (L : Nat → ByteArray) : List Str := (List.range n).map fun j => (L j).data.toList
theorem lstF_length (n L) : (lstF n L).length = n := by simp [lstF]
theorem lstF_get (n L) (j : Nat) (h : j < n) : (lstF n L)[j]? = some (L j).data.toList := by simp [lstF, h]
def splitL (s sep : ByteArray) (j : Nat) : ByteArray := (splitB sep 0 (countB s sep) s).getD j ByteArray.empty
theorem splitL_lstF (s sep : ByteArray) (h1 : 1 ≤ sep.size) : lstF (countB s sep + 1) (splitL s sep) = split s.data.toList sep.data.toList := by
  unfold split
  rw [← splitB_data]
  have hl := splitB_all sep h1 0 _ s rfl
  apply List.ext_getElem
  · simp [lstF_length, hl]
  · intro i h1 h2
    simp only [lstF, List.getElem_map, List.getElem_range, splitL]
    simp only [List.length_map, hl] at h2
    rw [List.getD_eq_getElem?_getD, List.getElem?_eq_getElem (by omega), Option.getD_some]
end Go.Proofs.Pw

namespace Go.Proofs.Pw
open Go.Lib hiding intOf
def isDig (c : UInt8) : Bool := decide (48 ≤ c.toNat ∧ c.toNat ≤ 57)
def areDigits (s : Str) : Bool := !s.isEmpty && s.all isDig
def decVal (s : Str) : Nat := s.foldl (fun n c => 10 * n + (c.toNat - 48)) 0
def numberOf (s : Str) : Nat × Nat :=
  if areDigits s = false ∨ (1 < s.length ∧ s.head? = some 48) then (0, 1)
  else if 6 < s.length then (0, 2) else (decVal s, 0)
def isLetter (c : UInt8) : Bool := decide ((97 ≤ c.toNat ∧ c.toNat ≤ 122) ∨ (65 ≤ c.toNat ∧ c.toNat ≤ 90))
def isPartByte (c : UInt8) : Bool := isDig c || isLetter c || c == 45
def partErr (s : Str) : Nat :=
  if s = [] ∨ 8 < s.length ∨ s.all isPartByte = false then 1
  else if areDigits s then (numberOf s).2 else 0
def worseN (a b : Nat) : Nat := if a = 1 ∨ b = 0 then a else b
theorem dropWhile_eq_nil {p : UInt8 → Bool} : ∀ l : Str, l.dropWhile p = [] ↔ ∀ c ∈ l, p c = true
  | [] => by simp
  | c :: r => by
    by_cases h : p c
    · simp [h, dropWhile_eq_nil r]
    · simp [h]
theorem trimS_nil (l cs : Str) : trimS l cs = [] ↔ ∀ c ∈ l, cs.contains c = true := by
  have key : ∀ m : Str, trimRightS m cs = [] ↔ ∀ c ∈ m, cs.contains c = true := fun m => by
    unfold trimRightS
    rw [List.reverse_eq_nil_iff, dropWhile_eq_nil]
    simp
  constructor
  · intro h
    unfold trimS trimLeftS at h
    rw [dropWhile_eq_nil] at h
    -- what trimRightS leaves has a last byte outside, unless it is empty
    have hr : trimRightS l cs = [] := by
      rcases List.eq_nil_or_concat (trimRightS l cs) with h0 | ⟨m, b, hb⟩
      · exact h0
      · exfalso
        have h1 := h b (by rw [hb]; simp)
        have h2 : (trimRightS l cs).reverse = (l.reverse.dropWhile (cs.contains ·)) := by unfold trimRightS; rw [List.reverse_reverse]
        rw [hb] at h2
        simp only [List.concat_eq_append, List.reverse_append, List.reverse_cons, List.reverse_nil, List.nil_append, List.singleton_append] at h2
        have h3 := List.head?_dropWhile_not (cs.contains ·) l.reverse
        rw [← h2] at h3
        simp only [List.head?_cons] at h3
        rw [h1] at h3
        exact absurd h3 (by decide)
    exact (key l).1 hr
  · intro h
    unfold trimS
    rw [(key l).2 h]
    rfl
theorem trimS_nil_bool (l cs : Str) (p : UInt8 → Bool) (hp : ∀ c, cs.contains c = p c) : (trimS l cs == []) = l.all p := by
  rw [Bool.eq_iff_iff, beq_iff_eq, trimS_nil, List.all_eq_true]
  constructor
  · intro h c hc; rw [← hp]; exact h c hc
  · intro h c hc; rw [hp]; exact h c hc
theorem byte_cases (P : UInt8 → Prop) (h : ∀ n, n < 256 → P (UInt8.ofNat n)) (c : UInt8) : P c := by
  have := h c.toNat c.toNat_lt
  rwa [UInt8.ofNat_toNat] at this
def digitsSet : Str := [48, 49, 50, 51, 52, 53, 54, 55, 56, 57]
theorem digitsSet_ok : ∀ c : UInt8, digitsSet.contains c = isDig c := by
  apply byte_cases
  decide +kernel
def partSet : Str := [97, 98, 99, 100, 101, 102, 103, 104, 105, 106, 107, 108, 109, 110, 111, 112, 113, 114, 115, 116, 117, 118, 119, 120, 121, 122, 65, 66, 67, 68, 69, 70, 71, 72, 73, 74, 75, 76, 77, 78, 79, 80, 81, 82, 83, 84, 85, 86, 87, 88, 89, 90, 48, 49, 50, 51, 52, 53, 54, 55, 56, 57, 45]
theorem partSet_ok : ∀ c : UInt8, partSet.contains c = isPartByte c := by
  apply byte_cases
  decide +kernel
theorem decVal_snoc (l : Str) (c : UInt8) : decVal (l ++ [c]) = 10 * decVal l + (c.toNat - 48) := by simp [decVal]
theorem dig_lt {c : UInt8} (h : isDig c = true) : c.toNat - 48 ≤ 9 ∧ 48 ≤ c.toNat := by
  unfold isDig at h
  have := of_decide_eq_true h
  omega
theorem foldl_dec (l : Str) : ∀ n : Nat, l.foldl (fun n c => 10 * n + (c.toNat - 48)) n = n * 10 ^ l.length + decVal l := by
  induction l with
  | nil => intro n; simp [decVal]
  | cons c r ih =>
    intro n
    simp only [List.foldl_cons, decVal, List.length_cons]
    rw [ih, ih (10 * 0 + _), Nat.pow_succ]
    have : (10 * n + (c.toNat - 48)) * 10 ^ r.length = n * (10 ^ r.length * 10) + (c.toNat - 48) * 10 ^ r.length := by
      rw [Nat.add_mul, Nat.mul_comm 10 n, Nat.mul_assoc, Nat.mul_comm 10]
    rw [this]
    simp only [Nat.mul_zero, Nat.zero_add]
    omega
theorem decVal_cons (c : UInt8) (r : Str) : decVal (c :: r) = (c.toNat - 48) * 10 ^ r.length + decVal r := by
  simp only [decVal, List.foldl_cons]
  rw [foldl_dec]
  simp [decVal]
theorem decVal_lt : ∀ l : Str, l.all isDig = true → decVal l < 10 ^ l.length
  | [], _ => by simp [decVal]
  | c :: r, h => by
    simp only [List.all_cons, Bool.and_eq_true] at h
    have h1 := decVal_lt r h.2
    have h2 := (dig_lt h.1).1
    rw [decVal_cons, List.length_cons, Nat.pow_succ]
    have := Nat.mul_le_mul_right (10 ^ r.length) h2
    omega
theorem parseUint10_digits : ∀ (l : Str) (acc : Nat), l.all isDig = true → parseUint10 acc l = .range ∨ parseUint10 acc l = .ok (l.foldl (fun n c => 10 * n + (c.toNat - 48)) acc)
  | [], acc, _ => .inr rfl
  | c :: r, acc, h => by
    simp only [List.all_cons, Bool.and_eq_true] at h
    have hc : 48 ≤ c.toNat ∧ c.toNat ≤ 57 := of_decide_eq_true h.1
    rw [parseUint10, if_pos hc]
    split
    · exact .inl rfl
    · split
      · exact .inl rfl
      · have := parseUint10_digits r (acc * 10 + (c.toNat - 48)) h.2
        rw [Nat.mul_comm acc 10] at this ⊢
        exact this
theorem atoiAll_digits {s : Str} (h : areDigits s = true) : atoiAll s = .range ∨ atoiAll s = .ok (decVal s) := by
  unfold areDigits at h
  simp only [Bool.and_eq_true, Bool.not_eq_true'] at h
  cases s with
  | nil => simp at h
  | cons c r =>
    have hc : 48 ≤ c.toNat ∧ c.toNat ≤ 57 := by
      have := h.2
      simp only [List.all_cons, Bool.and_eq_true] at this
      exact of_decide_eq_true this.1
    unfold atoiAll
    simp only
    rw [if_neg (by omega)]
    unfold parseMag
    rw [if_neg (by simp)]
    rcases parseUint10_digits (c :: r) 0 h.2 with e | e
    · rw [e]; exact .inl rfl
    · rw [e]
      simp only
      split
      · exact .inl rfl
      · rw [if_neg (by omega), if_neg (by omega)]
        exact .inr rfl
theorem decVal_small {s : Str} (h : areDigits s = true) (hz : ¬ (1 < s.length ∧ s.head? = some 48)) : decVal s ≤ 999999 ↔ s.length ≤ 6 := by
  unfold areDigits at h
  simp only [Bool.and_eq_true, Bool.not_eq_true'] at h
  constructor
  · intro hv
    rcases Nat.lt_or_ge 6 s.length with hl | hl
    · exfalso
      cases s with
      | nil => simp at hl
      | cons c r =>
        have hc := h.2
        simp only [List.all_cons, Bool.and_eq_true] at hc
        have hd := of_decide_eq_true hc.1
        have hne : c ≠ 48 := fun e => hz ⟨by omega, by simp [e]⟩
        have hpos : 1 ≤ c.toNat - 48 := by
          rcases Nat.eq_or_lt_of_le hd.1 with e | e
          · exact absurd (UInt8.toNat_inj.1 (by simpa using e.symm)) hne
          · omega
        rw [decVal_cons] at hv
        have h6 : 6 ≤ r.length := by simp at hl; omega
        have := Nat.pow_le_pow_right (n := 10) (by decide) h6
        have h2 := Nat.mul_le_mul_right (10 ^ r.length) hpos
        omega
    · exact hl
  · intro hl
    have h1 := decVal_lt s h.2
    have := Nat.pow_le_pow_right (n := 10) (by decide) hl
    omega
theorem atoiAll_range_long {s : Str} (h : areDigits s = true) (hr : atoiAll s = .range) : 6 < s.length := by
  rcases Nat.lt_or_ge 6 s.length with hl | hl
  · exact hl
  · exfalso
    have h' := h
    unfold areDigits at h
    simp only [Bool.and_eq_true, Bool.not_eq_true'] at h
    have hv := decVal_lt s h.2
    have hp := Nat.pow_le_pow_right (n := 10) (by decide) hl
    have key : ∀ (l : Str) (acc : Nat), l.all isDig = true → acc * 10 ^ l.length + decVal l < 10 ^ 18 → parseUint10 acc l ≠ .range := by
      intro l
      induction l with
      | nil => intro acc _ _ e; cases e
      | cons c r ih =>
        intro acc hd hb
        simp only [List.all_cons, Bool.and_eq_true] at hd
        have hc : 48 ≤ c.toNat ∧ c.toNat ≤ 57 := of_decide_eq_true hd.1
        rw [decVal_cons, List.length_cons, Nat.pow_succ] at hb
        have hb2 : (acc * 10 + (c.toNat - 48)) * 10 ^ r.length + decVal r < 10 ^ 18 := by
          rw [Nat.add_mul, Nat.mul_assoc, Nat.mul_comm 10]; omega
        have hp1 : 1 ≤ 10 ^ r.length := Nat.one_le_pow _ _ (by decide)
        have hb3 : acc * 10 + (c.toNat - 48) < 10 ^ 18 := by
          have := Nat.mul_le_mul_left (acc * 10 + (c.toNat - 48)) hp1
          omega
        rw [parseUint10, if_pos hc, if_neg (by omega), if_neg (by omega)]
        exact ih _ hd.2 hb2
    unfold atoiAll at hr
    cases s with
    | nil => simp at h
    | cons c r =>
      have hc : 48 ≤ c.toNat ∧ c.toNat ≤ 57 := by
        have := h.2
        simp only [List.all_cons, Bool.and_eq_true] at this
        exact of_decide_eq_true this.1
      simp only at hr
      rw [if_neg (by omega)] at hr
      unfold parseMag at hr
      rw [if_neg (by simp)] at hr
      have hk := key (c :: r) 0 h.2 (by rw [Nat.zero_mul, Nat.zero_add]; omega)
      rcases parseUint10_digits (c :: r) 0 h.2 with e | e
      · exact hk e
      · rw [e] at hr
        simp only at hr
        have e2 : (c :: r).foldl (fun n c => 10 * n + (c.toNat - 48)) 0 = decVal (c :: r) := rfl
        rw [e2, if_neg (by omega), if_neg (by omega)] at hr
        cases hr
theorem numberOf_le (s : Str) : (numberOf s).1 ≤ 999999 ∧ (numberOf s).2 ≤ 2 := by
  unfold numberOf
  split
  · exact ⟨by decide, by decide⟩
  · split
    · exact ⟨by decide, by decide⟩
    · rename_i h1 h2
      refine ⟨?_, Nat.zero_le _⟩
      rw [not_or] at h1
      exact (decVal_small (by simpa using h1.1) h1.2).2 (by omega)
def numErrs (l : List Str) (b : Nat) : Nat := l.foldl (fun b w => worseN b (numberOf w).2) b
def partErrs (l : List Str) (b : Nat) : Nat := l.foldl (fun b w => worseN b (partErr w)) b
theorem worseN_le {a b : Nat} (ha : a ≤ 2) (hb : b ≤ 2) : worseN a b ≤ 2 := by unfold worseN; split <;> assumption
theorem partErr_le (s : Str) : partErr s ≤ 2 := by
  unfold partErr
  split
  · decide
  · split
    · exact (numberOf_le s).2
    · decide
theorem numErrs_le (l : List Str) : ∀ b, b ≤ 2 → numErrs l b ≤ 2 := by
  induction l with
  | nil => intro b hb; exact hb
  | cons c r ih => intro b hb; exact ih _ (worseN_le hb (numberOf_le c).2)
theorem partErrs_le (l : List Str) : ∀ b, b ≤ 2 → partErrs l b ≤ 2 := by
  induction l with
  | nil => intro b hb; exact hb
  | cons c r ih => intro b hb; exact ih _ (worseN_le hb (partErr_le c))
theorem numErrs_snoc (l : List Str) (w : Str) (b : Nat) : numErrs (l ++ [w]) b = worseN (numErrs l b) (numberOf w).2 := by simp [numErrs]
theorem partErrs_snoc (l : List Str) (w : Str) (b : Nat) : partErrs (l ++ [w]) b = worseN (partErrs l b) (partErr w) := by simp [partErrs]
theorem lstF_take_succ (n : Nat) (L : Nat → ByteArray) (k : Nat) (h : k < n) : (lstF n L).take (k + 1) = (lstF n L).take k ++ [(L k).data.toList] := by
  rw [List.take_add_one, lstF_get n L k h]
  rfl
theorem lstF_take_all (n : Nat) (L : Nat → ByteArray) : (lstF n L).take n = lstF n L := by
  conv => lhs; rw [← lstF_length n L]
  rw [lstF_length]
  exact List.take_of_length_le (by rw [lstF_length]; exact Nat.le_refl _)
def verWords (s : Str) : List Str := split (cut (trimPrefix s [118]) [45]).1 [46]
def verPres (s : Str) : List Str := if (cut (trimPrefix s [118]) [45]).2.2 then split (cut (trimPrefix s [118]) [45]).2.1 [46] else []
def verErrs (s : Str) : Nat :=
  let e := partErrs (verPres s) (numErrs (verWords s) 0)
  if 5 < (verPres s).length then worseN e 2 else e
def verErr (s : Str) : Nat := if hasPrefix s [118] = false ∨ (verWords s).length ≠ 3 then 1 else verErrs s
def verNum (s : Str) (i : Nat) : Nat := if verErr s = 0 then (numberOf ((verWords s).getD i [])).1 else 0
def verPre (s : Str) : List Str := if verErr s = 0 then verPres s else []
theorem verErrs_le (s : Str) : verErrs s ≤ 2 := by
  unfold verErrs
  have h := partErrs_le (verPres s) _ (numErrs_le (verWords s) 0 (by decide))
  split
  · exact worseN_le h (by decide)
  · exact h
theorem verErr_le (s : Str) : verErr s ≤ 2 := by
  unfold verErr
  split
  · decide
  · exact verErrs_le s
end Go.Proofs.Pw

namespace Go.Proofs.Pw
open Go.Lib hiding intOf
theorem isDig_ofNat {n : Nat} (h : n < 10) : isDig (UInt8.ofNat (48 + n)) = true ∧ (UInt8.ofNat (48 + n)).toNat = 48 + n := by
  have : (UInt8.ofNat (48 + n)).toNat = 48 + n := by simp; omega
  exact ⟨by unfold isDig; rw [this]; simp; omega, this⟩
theorem decDigits_decVal : ∀ (k : Nat) (s : Str), s.length ≤ k → areDigits s = true → ¬ (1 < s.length ∧ s.head? = some 48) → decDigits (decVal s) = s
  | 0, s, hk, h, _ => by cases s with
    | nil => simp [areDigits] at h
    | cons c r => simp at hk
  | k + 1, s, hk, h, hz => by
    rcases List.eq_nil_or_concat s with rfl | ⟨l, c, rfl⟩
    · simp [areDigits] at h
    · rw [List.concat_eq_append] at *
      have hall : l.all isDig = true ∧ isDig c = true := by
        unfold areDigits at h
        simp only [List.all_append, Bool.and_eq_true, List.all_cons, List.all_nil, Bool.and_true] at h
        exact ⟨h.2.1, h.2.2⟩
      have hc := dig_lt hall.2
      have hcv : UInt8.ofNat (48 + (c.toNat - 48)) = c := by
        rw [show 48 + (c.toNat - 48) = c.toNat by omega, UInt8.ofNat_toNat]
      rw [decVal_snoc]
      cases l with
      | nil =>
        rw [show decVal [] = 0 from rfl, decDigits, dif_pos (by omega)]
        rw [Nat.mul_zero, Nat.zero_add, hcv]
        rfl
      | cons b r =>
        have hb : b ≠ 48 := fun e => hz ⟨by simp, by simp [e]⟩
        have hl : areDigits (b :: r) = true := by unfold areDigits; rw [hall.1]; rfl
        have ih := decDigits_decVal k (b :: r) (by simp at hk ⊢; omega) hl (by rintro ⟨_, h2⟩; simp at h2; exact hb h2)
        have hpos : 1 ≤ decVal (b :: r) := by
          rw [decVal_cons]
          have h1 := hall.1
          simp only [List.all_cons, Bool.and_eq_true] at h1
          have := dig_lt h1.1
          have hne : b.toNat ≠ 48 := fun e => hb (UInt8.toNat_inj.1 (by simpa using e))
          have hp : 1 ≤ 10 ^ r.length := Nat.one_le_pow _ _ (by decide)
          have := Nat.mul_le_mul (show 1 ≤ b.toNat - 48 by omega) hp
          omega
        rw [decDigits, dif_neg (by omega)]
        rw [show (10 * decVal (b :: r) + (c.toNat - 48)) / 10 = decVal (b :: r) by omega, show (10 * decVal (b :: r) + (c.toNat - 48)) % 10 = c.toNat - 48 by omega, ih, hcv]
theorem decDigits_ne_nil (u : Nat) : decDigits u ≠ [] := by
  rw [decDigits]; split
  · simp
  · simp
theorem decDigits_head (u : Nat) : ¬ (1 < (decDigits u).length ∧ (decDigits u).head? = some 48) := by
  induction u using Nat.strongRecOn with
  | _ u ih =>
    rw [decDigits]
    split
    · simp
    · rename_i h
      rintro ⟨_, h2⟩
      rw [List.head?_append] at h2
      by_cases h10 : u / 10 < 10
      · rw [decDigits, dif_pos h10] at h2
        simp only [List.head?_cons, Option.some_or, Option.some.injEq] at h2
        have := congrArg UInt8.toNat h2
        rw [(isDig_ofNat h10).2] at this
        have h48 : (48 : UInt8).toNat = 48 := rfl
        omega
      · apply ih (u / 10) (by omega)
        constructor
        · rw [decDigits_length, nDigits_big h10]
          have := nDigits_pos (u / 10 / 10)
          omega
        · cases hd : (decDigits (u / 10)).head? with
          | none => rw [List.head?_eq_none_iff] at hd; exact absurd hd (decDigits_ne_nil _)
          | some b => rw [hd] at h2; simpa using h2
theorem itoa_decVal {s : Str} (h : areDigits s = true) : itoa ((decVal s : Nat) : Int) = s ↔ ¬ (1 < s.length ∧ s.head? = some 48) := by
  have e : itoa ((decVal s : Nat) : Int) = decDigits (decVal s) := by unfold itoa; rw [if_neg (by omega)]; simp
  rw [e]
  constructor
  · intro e2 hz
    have := decDigits_head (decVal s)
    rw [e2] at this
    exact this hz
  · exact decDigits_decVal s.length s (Nat.le_refl _) h
def isElemByte (c : UInt8) : Bool := decide (97 ≤ c.toNat ∧ c.toNat ≤ 122) || isDig c || c == 46 || c == 45 || c == 95
def elemSet : Str := [97, 98, 99, 100, 101, 102, 103, 104, 105, 106, 107, 108, 109, 110, 111, 112, 113, 114, 115, 116, 117, 118, 119, 120, 121, 122, 48, 49, 50, 51, 52, 53, 54, 55, 56, 57, 46, 45, 95]
theorem elemSet_ok : ∀ c : UInt8, elemSet.contains c = isElemByte c := by
  apply byte_cases
  decide +kernel
theorem dotSet_ok : ∀ c : UInt8, ([46] : Str).contains c = (c == 46) := by
  apply byte_cases
  decide +kernel
def elemOk (s : Str) : Bool := !s.isEmpty && s.all isElemByte && !s.all (· == 46) && !contains s dots
def sufD (s : Str) : Str := trimPrefix s [118]
def looksSuf (s : Str) : Bool := hasPrefix s [118] && areDigits (sufD s)
def isSuf (s : Str) : Bool := looksSuf s && decide ((numberOf (sufD s)).2 = 0 ∧ 2 ≤ (numberOf (sufD s)).1)
def sufWell (s : Str) : Bool := !looksSuf s || isSuf s
def sufNum (s : Str) : Nat := (numberOf (sufD s)).1
def pathErr (s : Str) : Nat :=
  let l := split s [47]
  if l.any (fun w => !elemOk w) then 1
  else if 5 < l.length ∨ l.any (fun w => decide (10 < w.length)) then 2
  else if 1 < l.length ∧ sufWell (l.getLast?.getD []) = false then 4 else 0
def modSplit (s : Str) : Str × Nat :=
  if pathErr s ≠ 0 then ([], 0)
  else
    let l := lastIndex s [47]
    if l < 0 then (s, 0)
    else if isSuf (s.drop (l.toNat + 1)) then (s.take l.toNat, sufNum (s.drop (l.toNat + 1))) else (s, 0)
def modErr (p v : Str) : Nat :=
  if pathErr p ≠ 0 then pathErr p
  else if verErr v ≠ 0 then verErr v
  else if ((modSplit p).2 = 0 ∧ 1 < verNum v 0) ∨ (0 < (modSplit p).2 ∧ verNum v 0 ≠ (modSplit p).2) then 4 else 0
theorem pathErr_le (s : Str) : pathErr s ≤ 4 := by
  unfold pathErr
  simp only
  split
  · decide
  · split
    · decide
    · split <;> decide
end Go.Proofs.Pw

namespace Go.Proofs.Pw
open Go.Lib hiding intOf
def orI (a b : Int) : Int := if a = 0 then b else a
def cmpPart (a b : Str) : Int :=
  if areDigits a && areDigits b then orI ((a.length : Int) - b.length) (compareBytes a b)
  else if areDigits a then -1 else if areDigits b then 1 else compareBytes a b
def cmpList : List Str → List Str → Int
  | [], [] => 0
  | [], _ :: _ => -1
  | _ :: _, [] => 1
  | a :: r, b :: t => orI (cmpPart a b) (cmpList r t)
def verCmp (a b : Str) : Int :=
  let n := orI ((verNum a 0 : Int) - verNum b 0) (orI ((verNum a 1 : Int) - verNum b 1) ((verNum a 2 : Int) - verNum b 2))
  if n = 0 ∧ decide ((verPre a).length = 0) ≠ decide ((verPre b).length = 0) then ((verPre b).length : Int) - (verPre a).length
  else orI n (cmpList (verPre a) (verPre b))
def verLess (a b : Str) : Bool := decide (verErr a = 0 ∧ verErr b = 0 ∧ verCmp a b < 0)
structure Ord3 {α : Type} (f : α → α → Int) : Prop where
  anti : ∀ a b, f a b < 0 ↔ 0 < f b a
  tr : ∀ a b c, f a b ≤ 0 → f b c ≤ 0 → f a c ≤ 0
section
variable {α β : Type} {f g : α → α → Int}
theorem Ord3.self (h : Ord3 f) (a : α) : f a a = 0 := by have := h.anti a a; omega
theorem Ord3.zero (h : Ord3 f) {a b : α} (e : f a b = 0) : f b a = 0 := by have := h.anti a b; have := h.anti b a; omega
theorem orI_le {a b : Int} : orI a b ≤ 0 ↔ a < 0 ∨ (a = 0 ∧ b ≤ 0) := by unfold orI; split <;> omega
theorem orI_lt {a b : Int} : orI a b < 0 ↔ a < 0 ∨ (a = 0 ∧ b < 0) := by unfold orI; split <;> omega
theorem orI_gt {a b : Int} : 0 < orI a b ↔ 0 < a ∨ (a = 0 ∧ 0 < b) := by unfold orI; split <;> omega
theorem orI_eq {a b : Int} : orI a b = 0 ↔ a = 0 ∧ b = 0 := by unfold orI; split <;> omega
theorem Ord3.or (hf : Ord3 f) (hg : Ord3 g) : Ord3 fun a b => orI (f a b) (g a b) := by
  refine ⟨fun a b => ?_, fun a b c h1 h2 => ?_⟩
  · have := hf.anti a b
    have := hf.anti b a
    have := hg.anti a b
    rw [orI_lt, orI_gt]
    omega
  · rw [orI_le] at *
    have a1 := hf.anti a b
    have a2 := hf.anti b a
    have a3 := hf.anti a c
    have a4 := hf.anti c a
    have a5 := hf.anti b c
    have a6 := hf.anti c b
    have t1 := hf.tr a b c
    have t2 := hf.tr b c a
    have t3 := hf.tr c a b
    have t4 := hg.tr a b c
    omega
theorem Ord3.comap (hf : Ord3 f) (k : β → α) : Ord3 fun a b => f (k a) (k b) := ⟨fun _ _ => hf.anti _ _, fun _ _ _ => hf.tr _ _ _⟩
theorem ord3_sub (k : α → Int) : Ord3 fun a b => k a - k b := ⟨fun a b => by omega, fun a b c => by omega⟩
theorem Ord3.sign (hg : Ord3 g) (h : ∀ a b, (f a b < 0 ↔ g a b < 0) ∧ (f a b = 0 ↔ g a b = 0)) : Ord3 f := by
  refine ⟨fun a b => ?_, fun a b c h1 h2 => ?_⟩
  · have := hg.anti a b
    have := h a b
    have := h b a
    omega
  · have := hg.tr a b c
    have := h a b
    have := h b c
    have := h a c
    omega
def lexI (f : α → α → Int) : List α → List α → Int
  | [], [] => 0
  | [], _ :: _ => -1
  | _ :: _, [] => 1
  | a :: r, b :: t => orI (f a b) (lexI f r t)
theorem lexI_anti (hf : Ord3 f) : ∀ a b : List α, lexI f a b < 0 ↔ 0 < lexI f b a
  | [], [] => by simp [lexI]
  | [], _ :: _ => by simp [lexI]
  | _ :: _, [] => by simp [lexI]
  | a :: r, b :: t => by
    have := lexI_anti hf r t
    have := hf.anti a b
    have := hf.anti b a
    rw [lexI, lexI, orI_lt, orI_gt]
    omega
theorem lexI_tr (hf : Ord3 f) : ∀ a b c : List α, lexI f a b ≤ 0 → lexI f b c ≤ 0 → lexI f a c ≤ 0
  | [], _, [] => by simp [lexI]
  | [], _, _ :: _ => by simp [lexI]
  | _ :: _, [], _ => by simp [lexI]
  | _ :: _, _ :: _, [] => by simp [lexI]
  | a :: r, b :: s, c :: t => by
    have := lexI_tr hf r s t
    rw [lexI, lexI, lexI, orI_le, orI_le, orI_le]
    have a1 := hf.anti a b
    have a2 := hf.anti b a
    have a3 := hf.anti a c
    have a4 := hf.anti c a
    have a5 := hf.anti b c
    have a6 := hf.anti c b
    have t1 := hf.tr a b c
    have t2 := hf.tr b c a
    have t3 := hf.tr c a b
    omega
theorem lexI_ord (hf : Ord3 f) : Ord3 (lexI f) := ⟨lexI_anti hf, lexI_tr hf⟩
theorem lexI_zero (hf : ∀ a b, f a b = 0 → a = b) : ∀ a b : List α, lexI f a b = 0 → a = b
  | [], [], _ => rfl
  | [], _ :: _, h => by simp [lexI] at h
  | _ :: _, [], h => by simp [lexI] at h
  | a :: r, b :: t, h => by
    rw [lexI, orI_eq] at h
    rw [hf a b h.1, lexI_zero hf r t h.2]
end
def byteCmp (a b : UInt8) : Int := if a < b then -1 else if b < a then 1 else 0
theorem byteCmp_ord : Ord3 byteCmp := by
  refine ⟨fun a b => ?_, fun a b c => ?_⟩
  · unfold byteCmp
    simp only [UInt8.lt_iff_toNat_lt]
    split <;> split <;> (try split) <;> omega
  · unfold byteCmp
    simp only [UInt8.lt_iff_toNat_lt]
    split <;> split <;> split <;> (try split) <;> (try split) <;> (try split) <;> omega
theorem byteCmp_zero (a b : UInt8) (h : byteCmp a b = 0) : a = b := by
  unfold byteCmp at h
  simp only [UInt8.lt_iff_toNat_lt] at h
  apply UInt8.toNat_inj.1
  split at h
  · omega
  · split at h <;> omega
theorem compareBytes_eq : ∀ a b : Str, compareBytes a b = lexI byteCmp a b
  | [], [] => rfl
  | [], _ :: _ => rfl
  | _ :: _, [] => rfl
  | a :: r, b :: t => by
    rw [compareBytes, lexI, compareBytes_eq r t]
    unfold byteCmp orI
    split
    · simp
    · split
      · simp
      · simp
theorem compareBytes_ord : Ord3 compareBytes := (lexI_ord byteCmp_ord).sign fun a b => by rw [compareBytes_eq]; exact ⟨Iff.rfl, Iff.rfl⟩
theorem compareBytes_zero {a b : Str} (h : compareBytes a b = 0) : a = b := lexI_zero byteCmp_zero a b (by rw [← compareBytes_eq]; exact h)
theorem compareBytes_zero_iff {a b : Str} : compareBytes a b = 0 ↔ a = b := ⟨compareBytes_zero, fun e => by subst e; exact compareBytes_ord.self a⟩
def ndig (s : Str) : Int := if areDigits s then 0 else 1
def dlen (s : Str) : Int := if areDigits s then s.length else 0
theorem cmpPart_eq (a b : Str) : cmpPart a b = orI (ndig a - ndig b) (orI (dlen a - dlen b) (compareBytes a b)) := by
  unfold cmpPart ndig dlen
  cases areDigits a <;> cases areDigits b <;> simp [orI]
theorem cmpPart_ord : Ord3 cmpPart :=
  ((ord3_sub ndig).or ((ord3_sub dlen).or compareBytes_ord)).sign fun a b => by rw [cmpPart_eq]; exact ⟨Iff.rfl, Iff.rfl⟩
theorem cmpPart_zero (a b : Str) (h : cmpPart a b = 0) : a = b := by
  rw [cmpPart_eq, orI_eq, orI_eq] at h
  exact compareBytes_zero h.2.2
theorem cmpList_eq : ∀ a b : List Str, cmpList a b = lexI cmpPart a b
  | [], [] => rfl
  | [], _ :: _ => rfl
  | _ :: _, [] => rfl
  | a :: r, b :: t => by rw [cmpList, lexI, cmpList_eq r t]
theorem cmpList_ord : Ord3 cmpList := (lexI_ord cmpPart_ord).sign fun a b => by rw [cmpList_eq]; exact ⟨Iff.rfl, Iff.rfl⟩
theorem cmpList_zero {a b : List Str} (h : cmpList a b = 0) : a = b := lexI_zero cmpPart_zero a b (by rw [← cmpList_eq]; exact h)
def preEnd (s : Str) : Int := if (verPre s).length = 0 then 1 else 0
def verNums (a b : Str) : Int := orI ((verNum a 0 : Int) - verNum b 0) (orI ((verNum a 1 : Int) - verNum b 1) ((verNum a 2 : Int) - verNum b 2))
def verKey (a b : Str) : Int := orI (verNums a b) (orI (preEnd a - preEnd b) (cmpList (verPre a) (verPre b)))
theorem verKey_ord : Ord3 verKey :=
  (((ord3_sub fun s => (verNum s 0 : Int)).or ((ord3_sub fun s => (verNum s 1 : Int)).or (ord3_sub fun s => (verNum s 2 : Int)))).or ((ord3_sub preEnd).or (cmpList_ord.comap verPre)))
theorem verCmp_eq (a b : Str) : verCmp a b = if verNums a b = 0 ∧ decide ((verPre a).length = 0) ≠ decide ((verPre b).length = 0) then ((verPre b).length : Int) - (verPre a).length else orI (verNums a b) (cmpList (verPre a) (verPre b)) := rfl
theorem verCmp_sign (a b : Str) : (verCmp a b < 0 ↔ verKey a b < 0) ∧ (verCmp a b = 0 ↔ verKey a b = 0) := by
  rw [verCmp_eq]
  unfold verKey preEnd
  generalize verNums a b = n
  generalize cmpList (verPre a) (verPre b) = c
  generalize (verPre a).length = x
  generalize (verPre b).length = y
  by_cases hn : n = 0
  · subst hn
    by_cases hx : x = 0
    · by_cases hy : y = 0
      · simp [hx, hy, orI]
      · simp [hx, hy, orI]
    · by_cases hy : y = 0
      · simp [hx, hy, orI]; omega
      · simp [hx, hy, orI]
  · simp [hn, orI]
theorem verCmp_ord : Ord3 verCmp := verKey_ord.sign verCmp_sign
theorem verCmp_zero {a b : Str} (h : verCmp a b = 0) : (∀ i, i < 3 → verNum a i = verNum b i) ∧ verPre a = verPre b := by
  have h2 := (verCmp_sign a b).2.1 h
  unfold verKey verNums at h2
  rw [orI_eq, orI_eq, orI_eq, orI_eq] at h2
  refine ⟨fun i hi => ?_, cmpList_zero h2.2.2⟩
  obtain rfl | rfl | rfl : i = 0 ∨ i = 1 ∨ i = 2 := by omega
  all_goals omega
def sgn (n : Int) : Int := if n < 0 then -1 else if 0 < n then 1 else 0
theorem sgn_lt {n : Int} : sgn n < 0 ↔ n < 0 := by unfold sgn; split <;> (try split) <;> omega
theorem sgn_neg {n : Int} (h : n < 0) : sgn n = -1 := if_pos h
theorem sgn_pos {n : Int} (h : 0 < n) : sgn n = 1 := by unfold sgn; rw [if_neg (by omega), if_pos h]
theorem sgn_zero {n : Int} : sgn n = 0 ↔ n = 0 := by unfold sgn; split <;> (try split) <;> omega
def ordPart (a b : Str) : Int :=
  if areDigits a && areDigits b then sgn (((numberOf a).1 : Int) - (numberOf b).1)
  else if areDigits a || areDigits b then (if areDigits a then -1 else 1) else sgn (compareBytes a b)
theorem decVal_same : ∀ a b : Str, a.length = b.length → a.all isDig = true → b.all isDig = true → (decVal a < decVal b ↔ compareBytes a b < 0) ∧ (decVal a = decVal b ↔ compareBytes a b = 0)
  | [], [], _, _, _ => by simp [compareBytes]
  | [], _ :: _, h, _, _ => by simp at h
  | _ :: _, [], h, _, _ => by simp at h
  | a :: r, b :: t, h, h1, h2 => by
    simp only [List.all_cons, Bool.and_eq_true] at h1 h2
    have hl : r.length = t.length := by simpa using h
    have ih := decVal_same r t hl h1.2 h2.2
    have l1 := decVal_lt r h1.2
    have l2 := decVal_lt t h2.2
    have d1 := dig_lt h1.1
    have d2 := dig_lt h2.1
    rw [decVal_cons, decVal_cons, compareBytes]
    simp only [UInt8.lt_iff_toNat_lt]
    rw [hl] at l1 ⊢
    generalize 10 ^ t.length = p at *
    by_cases hab : a.toNat < b.toNat
    · rw [if_pos hab]
      have : (a.toNat - 48 + 1) * p ≤ (b.toNat - 48) * p := Nat.mul_le_mul_right p (by omega)
      rw [Nat.add_mul, Nat.one_mul] at this
      omega
    · rw [if_neg hab]
      by_cases hba : b.toNat < a.toNat
      · rw [if_pos hba]
        have : (b.toNat - 48 + 1) * p ≤ (a.toNat - 48) * p := Nat.mul_le_mul_right p (by omega)
        rw [Nat.add_mul, Nat.one_mul] at this
        omega
      · rw [if_neg hba]
        have e : a.toNat = b.toNat := by omega
        rw [e]
        omega
theorem decVal_ge {c : UInt8} {r : Str} (h : (c :: r).all isDig = true) (hc : c ≠ 48) : 10 ^ r.length ≤ decVal (c :: r) := by
  simp only [List.all_cons, Bool.and_eq_true] at h
  have d1 := dig_lt h.1
  rw [decVal_cons]
  have : c.toNat ≠ 48 := fun e => hc (UInt8.toNat_inj.1 (by simpa using e))
  have := Nat.mul_le_mul_right (10 ^ r.length) (show 1 ≤ c.toNat - 48 by omega)
  omega
theorem decVal_short {a b : Str} (ha : a.all isDig = true) (hb : b.all isDig = true) (hz : ¬ (1 < b.length ∧ b.head? = some 48)) (h0 : a ≠ []) (h : a.length < b.length) : decVal a < decVal b := by
  cases b with
  | nil => simp at h
  | cons c r =>
    have h1 : 0 < a.length := List.length_pos_iff.2 h0
    have hc : c ≠ 48 := fun e => hz ⟨by omega, by simp [e]⟩
    have g := decVal_ge hb hc
    have l := decVal_lt a ha
    have := Nat.pow_le_pow_right (n := 10) (by decide) (show a.length ≤ r.length by simp at h; omega)
    omega
theorem numberOf_err {s : Str} (h : (numberOf s).2 = 0) : areDigits s = true ∧ ¬ (1 < s.length ∧ s.head? = some 48) ∧ (numberOf s).1 = decVal s ∧ s.length ≤ 6 := by
  unfold numberOf at h ⊢
  by_cases h1 : areDigits s = false ∨ (1 < s.length ∧ s.head? = some 48)
  · rw [if_pos h1] at h; simp at h
  · rw [if_neg h1] at h ⊢
    by_cases h2 : 6 < s.length
    · rw [if_pos h2] at h; simp at h
    · rw [if_neg h2]
      rw [not_or] at h1
      exact ⟨by simpa using h1.1, h1.2, rfl, by omega⟩
theorem partErr_zero {s : Str} (h : partErr s = 0) : s ≠ [] ∧ s.length ≤ 8 ∧ s.all isPartByte = true ∧ (areDigits s = true → (numberOf s).2 = 0) := by
  unfold partErr at h
  by_cases h1 : s = [] ∨ 8 < s.length ∨ s.all isPartByte = false
  · rw [if_pos h1] at h; simp at h
  · rw [if_neg h1] at h
    rw [not_or, not_or] at h1
    refine ⟨h1.1, by omega, by simpa using h1.2.2, fun hd => ?_⟩
    rw [if_pos hd] at h
    exact h
theorem ordPart_eq {a b : Str} (ha : partErr a = 0) (hb : partErr b = 0) : ordPart a b = sgn (cmpPart a b) := by
  unfold ordPart cmpPart
  cases hx : areDigits a <;> cases hy : areDigits b
  · simp
  · simp [sgn]
  · simp [sgn]
  · obtain ⟨a1, a2, a3, a4⟩ := numberOf_err ((partErr_zero ha).2.2.2 hx)
    obtain ⟨b1, b2, b3, b4⟩ := numberOf_err ((partErr_zero hb).2.2.2 hy)
    simp only [Bool.and_self, ↓reduceIte]
    rw [a3, b3]
    have g : ∀ s : Str, areDigits s = true → s ≠ [] ∧ s.all isDig = true := fun s h => by
      unfold areDigits at h
      simp only [Bool.and_eq_true, Bool.not_eq_true', List.isEmpty_eq_false_iff] at h
      exact h
    have ga := g a hx
    have gb := g b hy
    have hor : ∀ x y : Int, x ≠ 0 → orI x y = x := fun x y h => if_neg h
    by_cases h1 : a.length < b.length
    · have := decVal_short ga.2 gb.2 b2 ga.1 h1
      rw [hor _ _ (by omega), sgn_neg (by omega), sgn_neg (by omega)]
    · by_cases h2 : b.length < a.length
      · have := decVal_short gb.2 ga.2 a2 gb.1 h2
        rw [hor _ _ (by omega), sgn_pos (by omega), sgn_pos (by omega)]
      · have he : a.length = b.length := by omega
        have := decVal_same a b he ga.2 gb.2
        rw [he, Int.sub_self]
        show sgn _ = sgn (orI 0 _)
        unfold orI
        rw [if_pos rfl]
        unfold sgn
        generalize compareBytes a b = c at *
        split <;> split <;> (try split) <;> (try split) <;> omega
end Go.Proofs.Pw

namespace Go.Proofs.Pw
open Go.Lib hiding intOf
def cutAt (c : UInt8) : Str → Str → List Str
  | acc, [] => [acc]
  | acc, b :: l => if b = c then acc :: cutAt c [] l else cutAt c (acc ++ [b]) l
theorem cutAt_no (c : UInt8) : ∀ (l acc : Str), c ∉ l → cutAt c acc l = [acc ++ l]
  | [], acc, _ => by simp [cutAt]
  | b :: l, acc, h => by
    simp only [List.mem_cons, not_or] at h
    rw [cutAt, if_neg (fun e => h.1 e.symm), cutAt_no c l _ h.2]
    simp
theorem cutAt_hit (c : UInt8) : ∀ (a acc r : Str), c ∉ a → cutAt c acc (a ++ c :: r) = (acc ++ a) :: cutAt c [] r
  | [], acc, r, _ => by simp [cutAt]
  | b :: l, acc, r, h => by
    simp only [List.mem_cons, not_or] at h
    rw [List.cons_append, cutAt, if_neg (fun e => h.1 e.symm), cutAt_hit c l _ r h.2]
    simp
theorem mem_at {c : UInt8} {s : Str} (h : c ∈ s) : ∃ a b, s = a ++ c :: b ∧ c ∉ a := by
  induction s with
  | nil => cases h
  | cons x l ih =>
    by_cases e : c = x
    · subst e
      exact ⟨[], l, rfl, by simp⟩
    · have hm : c ∈ l := (List.mem_cons.1 h).resolve_left e
      obtain ⟨a, b, rfl, hn⟩ := ih hm
      exact ⟨x :: a, b, rfl, by simp [e, hn]⟩
theorem index_byte_at {c : UInt8} {a b : Str} (h : c ∉ a) : index (a ++ c :: b) [c] = a.length := by
  have := index_at (a := a) (b := b) (sub := [c]) (by simp) (by intro d hd; simp at hd; subst hd; exact h)
  simpa using this
theorem index_byte_no {c : UInt8} {s : Str} (h : c ∉ s) : index s [c] = -1 := index_no (by simp) (by intro d hd; simp at hd; subst hd; exact h)
theorem split_cutAt (c : UInt8) : ∀ (n : Nat) (s : Str), s.length ≤ n → split s [c] = cutAt c [] s
  | n, s, hn => by
    by_cases h : c ∈ s
    · obtain ⟨a, b, rfl, ha⟩ := mem_at h
      rw [cutAt_hit c a [] b ha, split_hit (by simp) (index_byte_at ha)]
      have e1 : (a ++ c :: b).take a.length = a := List.take_left
      have e2 : (a ++ c :: b).drop (a.length + [c].length) = b := by
        rw [show a.length + [c].length = (a ++ [c]).length by simp, show a ++ c :: b = (a ++ [c]) ++ b by simp, List.drop_left]
      rw [e1, e2]
      cases n with
      | zero => simp at hn
      | succ n => rw [split_cutAt c n b (by simp at hn; omega)]; rfl
    · rw [split_none (index_byte_no h), cutAt_no c s [] h]
      rfl
theorem split_eq (c : UInt8) (s : Str) : split s [c] = cutAt c [] s := split_cutAt c s.length s (Nat.le_refl _)
theorem cut_at {c : UInt8} {a b : Str} (h : c ∉ a) : cut (a ++ c :: b) [c] = (a, b, true) := by
  unfold cut
  rw [index_byte_at h, if_pos (by omega)]
  have e1 : (a ++ c :: b).take (a.length : Int).toNat = a := List.take_left
  have e2 : (a ++ c :: b).drop ((a.length : Int).toNat + [c].length) = b := by
    rw [show (a.length : Int).toNat + [c].length = (a ++ [c]).length by simp, show a ++ c :: b = (a ++ [c]) ++ b by simp, List.drop_left]
  rw [e1, e2]
theorem cut_no {c : UInt8} {s : Str} (h : c ∉ s) : cut s [c] = (s, [], false) := by
  unfold cut
  rw [index_byte_no h, if_neg (by omega)]
theorem join_two (x y : Str) (r : List Str) (sep : Str) : join (x :: y :: r) sep = x ++ sep ++ join (y :: r) sep := by
  rw [join_cons, join_cons]
  simp [joinTail, List.append_assoc]
theorem cutAt_ne (c : UInt8) : ∀ (l acc : Str), cutAt c acc l ≠ []
  | [], acc => by simp [cutAt]
  | b :: l, acc => by
    rw [cutAt]
    split
    · simp
    · exact cutAt_ne c l _
theorem join_cutAt (c : UInt8) : ∀ (l acc : Str), join (cutAt c acc l) [c] = acc ++ l
  | [], acc => by simp [cutAt, join_one]
  | b :: l, acc => by
    rw [cutAt]
    split
    · rename_i e
      subst e
      have hn := cutAt_ne b l []
      cases hc : cutAt b [] l with
      | nil => exact absurd hc hn
      | cons y r =>
        rw [join_two, ← hc, join_cutAt b l []]
        simp
    · rw [join_cutAt c l]
      simp
theorem join_split (c : UInt8) (s : Str) : join (split s [c]) [c] = s := by rw [split_eq, join_cutAt]; rfl
theorem split_ne (c : UInt8) (s : Str) : split s [c] ≠ [] := by rw [split_eq]; exact cutAt_ne c s []
def verFmtS (a b c : Str) (pre : List Str) : Str := 118 :: ((a ++ 46 :: (b ++ 46 :: c)) ++ (if pre = [] then [] else 45 :: join pre [46]))
def verFmt (a b c : Int) (pre : List Str) : Str := verFmtS (itoa a) (itoa b) (itoa c) pre
theorem worseN_zero {a b : Nat} : worseN a b = 0 ↔ a = 0 ∧ b = 0 := by
  unfold worseN
  split <;> omega
theorem numErrs_zero : ∀ (l : List Str) (b : Nat), numErrs l b = 0 ↔ b = 0 ∧ ∀ w ∈ l, (numberOf w).2 = 0
  | [], b => by simp [numErrs]
  | w :: r, b => by
    have := numErrs_zero r (worseN b (numberOf w).2)
    show numErrs r (worseN b (numberOf w).2) = 0 ↔ _
    rw [this, worseN_zero]
    simp only [List.mem_cons, forall_eq_or_imp, and_assoc]
theorem partErrs_zero : ∀ (l : List Str) (b : Nat), partErrs l b = 0 ↔ b = 0 ∧ ∀ w ∈ l, partErr w = 0
  | [], b => by simp [partErrs]
  | w :: r, b => by
    have := partErrs_zero r (worseN b (partErr w))
    show partErrs r (worseN b (partErr w)) = 0 ↔ _
    rw [this, worseN_zero]
    simp only [List.mem_cons, forall_eq_or_imp, and_assoc]
theorem verErrs_zero (s : Str) : verErrs s = 0 ↔ (∀ w ∈ verWords s, (numberOf w).2 = 0) ∧ (∀ w ∈ verPres s, partErr w = 0) ∧ (verPres s).length ≤ 5 := by
  unfold verErrs
  simp only
  by_cases h : 5 < (verPres s).length
  · rw [if_pos h, worseN_zero]
    constructor
    · rintro ⟨_, h2⟩; omega
    · rintro ⟨_, _, h2⟩; omega
  · rw [if_neg h, partErrs_zero, numErrs_zero]
    constructor
    · rintro ⟨⟨_, h1⟩, h2⟩; exact ⟨h1, h2, by omega⟩
    · rintro ⟨h1, h2, _⟩; exact ⟨⟨rfl, h1⟩, h2⟩
theorem verErr_zero (s : Str) : verErr s = 0 ↔ hasPrefix s [118] = true ∧ (verWords s).length = 3 ∧ (∀ w ∈ verWords s, (numberOf w).2 = 0) ∧ (∀ w ∈ verPres s, partErr w = 0) ∧ (verPres s).length ≤ 5 := by
  unfold verErr
  by_cases h : hasPrefix s [118] = false ∨ (verWords s).length ≠ 3
  · rw [if_pos h]
    constructor
    · intro h2; omega
    · rintro ⟨h1, h2, _⟩
      rcases h with h | h
      · rw [h1] at h; cases h
      · exact absurd h2 h
  · rw [if_neg h, verErrs_zero]
    rw [not_or] at h
    have h1 : hasPrefix s [118] = true := by simpa using h.1
    have h2 : (verWords s).length = 3 := Decidable.of_not_not h.2
    simp [h1, h2]
theorem numberOf_itoa {s : Str} (h : (numberOf s).2 = 0) : itoa ((numberOf s).1 : Nat) = s := by
  obtain ⟨h1, h2, h3, _⟩ := numberOf_err h
  rw [h3]
  exact (itoa_decVal h1).2 h2
theorem hasPrefix_v {s : Str} (h : hasPrefix s [118] = true) : s = 118 :: trimPrefix s [118] := by
  unfold trimPrefix
  rw [if_pos h]
  unfold hasPrefix at h
  obtain ⟨t, rfl⟩ := List.isPrefixOf_iff_prefix.1 h
  rfl
theorem list_three {l : List Str} (h : l.length = 3) : l = [l.getD 0 [], l.getD 1 [], l.getD 2 []] := by
  match l, h with
  | [a, b, c], _ => rfl
theorem ver_back {s : Str} (h : verErr s = 0) : verFmt (verNum s 0 : Nat) (verNum s 1 : Nat) (verNum s 2 : Nat) (verPre s) = s := by
  obtain ⟨h1, h2, h3, h4, h5⟩ := (verErr_zero s).1 h
  have hp : verPre s = verPres s := by unfold verPre; rw [if_pos h]
  have hn : ∀ i, i < 3 → itoa (verNum s i : Nat) = (verWords s).getD i [] := fun i hi => by
    unfold verNum
    rw [if_pos h]
    apply numberOf_itoa
    apply h3
    rw [List.getD_eq_getElem?_getD, List.getElem?_eq_getElem (by omega)]
    exact List.getElem_mem _
  unfold verFmt verFmtS
  rw [hn 0 (by omega), hn 1 (by omega), hn 2 (by omega), hp]
  have hw : join (verWords s) [46] = (verWords s).getD 0 [] ++ 46 :: ((verWords s).getD 1 [] ++ 46 :: (verWords s).getD 2 []) := by
    conv => lhs; rw [list_three h2]
    rw [join_two, join_two, join_one]
    simp
  rw [← hw]
  have hs := hasPrefix_v h1
  conv => rhs; rw [hs]
  congr 1
  unfold verWords verPres
  by_cases hd : (45 : UInt8) ∈ trimPrefix s [118]
  · obtain ⟨a, b, e, ha⟩ := mem_at hd
    rw [e, cut_at ha]
    simp only [↓reduceIte]
    rw [join_split, if_neg (split_ne _ _), join_split]
  · rw [cut_no hd]
    simp only [Bool.false_eq_true, ↓reduceIte, List.append_nil]
    rw [join_split]
theorem ver_inj {a b : Str} (ha : verErr a = 0) (hb : verErr b = 0) (hn : ∀ i, i < 3 → verNum a i = verNum b i) (hp : verPre a = verPre b) : a = b := by
  rw [← ver_back ha, ← ver_back hb, hn 0 (by omega), hn 1 (by omega), hn 2 (by omega), hp]
theorem verCmp_same {a b : Str} (ha : verErr a = 0) (hb : verErr b = 0) : verCmp a b = 0 ↔ a = b :=
  ⟨fun h => ver_inj ha hb (verCmp_zero h).1 (verCmp_zero h).2, fun e => by subst e; exact verCmp_ord.self a⟩
end Go.Proofs.Pw

namespace Go.Proofs.Pw
open Go.Lib hiding intOf
section
variable {α : Type} {f : α → α → Int}
def Rises (f : α → α → Int) (l : List α) : Prop := l.Pairwise fun a b => f a b < 0
theorem rises_ext (hf : Ord3 f) : ∀ {l m : List α}, Rises f l → Rises f m → (∀ x, x ∈ l ↔ x ∈ m) → l = m
  | [], [], _, _, _ => rfl
  | [], b :: t, _, _, h => by have := (h b).2 (by simp); simp at this
  | a :: r, [], _, _, h => by have := (h a).1 (by simp); simp at this
  | a :: r, b :: t, hl, hm, h => by
    have h1 := List.pairwise_cons.1 hl
    have h2 := List.pairwise_cons.1 hm
    have hab : a = b := by
      rcases List.mem_cons.1 ((h a).1 (by simp)) with e | e
      · exact e
      · rcases List.mem_cons.1 ((h b).2 (by simp)) with e' | e'
        · exact e'.symm
        · have x1 := h1.1 b e'
          have x2 := h2.1 a e
          have := (hf.anti a b).1 x1
          omega
    subst hab
    congr 1
    apply rises_ext hf h1.2 h2.2
    intro x
    constructor
    · intro hx
      rcases List.mem_cons.1 ((h x).1 (by simp [hx])) with e | e
      · subst e
        have := h1.1 x hx
        rw [hf.self] at this
        omega
      · exact e
    · intro hx
      rcases List.mem_cons.1 ((h x).2 (by simp [hx])) with e | e
      · subst e
        have := h2.1 x hx
        rw [hf.self] at this
        omega
      · exact e
variable [DecidableEq α]
def insU (f : α → α → Int) (s : α) : List α → List α
  | [] => [s]
  | a :: r => if f a s < 0 then a :: insU f s r else if a = s then a :: r else s :: a :: r
theorem insU_mem (f : α → α → Int) (s x : α) : ∀ l : List α, x ∈ insU f s l ↔ x = s ∨ x ∈ l
  | [] => by simp [insU]
  | a :: r => by
    unfold insU
    split
    · rw [List.mem_cons, insU_mem f s x r, List.mem_cons]
      constructor
      · rintro (h | h | h) <;> simp [h]
      · rintro (h | h | h) <;> simp [h]
    · split
      · rename_i e
        subst e
        simp
      · simp
theorem insU_rises (hf : Ord3 f) (s : α) : ∀ l : List α, (∀ a ∈ l, f a s = 0 → a = s) → Rises f l → Rises f (insU f s l)
  | [], _, _ => by simp [insU, Rises]
  | a :: r, hz, h => by
    have h1 := List.pairwise_cons.1 h
    unfold insU
    split
    · rename_i hlt
      refine List.pairwise_cons.2 ⟨fun x hx => ?_, insU_rises hf s r (fun b hb => hz b (by simp [hb])) h1.2⟩
      rcases (insU_mem f s x r).1 hx with rfl | hx
      · exact hlt
      · exact h1.1 x hx
    · rename_i hge
      split
      · exact h
      · rename_i hne
        have hsa : f s a < 0 := by
          have h0 : f a s ≠ 0 := fun e => hne (hz a (by simp) e)
          have := hf.anti s a
          omega
        refine List.pairwise_cons.2 ⟨fun x hx => ?_, h⟩
        rcases List.mem_cons.1 hx with rfl | hx
        · exact hsa
        · have hax := h1.1 x hx
          have t := hf.tr s a x (by omega) (by omega)
          rcases Int.lt_or_eq_of_le t with t | t
          · exact t
          · exfalso
            have hxs := hf.zero t
            have h1' := hf.tr a x s (by omega) (by omega)
            have h2' := (hf.anti s a).1 hsa
            omega
def insAt (f : α → α → Int) (s : α) : List α → Nat
  | [] => 0
  | a :: r => if f a s < 0 then insAt f s r + 1 else 0
omit [DecidableEq α] in
theorem insAt_le (f : α → α → Int) (s : α) : ∀ l : List α, insAt f s l ≤ l.length
  | [] => Nat.le_refl _
  | a :: r => by unfold insAt; split <;> simp [insAt_le f s r]
theorem insU_at (f : α → α → Int) (s : α) : ∀ l : List α, insU f s l = if l[insAt f s l]? = some s then l else l.take (insAt f s l) ++ s :: l.drop (insAt f s l)
  | [] => by simp [insU, insAt]
  | a :: r => by
    unfold insU insAt
    split
    · rw [insU_at f s r]
      simp only [List.getElem?_cons_succ, List.take_succ_cons, List.drop_succ_cons]
      split <;> simp
    · simp only [List.getElem?_cons_zero, List.take_zero, List.drop_zero, Option.some.injEq, List.nil_append]
def insAll (f : α → α → Int) (l : List α) : List α := l.foldl (fun o s => insU f s o) []
theorem insAll_snoc (f : α → α → Int) (l : List α) (s : α) : insAll f (l ++ [s]) = insU f s (insAll f l) := by simp [insAll]
theorem insFold_mem (f : α → α → Int) (x : α) : ∀ (l o : List α), x ∈ l.foldl (fun o s => insU f s o) o ↔ x ∈ l ∨ x ∈ o
  | [], o => by simp
  | s :: r, o => by
    rw [List.foldl_cons, insFold_mem f x r, insU_mem, List.mem_cons]
    constructor
    · rintro (h | h | h) <;> simp [h]
    · rintro ((h | h) | h) <;> simp [h]
theorem insAll_mem (f : α → α → Int) (l : List α) (x : α) : x ∈ insAll f l ↔ x ∈ l := by
  unfold insAll; rw [insFold_mem]; simp
theorem insFold_rises (hf : Ord3 f) (P : α → Prop) (hz : ∀ a b, P a → P b → f a b = 0 → a = b) : ∀ (l o : List α), (∀ a ∈ l, P a) → (∀ a ∈ o, P a) → Rises f o → Rises f (l.foldl (fun o s => insU f s o) o)
  | [], o, _, _, h => h
  | s :: r, o, hl, ho, h => by
    rw [List.foldl_cons]
    refine insFold_rises hf P hz r _ (fun a ha => hl a (by simp [ha])) (fun a ha => ?_) (insU_rises hf s o (fun a ha e => hz a s (ho a ha) (hl s (by simp)) e) h)
    rcases (insU_mem f s a o).1 ha with rfl | ha
    · exact hl a (by simp)
    · exact ho a ha
theorem insAll_rises (hf : Ord3 f) (P : α → Prop) (hz : ∀ a b, P a → P b → f a b = 0 → a = b) (l : List α) (hl : ∀ a ∈ l, P a) : Rises f (insAll f l) :=
  insFold_rises hf P hz l [] hl (by simp) List.Pairwise.nil
end
section
variable {α : Type} [Inhabited α] [DecidableEq α] {f : α → α → Int}
theorem compact_mem (d : Array α) (x : α) : x ∈ compactUpTo d d.size ↔ ∃ i, i < d.size ∧ d[i]! = x := by
  unfold compactUpTo
  simp only [List.mem_map, List.mem_filter, List.mem_range]
  constructor
  · rintro ⟨i, ⟨h1, _⟩, h2⟩
    exact ⟨i, h1, h2⟩
  · rintro ⟨i, h1, h2⟩
    induction i using Nat.strongRecOn with
    | _ i ih =>
      by_cases hk : keeps d i = true
      · exact ⟨i, ⟨h1, hk⟩, h2⟩
      · obtain ⟨j, rfl⟩ : ∃ j, i = j + 1 := by
          cases i with
          | zero => exact absurd (by simp [keeps]) hk
          | succ j => exact ⟨j, rfl⟩
        have he : d[j]! = x := by
          rw [← h2]
          by_cases e : d[j]! = d[j + 1]!
          · exact e
          · exact absurd (by simp [keeps]; exact fun h => e h.symm) hk
        exact ih j (by omega) (by omega) he
theorem compact_rises (hf : Ord3 f) (d : Array α) (hs : ∀ i j, i < j → j < d.size → f d[i]! d[j]! ≤ 0) (hz : ∀ i j, i < d.size → j < d.size → f d[i]! d[j]! = 0 → d[i]! = d[j]!) : Rises f (compactUpTo d d.size) := by
  unfold compactUpTo Rises
  rw [List.pairwise_map]
  apply List.Pairwise.imp_of_mem (R := fun a b => a < b) _ ((List.pairwise_lt_range).filter _)
  intro i j hi hj hij
  simp only [List.mem_filter, List.mem_range] at hi hj
  obtain ⟨k, rfl⟩ : ∃ k, j = k + 1 := ⟨j - 1, by omega⟩
  have hne : ¬ d[k]! = d[k + 1]! := by
    have := hj.2
    simp [keeps] at this
    exact fun e => this e.symm
  have h1 := hs k (k + 1) (by omega) hj.1
  have h2 : f d[k]! d[k + 1]! < 0 := by
    rcases Int.lt_or_eq_of_le h1 with h | h
    · exact h
    · exact absurd (hz k (k + 1) (by omega) hj.1 h) hne
  by_cases e : i = k
  · subst e; exact h2
  · have h3 := hs i k (by omega) (by omega)
    have h4 := hf.tr _ _ _ h3 h1
    rcases Int.lt_or_eq_of_le h4 with h | h
    · exact h
    · exfalso
      have h5 := hf.zero h
      have := hf.tr _ _ _ (by omega : f d[k + 1]! d[i]! ≤ 0) h3
      have := hf.anti d[k + 1]! d[k]!
      have := hf.anti d[k]! d[k + 1]!
      omega
end
def vsort (l : List Str) : List Str := insAll verCmp (l.filter fun s => decide (verErr s = 0))
theorem vsort_mem (l : List Str) (x : Str) : x ∈ vsort l ↔ x ∈ l ∧ verErr x = 0 := by
  unfold vsort; rw [insAll_mem]; simp
theorem vsort_rises (l : List Str) : Rises verCmp (vsort l) :=
  insAll_rises verCmp_ord (fun s => verErr s = 0) (fun a b ha hb e => (verCmp_same ha hb).1 e) _ (by simp)
end Go.Proofs.Pw

namespace Go.Proofs.Pw
open Go.Lib hiding intOf
def mdErr (m : Md) : Nat := modErr m.1 m.2
theorem modErr_zero {p v : Str} (h : modErr p v = 0) : pathErr p = 0 ∧ verErr v = 0 := by
  unfold modErr at h
  by_cases h1 : pathErr p = 0
  · refine ⟨h1, ?_⟩
    by_cases h2 : verErr v = 0
    · exact h2
    · rw [if_neg (by rw [h1]; simp), if_pos h2] at h
      exact h
  · rw [if_pos h1] at h
    exact absurd h h1
theorem modErr_le (p v : Str) : modErr p v ≤ 4 := by
  unfold modErr
  split
  · exact pathErr_le p
  · split
    · have := verErr_le v; omega
    · split <;> decide
def modAhead (a b : Md) : Bool := decide (compareBytes a.1 b.1 < 0) || (decide (a.1 = b.1) && verLess a.2 b.2)
def modCmp (a b : Md) : Int := orI (compareBytes a.1 b.1) (verCmp a.2 b.2)
theorem modCmp_ord : Ord3 modCmp := Ord3.or (compareBytes_ord.comap (fun m : Md => m.1)) (verCmp_ord.comap (fun m : Md => m.2))
theorem modCmp_zero {a b : Md} (ha : mdErr a = 0) (hb : mdErr b = 0) (h : modCmp a b = 0) : a = b := by
  obtain ⟨h1, h2⟩ := orI_eq.1 h
  exact Prod.ext (compareBytes_zero h1) ((verCmp_same (modErr_zero ha).2 (modErr_zero hb).2).1 h2)
theorem modAhead_iff {a b : Md} (ha : mdErr a = 0) (hb : mdErr b = 0) : modAhead a b = decide (modCmp a b < 0) := by
  unfold modAhead modCmp verLess
  rw [Bool.eq_iff_iff]
  simp only [Bool.or_eq_true, Bool.and_eq_true, decide_eq_true_eq, orI_lt]
  rw [compareBytes_zero_iff]
  constructor
  · rintro (h | ⟨h, _, _, h2⟩)
    · exact .inl h
    · exact .inr ⟨h, h2⟩
  · rintro (h | ⟨h, h2⟩)
    · exact .inl h
    · exact .inr ⟨h, (modErr_zero ha).2, (modErr_zero hb).2, h2⟩
end Go.Proofs.Pw

namespace Go.Proofs.Pw
open Go.RowKit
structure EnvM (w : World) : Prop where
  maxLen : ∃ m, w.cell? ⟨11, 0, none⟩ = some (.int .i64 m)
theorem lt_of_cell {w : World} {a : Addr} {v : Value} (h : w.cell? a = some v) : a.block < w.heap.size := World.block_lt_of_cell? w a h
theorem Below.cell_some {w w' : World} (hb : Below w.heap.size w w') {a : Addr} {v : Value} (h : w.cell? a = some v) : w'.cell? a = some v :=
  (hb.cell (lt_of_cell h)).trans h
theorem EnvM.below {w w' : World} (h : EnvM w) (hb : Below w.heap.size w w') : EnvM w' := by
  obtain ⟨m, hm⟩ := h.maxLen
  exact ⟨m, Below.cell_some hb hm⟩
theorem below_step {w w1 w2 : World} (h : Below w.heap.size w w1) (h2 : Below w1.heap.size w1 w2) : Below w.heap.size w w2 := h.trans (h2.mono h.size)
theorem below_alloc (w : World) (o : Obj) : Below w.heap.size w (w.alloc o) := (Below.refl _ _).alloc (Nat.le_refl _) _
def errG : Nat → Nat
  | 1 => 4 | 2 => 5 | 3 => 2 | 4 => 6 | 5 => 0
  | 6 => 7 | 7 => 3 | 8 => 1 | 9 => 8 | _ => 9
structure EnvE (ks : List Nat) (A : Nat → Addr) (w : World) : Prop where
  var : ∀ k ∈ ks, w.cell? ⟨errG k, 0, none⟩ = some (.iface 271 (.pointer (some (A k))))
  row : ∀ k ∈ ks, ∃ c t, w.heap[(A k).block]? = some (.cells c t (0, 0))
  inj : ∀ j ∈ ks, ∀ k ∈ ks, A j = A k → j = k
theorem Below.cell_same {w w' : World} (hb : Below w.heap.size w w') {a : Addr} {v : Value} (h : w.cell? a = some v) : w'.cell? a = some v :=
  (hb.cell (World.block_lt_of_cell? w a h)).trans h
theorem Below.row_same {w w' : World} (hb : Below w.heap.size w w') {b : Nat} {o : Obj} (h : w.heap[b]? = some o) : w'.heap[b]? = some o :=
  (hb.block b (Array.getElem?_eq_some_iff.1 h).1).trans h
theorem EnvE.below {ks : List Nat} {A : Nat → Addr} {w w' : World} (h : EnvE ks A w) (hb : Below w.heap.size w w') : EnvE ks A w' :=
  ⟨fun k hk => Below.cell_same hb (h.var k hk), fun k hk => let ⟨c, t, hc⟩ := h.row k hk; ⟨c, t, Below.row_same hb hc⟩, h.inj⟩
theorem EnvE.sub {ks js : List Nat} {A : Nat → Addr} {w : World} (h : EnvE ks A w) (hs : ∀ k ∈ js, k ∈ ks) : EnvE js A w :=
  ⟨fun k hk => h.var k (hs k hk), fun k hk => h.row k (hs k hk), fun j hj k hk => h.inj j (hs j hj) k (hs k hk)⟩
def errV (A : Nat → Addr) (code : Nat) : Value := if code = 0 then .nilIface else .iface 271 (.pointer (some (A code)))
theorem errV_zero (A : Nat → Addr) : errV A 0 = .nilIface := rfl
theorem errV_pos (A : Nat → Addr) {c : Nat} (h : c ≠ 0) : errV A c = .iface 271 (.pointer (some (A c))) := if_neg h
def allErrs : List Nat := [1, 2, 3, 4, 5, 6, 7, 8, 9, 10]
theorem mem_allErrs {k : Nat} (h1 : 1 ≤ k) (h2 : k ≤ 10) : k ∈ allErrs := by
  unfold allErrs; simp; omega
theorem Below.drewN {B : Nat} {a w : World} (h : Below B a w) (n : Nat) : Below B a (w.drewN n) := below_drewN h n
structure EnvP (ks : List Nat) (A : Nat → Addr) (w : World) : Prop where
  m : EnvM w
  errs : EnvE ks A w
  has : 1 ∈ ks ∧ 2 ∈ ks
  range : ∃ te pe, w.cell? ⟨13, 0, none⟩ = some (.iface te pe)
  pow10 : Lib.TabIs Tryz.prog w "internal/strconv.uint64pow10" .u64 Lib.pow10Tab
theorem var?_below {P : Program} {w w' : World} {n : String} {cs : Array Value} (h : w.var? P n = some cs) (hb : Below w.heap.size w w') : w'.var? P n = some cs := by
  unfold World.var? at h ⊢
  cases hg : P.globalNamed n with
  | none => simp [hg] at h
  | some g =>
    simp only [hg, Option.bind_some] at h ⊢
    have hlt : g < w.heap.size := by
      rcases Nat.lt_or_ge g w.heap.size with h' | h'
      · exact h'
      · simp [Array.getElem?_eq_none h'] at h
    rw [hb.block g hlt]
    exact h
theorem EnvP.below {ks : List Nat} {A : Nat → Addr} {w w' : World} (h : EnvP ks A w) (hb : Below w.heap.size w w') : EnvP ks A w' :=
  { m := h.m.below hb, errs := h.errs.below hb, has := h.has
    range := let ⟨te, pe, e⟩ := h.range; ⟨te, pe, Below.cell_some hb e⟩
    pow10 := var?_below h.pow10 hb
  }
end Go.Proofs.Pw

namespace Go.Proofs.Pw
open Go.RowKit
open Go.Lib hiding intOf
def mdF (n : Nat) (P V : Nat → ByteArray) : List Md := (List.range n).map fun j => ((P j).data.toList, (V j).data.toList)
theorem mdF_length (n P V) : (mdF n P V).length = n := by simp [mdF]
theorem mdF_get (n P V) (j : Nat) (h : j < n) : (mdF n P V)[j]? = some ((P j).data.toList, (V j).data.toList) := by simp [mdF, h]
theorem mdF_take_succ (n P V) (k : Nat) (h : k < n) : (mdF n P V).take (k + 1) = (mdF n P V).take k ++ [((P k).data.toList, (V k).data.toList)] := by
  rw [List.take_add_one, mdF_get n P V k h]; rfl
theorem mdF_take_all (n P V) : (mdF n P V).take n = mdF n P V := List.take_of_length_le (by rw [mdF_length]; exact Nat.le_refl _)
theorem bytes_eq {a b : ByteArray} : a.data.toList = b.data.toList ↔ a = b := ⟨fun h => by
  apply ByteArray.ext; apply Array.ext'; exact h, fun h => by rw [h]⟩
def ModsAt (w : World) (v : Value) (l : List Md) : Prop :=
  ∃ a n cap P V, v = .slice a n cap ∧ l = mdF n P V ∧ n ≤ cap ∧ cap ≤ 9223372036854775807 ∧ ∀ j, j < n → ∃ b o, a = some ⟨b, o, none⟩ ∧ w.cell? ⟨b, o + j * 2, none⟩ = some (.string (P j)) ∧ w.cell? ⟨b, o + j * 2 + 1, none⟩ = some (.string (V j))
theorem ModsAt.below {w w' : World} {v : Value} {l : List Md} (h : ModsAt w v l) (hb : Below w.heap.size w w') : ModsAt w' v l := by
  obtain ⟨a, n, cap, P, V, h1, h2, h3, h4, h5⟩ := h
  exact ⟨a, n, cap, P, V, h1, h2, h3, h4, fun j hj => let ⟨b, o, e1, e2, e3⟩ := h5 j hj; ⟨b, o, e1, Below.cell_some hb e2, Below.cell_some hb e3⟩⟩
theorem ModsAt.nil (w : World) : ModsAt w (.slice none 0 0) [] := ⟨none, 0, 0, fun _ => ByteArray.empty, fun _ => ByteArray.empty, rfl, rfl, Nat.le_refl _, by decide, fun j hj => absurd hj (Nat.not_lt_zero _)⟩
def findI {α : Type} (p : α → Bool) (l : List α) : Int := match l.findIdx? p with | some k => (k : Int) | none => -1
theorem findI_hit {α : Type} {p : α → Bool} {l : List α} {k : Nat} {x : α} (hk : l[k]? = some x) (hp : p x = true) (h0 : ∀ j y, j < k → l[j]? = some y → p y = false) : findI p l = k := by
  have : l.findIdx? p = some k := by
    rw [List.findIdx?_eq_some_iff_getElem]
    obtain ⟨h, e⟩ := List.getElem?_eq_some_iff.1 hk
    refine ⟨h, by rw [e]; exact hp, fun j hj => ?_⟩
    have := h0 j l[j] hj (List.getElem?_eq_getElem _)
    simp [this]
  unfold findI
  rw [this]
theorem findI_none {α : Type} {p : α → Bool} {l : List α} (h : ∀ (j : Nat) (y : α), l[j]? = some y → p y = false) : findI p l = -1 := by
  have : l.findIdx? p = none := by
    rw [List.findIdx?_eq_none_iff]
    intro x hx
    obtain ⟨j, hj⟩ := List.getElem?_of_mem hx
    rw [h j x hj]
  unfold findI
  rw [this]
theorem Tryz.md_fields : Tryz.prog.underlying 38 = some (.struct (Tryz.prog.fieldsOf 38)) := by kernel_rfl
theorem Tryz.md_held : Tryz.prog.stoodInHeld 38 = false := by kernel_rfl
theorem Tryz.md_guard : Tryz.prog.eqGuardType Tryz.prog.depth 38 = false := by kernel_rfl
theorem md_equal (p v q u : ByteArray) (w : World) : (Op.equalIn 10000 38 (.agg #[.string p, .string v]) (.agg #[.string q, .string u])).run Tryz.prog w = .ok (decide (p = q ∧ v = u)) w := by
  have u3 := Tryz.underlying9
  have a3 := Tryz.isAgg9
  have z3 := Tryz.sizeOf9
  rw [show (10000 : Nat) = 9999 + 1 from rfl, run_equalIn_agg w 9999 38 _ _ Tryz.md_fields Tryz.md_held]
  simp only [Program.fieldsOf, Tryz.underlying38]
  go_simp
  have e1 : (p.toList = q.toList) ↔ p = q := by rw [ByteArray.toList_eq, ByteArray.toList_eq]; exact bytes_eq
  have e2 : (v.toList = u.toList) ↔ v = u := by rw [ByteArray.toList_eq, ByteArray.toList_eq]; exact bytes_eq
  by_cases h1 : p = q
  · by_cases h2 : v = u
    · simp [h1, h2]
    · have : ¬ v.toList = u.toList := fun h => h2 (e2.1 h)
      simp [h1, h2, this]
  · have : ¬ p.toList = q.toList := fun h => h1 (e1.1 h)
    simp [h1, this]
theorem md_eql (p v q u : ByteArray) (w : World) : (binOp .eql 38 (.agg #[.string p, .string v]) (.agg #[.string q, .string u])).run Tryz.prog w = .ok (.bool (decide (p = q ∧ v = u))) w := by
  rw [run_eql_struct, md_equal]; rfl
theorem md_neq (p v q u : ByteArray) (w : World) : (binOp .neq 38 (.agg #[.string p, .string v]) (.agg #[.string q, .string u])).run Tryz.prog w = .ok (.bool (!decide (p = q ∧ v = u))) w := by
  rw [run_neq_struct, md_equal]; rfl
end Go.Proofs.Pw

namespace Go.Proofs.Pw
open Go.Lib hiding intOf
structure Fl where
  path : Str
  reqs : List Md
  excl : List Md
def firstE (g : Nat → Nat) : Nat → Nat × Int
  | 0 => (0, -1)
  | n + 1 => if (firstE g n).1 ≠ 0 then firstE g n else if g n ≠ 0 then (g n, (n : Int)) else (0, -1)
theorem firstE_none {g : Nat → Nat} : ∀ {n : Nat}, (∀ j, j < n → g j = 0) → firstE g n = (0, -1)
  | 0, _ => rfl
  | n + 1, h => by
    rw [firstE, firstE_none (n := n) (fun j hj => h j (by omega)), if_neg (by simp), if_neg (by simp [h n (by omega)])]
theorem firstE_hit {g : Nat → Nat} {k : Nat} (hg : g k ≠ 0) (h : ∀ j, j < k → g j = 0) : ∀ {n : Nat}, k < n → firstE g n = (g k, (k : Int))
  | 0, hk => absurd hk (Nat.not_lt_zero _)
  | n + 1, hk => by
    by_cases e : k = n
    · subst e
      rw [firstE, firstE_none h, if_neg (by simp), if_pos hg]
    · have := firstE_hit hg h (n := n) (by omega)
      rw [firstE, this, if_pos hg]
theorem firstE_zero {g : Nat → Nat} : ∀ {n : Nat}, (firstE g n).1 = 0 → ∀ j, j < n → g j = 0
  | 0, _, j, hj => absurd hj (Nat.not_lt_zero _)
  | n + 1, h, j, hj => by
    rw [firstE] at h
    by_cases h1 : (firstE g n).1 = 0
    · rw [if_neg (by simp [h1])] at h
      by_cases h2 : g n = 0
      · by_cases e : j = n
        · rw [e]; exact h2
        · exact firstE_zero h1 j (by omega)
      · rw [if_pos h2] at h
        exact absurd h h2
    · rw [if_pos h1] at h
      exact absurd h h1
def mdAt (l : List Md) (i : Nat) : Md := l.getD i ([], [])
theorem mdAt_get {l : List Md} {i : Nat} (h : i < l.length) : l[i]? = some (mdAt l i) := by
  unfold mdAt
  rw [List.getD_eq_getElem?_getD, List.getElem?_eq_getElem h]; rfl
theorem mdAt_mem {l : List Md} {i : Nat} (h : i < l.length) : mdAt l i ∈ l := List.mem_of_getElem? (mdAt_get h)
theorem mdAt_mdF {n : Nat} {P V : Nat → ByteArray} {i : Nat} (h : i < n) : mdAt (mdF n P V) i = ((P i).data.toList, (V i).data.toList) := by
  unfold mdAt
  rw [List.getD_eq_getElem?_getD, mdF_get n P V i h]; rfl
def reqE (p : Str) (l : List Md) (i : Nat) : Nat :=
  if mdErr (mdAt l i) ≠ 0 then mdErr (mdAt l i) else if (mdAt l i).1 = p then 3 else if 0 < i ∧ compareBytes (mdAt l i).1 (mdAt l (i - 1)).1 ≤ 0 then 8 else 0
def excE (l : List Md) (i : Nat) : Nat :=
  if mdErr (mdAt l i) ≠ 0 then mdErr (mdAt l i) else if 0 < i ∧ modAhead (mdAt l (i - 1)) (mdAt l i) = false then 8 else 0
def claE (r x : List Md) (i : Nat) : Nat := if mdAt r i ∈ x then 9 else 0
def orE (a b : Nat × Int) : Nat × Int := if a.1 ≠ 0 then a else b
theorem orE_zero {a b : Nat × Int} : (orE a b).1 = 0 ↔ a.1 = 0 ∧ b.1 = 0 := by
  unfold orE
  by_cases h : a.1 = 0
  · rw [if_neg (by simp [h])]; simp [h]
  · rw [if_pos h]; simp [h]
structure Right (f : Fl) : Prop where
  path : pathErr f.path = 0
  reqs : f.reqs.length ≤ 20
  excl : f.excl.length ≤ 20
  req : ∀ i, i < f.reqs.length → reqE f.path f.reqs i = 0
  exc : ∀ i, i < f.excl.length → excE f.excl i = 0
  cla : ∀ i, i < f.reqs.length → claE f.reqs f.excl i = 0
theorem Right.mem {f : Fl} (h : Right f) : (∀ m ∈ f.reqs, mdErr m = 0) ∧ ∀ m ∈ f.excl, mdErr m = 0 := by
  constructor
  · intro m hm
    obtain ⟨i, hi⟩ := List.getElem?_of_mem hm
    have hl := (List.getElem?_eq_some_iff.1 hi).1
    have h1 := h.req i hl
    rw [mdAt_get hl] at hi
    injection hi with hi
    unfold reqE at h1
    rw [hi] at h1
    by_cases h2 : mdErr m = 0
    · exact h2
    · rw [if_pos h2] at h1; exact h1
  · intro m hm
    obtain ⟨i, hi⟩ := List.getElem?_of_mem hm
    have hl := (List.getElem?_eq_some_iff.1 hi).1
    have h1 := h.exc i hl
    rw [mdAt_get hl] at hi
    injection hi with hi
    unfold excE at h1
    rw [hi] at h1
    by_cases h2 : mdErr m = 0
    · exact h2
    · rw [if_pos h2] at h1; exact h1
end Go.Proofs.Pw

namespace Go.Proofs.Pw
open Go.Lib hiding intOf
def hasP (p : Str) (m : Md) : Bool := decide (m.1 = p)
theorem findI_eq_none {α : Type} {p : α → Bool} {l : List α} : findI p l < 0 ↔ ∀ x ∈ l, p x = false := by
  unfold findI
  cases h : l.findIdx? p with
  | none =>
    rw [List.findIdx?_eq_none_iff] at h
    exact ⟨fun _ => h, fun _ => by decide⟩
  | some k =>
    rw [List.findIdx?_eq_some_iff_getElem] at h
    obtain ⟨hk, h1, _⟩ := h
    constructor
    · intro h; simp only at h; omega
    · intro h
      rw [h _ (List.getElem_mem hk)] at h1
      cases h1
theorem findI_spec {α : Type} {p : α → Bool} {l : List α} {k : Nat} (h : findI p l = k) : ∃ x, l[k]? = some x ∧ p x = true := by
  unfold findI at h
  cases hf : l.findIdx? p with
  | none => rw [hf] at h; simp only at h; omega
  | some j =>
    rw [hf] at h
    simp only at h
    obtain rfl : j = k := by omega
    rw [List.findIdx?_eq_some_iff_getElem] at hf
    obtain ⟨hk, h1, _⟩ := hf
    exact ⟨_, List.getElem?_eq_getElem hk, h1⟩
def RiseP (l : List Md) : Prop := l.Pairwise fun a b => compareBytes a.1 b.1 < 0
theorem compareBytes_self (a : Str) : compareBytes a a = 0 := compareBytes_ord.self a
theorem cb_trans {a b c : Str} (h1 : compareBytes a b < 0) (h2 : compareBytes b c < 0) : compareBytes a c < 0 := by
  have h := compareBytes_ord
  have a1 := h.tr a b c (by omega) (by omega)
  rcases Int.lt_or_eq_of_le a1 with a2 | a2
  · exact a2
  · exfalso
    have a3 := h.zero a2
    have a4 := h.tr c a b (by omega) (by omega)
    have a5 := (h.anti b c).1 h2
    omega
theorem Right.rise {f : Fl} (h : Right f) : RiseP f.reqs := by
  have step : ∀ i, i + 1 < f.reqs.length → compareBytes (mdAt f.reqs i).1 (mdAt f.reqs (i + 1)).1 < 0 := by
    intro i hi
    have h1 := h.req (i + 1) hi
    unfold reqE at h1
    have h0 := h.mem.1 _ (mdAt_mem hi)
    rw [if_neg (by simp [h0])] at h1
    split at h1
    · cases h1
    · split at h1
      · cases h1
      · rename_i h2
        rw [Nat.add_sub_cancel] at h2
        have h3 : ¬ compareBytes (mdAt f.reqs (i + 1)).1 (mdAt f.reqs i).1 ≤ 0 := fun e => h2 ⟨Nat.succ_pos _, e⟩
        exact (compareBytes_ord.anti _ _).2 (by omega)
  have all : ∀ j i, i < j → j < f.reqs.length → compareBytes (mdAt f.reqs i).1 (mdAt f.reqs j).1 < 0 := by
    intro j
    induction j with
    | zero => intro i hi; exact absurd hi (Nat.not_lt_zero _)
    | succ j ih =>
      intro i hi hj
      by_cases e : i = j
      · subst e; exact step i hj
      · exact cb_trans (ih i (by omega) (by omega)) (step j hj)
  unfold RiseP
  rw [List.pairwise_iff_getElem]
  intro i j hi hj hij
  have e : ∀ k (hk : k < f.reqs.length), mdAt f.reqs k = f.reqs[k] := fun k hk => by
    have := mdAt_get hk
    rw [List.getElem?_eq_getElem hk] at this
    exact (Option.some.inj this).symm
  have := all j i hij hj
  rw [e i hi, e j hj] at this
  exact this
theorem RiseP.unique : ∀ {l : List Md}, RiseP l → ∀ {a b : Md}, a ∈ l → b ∈ l → a.1 = b.1 → a = b
  | [], _, _, _, h, _, _ => by simp at h
  | x :: r, h, a, b, ha, hb, e => by
    have h1 := List.pairwise_cons.1 h
    rcases List.mem_cons.1 ha with ea | ha' <;> rcases List.mem_cons.1 hb with eb | hb'
    · rw [ea, eb]
    · have := h1.1 b hb'
      rw [← ea, e, compareBytes_self] at this
      omega
    · have := h1.1 a ha'
      rw [← eb, e, compareBytes_self] at this
      omega
    · exact RiseP.unique h1.2 ha' hb' e
theorem stays {l : List Md} (h : RiseP l) (p : Str) {x : Md} (hx : x ∈ l) : (findI (hasP x.1) (l.filter fun y => !hasP p y) < 0 ↔ x.1 = p) ∧ ∀ k : Nat, findI (hasP x.1) (l.filter fun y => !hasP p y) = k → (l.filter fun y => !hasP p y)[k]? = some x := by
  constructor
  · rw [findI_eq_none]
    constructor
    · intro hn
      by_cases e : x.1 = p
      · exact e
      · have := hn x (List.mem_filter.2 ⟨hx, by simp [hasP, e]⟩)
        simp [hasP] at this
    · intro e y hy
      have := (List.mem_filter.1 hy).2
      unfold hasP at this ⊢
      rw [e]
      simpa using this
  · intro k hk
    obtain ⟨y, hy, hp⟩ := findI_spec hk
    have hyl := (List.mem_filter.1 (List.mem_of_getElem? hy)).1
    have e : y.1 = x.1 := by simpa [hasP] using hp
    rw [hy, h.unique hyl hx e]
end Go.Proofs.Pw

namespace Go.Proofs.Pw
open Go.Lib hiding intOf
structure En where
  md : Md
  reqs : List Md
  packs : List Str
  back : Bool
def noEn : En := ⟨([], []), [], [], false⟩
def enAt (l : List En) (i : Nat) : En := l.getD i noEn
theorem enAt_get {l : List En} {i : Nat} (h : i < l.length) : l[i]? = some (enAt l i) := by
  unfold enAt
  rw [List.getD_eq_getElem?_getD, List.getElem?_eq_getElem h]; rfl
theorem enAt_mem {l : List En} {i : Nat} (h : i < l.length) : enAt l i ∈ l := List.mem_of_getElem? (enAt_get h)
theorem enAt_elem {l : List En} {i : Nat} (h : i < l.length) : enAt l i = l[i] := by
  have := enAt_get h
  rw [List.getElem?_eq_getElem h] at this
  exact (Option.some.inj this).symm
def reqsErr (e : En) : Nat := if 20 < e.reqs.length then 7 else (firstE (reqE e.md.1 e.reqs) e.reqs.length).1
def packOk (s : Str) : Bool := decide (s = [46]) || decide (pathErr s = 0)
def packE (l : List Str) (i : Nat) : Nat := if 0 < i ∧ compareBytes (l.getD i []) (l.getD (i - 1) []) ≤ 0 then 8 else 0
def packsErr (e : En) : Nat := if 10 < e.packs.length then 7 else if e.packs.all packOk then (firstE (packE e.packs) e.packs.length).1 else 1
def entErr (l : List En) (i : Nat) : Nat :=
  if mdErr (enAt l i).md ≠ 0 then mdErr (enAt l i).md
  else if 0 < i ∧ modAhead (enAt l (i - 1)).md (enAt l i).md = false then 8
  else if reqsErr (enAt l i) ≠ 0 then reqsErr (enAt l i) else packsErr (enAt l i)
def isMd (m : Md) (e : En) : Bool := decide (e.md = m)
def findE (l : List En) (m : Md) : Int := findI (isMd m) l
def lost (l : List En) (m : Md) : Bool := decide (findE l m < 0)
def lostE (l : List En) (i : Nat) : Nat := if (enAt l i).reqs.any (lost l) then 5 else 0
def idxErr (l : List En) : Nat × Int :=
  if 100 < l.length then (7, -1) else orE (firstE (entErr l) l.length) (firstE (lostE l) l.length)
theorem findE_lt {l : List En} {m : Md} : findE l m < 0 ↔ ∀ e ∈ l, e.md ≠ m := by
  unfold findE
  rw [findI_eq_none]
  exact ⟨fun h e he => of_decide_eq_false (h e he), fun h e he => decide_eq_false (h e he)⟩
theorem findE_at {l : List En} {m : Md} {k : Nat} (h : findE l m = k) : k < l.length ∧ (enAt l k).md = m := by
  obtain ⟨x, hx, hp⟩ := findI_spec h
  have hl := (List.getElem?_eq_some_iff.1 hx).1
  rw [enAt_get hl] at hx
  exact ⟨hl, by rw [Option.some.inj hx]; exact of_decide_eq_true hp⟩
theorem findE_nat {l : List En} {m : Md} (h : ¬ findE l m < 0) : ∃ k : Nat, findE l m = k ∧ k < l.length ∧ (enAt l k).md = m :=
  have h0 : findE l m = ((findE l m).toNat : Int) := by omega
  ⟨(findE l m).toNat, h0, findE_at h0⟩
structure RightI (l : List En) : Prop where
  len : l.length ≤ 100
  mds : ∀ e ∈ l, mdErr e.md = 0
  rise : Rises modCmp (l.map (·.md))
  reqs : ∀ e ∈ l, reqsErr e = 0
  packs : ∀ e ∈ l, packsErr e = 0
  all : ∀ e ∈ l, ∀ m ∈ e.reqs, ∃ x ∈ l, x.md = m
theorem entErr_zero {l : List En} {i : Nat} (h : entErr l i = 0) : mdErr (enAt l i).md = 0 ∧ (0 < i → modAhead (enAt l (i - 1)).md (enAt l i).md = true) ∧ reqsErr (enAt l i) = 0 ∧ packsErr (enAt l i) = 0 := by
  unfold entErr at h
  by_cases h1 : mdErr (enAt l i).md = 0
  · rw [if_neg (by simp [h1])] at h
    by_cases h2 : 0 < i ∧ modAhead (enAt l (i - 1)).md (enAt l i).md = false
    · rw [if_pos h2] at h; cases h
    · rw [if_neg h2] at h
      by_cases h3 : reqsErr (enAt l i) = 0
      · rw [if_neg (by simp [h3])] at h
        refine ⟨h1, fun hi => ?_, h3, h⟩
        cases h4 : modAhead (enAt l (i - 1)).md (enAt l i).md
        · exact absurd ⟨hi, h4⟩ h2
        · rfl
      · rw [if_pos h3] at h; exact absurd h h3
  · rw [if_pos h1] at h; exact absurd h h1
theorem rises_step {α : Type} {f : α → α → Int} (hf : Ord3 f) {l : List α} (h : ∀ i (h1 : i + 1 < l.length), f l[i] l[i + 1] < 0) : Rises f l := by
  have tr : ∀ a b c, f a b < 0 → f b c < 0 → f a c < 0 := fun a b c h1 h2 => by
    have a1 := hf.tr a b c (by omega) (by omega)
    rcases Int.lt_or_eq_of_le a1 with a2 | a2
    · exact a2
    · exfalso
      have a3 := hf.zero a2
      have a4 := hf.tr c a b (by omega) (by omega)
      have a5 := (hf.anti b c).1 h2
      omega
  have all : ∀ j i (hij : i < j) (hj : j < l.length), f l[i] l[j] < 0 := by
    intro j
    induction j with
    | zero => intro i hi; exact absurd hi (Nat.not_lt_zero _)
    | succ j ih =>
      intro i hi hj
      by_cases e : i = j
      · subst e; exact h i hj
      · exact tr _ _ _ (ih i (by omega) (by omega)) (h j hj)
  unfold Rises
  rw [List.pairwise_iff_getElem]
  exact fun i j _ hj hij => all j i hij hj
theorem mem_enAt {l : List En} {e : En} (h : e ∈ l) : ∃ i, i < l.length ∧ enAt l i = e := by
  obtain ⟨i, hi⟩ := List.getElem?_of_mem h
  have hl := (List.getElem?_eq_some_iff.1 hi).1
  rw [enAt_get hl] at hi
  exact ⟨i, hl, Option.some.inj hi⟩
theorem rightI_of {l : List En} (h : (idxErr l).1 = 0) : RightI l := by
  unfold idxErr at h
  by_cases h0 : 100 < l.length
  · rw [if_pos h0] at h; cases h
  · rw [if_neg h0, orE_zero] at h
    have h1 := fun i hi => entErr_zero (firstE_zero h.1 i hi)
    have h2 := firstE_zero h.2
    have hm : ∀ e ∈ l, mdErr e.md = 0 := fun e he => by
      obtain ⟨i, hi, rfl⟩ := mem_enAt he
      exact (h1 i hi).1
    refine ⟨by omega, hm, rises_step modCmp_ord fun i hi => ?_, fun e he => ?_, fun e he => ?_, fun e he m hme => ?_⟩
    · rw [List.length_map] at hi
      have := (h1 (i + 1) hi).2.1 (by omega)
      rw [Nat.add_sub_cancel, modAhead_iff (hm _ (enAt_mem (by omega))) (hm _ (enAt_mem hi)), enAt_elem (by omega), enAt_elem hi] at this
      simpa using of_decide_eq_true this
    · obtain ⟨i, hi, rfl⟩ := mem_enAt he
      exact (h1 i hi).2.2.1
    · obtain ⟨i, hi, rfl⟩ := mem_enAt he
      exact (h1 i hi).2.2.2
    · obtain ⟨i, hi, rfl⟩ := mem_enAt he
      have h3 := h2 i hi
      unfold lostE at h3
      by_cases h4 : (enAt l i).reqs.any (lost l) = true
      · rw [if_pos h4] at h3; cases h3
      · have h5 : lost l m = false := by
          cases h6 : lost l m
          · rfl
          · exact absurd (List.any_eq_true.2 ⟨m, hme, h6⟩) h4
        unfold lost at h5
        rw [decide_eq_false_iff_not] at h5
        obtain ⟨k, _, hk, e⟩ := findE_nat h5
        exact ⟨_, enAt_mem hk, e⟩
theorem RightI.req {l : List En} (h : RightI l) {e : En} (he : e ∈ l) : ∀ m ∈ e.reqs, mdErr m = 0 := fun m hm => by
  obtain ⟨x, hx, rfl⟩ := h.all e he m hm
  exact h.mds x hx
theorem rises_inj {α β : Type} {f : α → α → Int} (hf : Ord3 f) {k : β → α} : ∀ {l : List β}, Rises f (l.map k) → ∀ {a b : β}, a ∈ l → b ∈ l → k a = k b → a = b
  | [], _, _, _, h, _, _ => by simp at h
  | x :: r, h, a, b, ha, hb, e => by
    have h1 := List.pairwise_cons.1 h
    rcases List.mem_cons.1 ha with ea | ha' <;> rcases List.mem_cons.1 hb with eb | hb'
    · rw [ea, eb]
    · have := h1.1 (k b) (List.mem_map_of_mem hb')
      rw [← ea, e, hf.self] at this
      omega
    · have := h1.1 (k a) (List.mem_map_of_mem ha')
      rw [← eb, e, hf.self] at this
      omega
    · exact rises_inj hf h1.2 ha' hb' e
theorem RightI.one {l : List En} (h : RightI l) {a b : En} (ha : a ∈ l) (hb : b ∈ l) (e : a.md = b.md) : a = b := rises_inj modCmp_ord (k := (·.md)) h.rise ha hb e
def enF (n : Nat) (P V : Nat → ByteArray) (R : Nat → List Md) (K : Nat → List Str) (B : Nat → Bool) : List En := (List.range n).map fun j => ⟨((P j).data.toList, (V j).data.toList), R j, K j, B j⟩
theorem enF_length (n P V R K B) : (enF n P V R K B).length = n := by simp [enF]
theorem enF_get (n P V R K B) (j : Nat) (h : j < n) : (enF n P V R K B)[j]? = some ⟨((P j).data.toList, (V j).data.toList), R j, K j, B j⟩ := by simp [enF, h]
theorem enAt_enF {n P V R K B} {j : Nat} (h : j < n) : enAt (enF n P V R K B) j = ⟨((P j).data.toList, (V j).data.toList), R j, K j, B j⟩ := by
  unfold enAt
  rw [List.getD_eq_getElem?_getD, enF_get n P V R K B j h]; rfl
end Go.Proofs.Pw

namespace Go.Proofs.Pw
open Go.RowKit
open Go.Lib hiding intOf
theorem Tryz.err_comp : (Tryz.prog.info? 271).map (·.comparable) = some true := by kernel_rfl
theorem Tryz.err_size : (Tryz.prog.info? 273).map (·.size) = some 1 := by kernel_rfl
theorem trim_calls (s cs : ByteArray) (w : World) (hs : s.size ≤ 4000000000) (hc : cs.size ≤ 1000) (ha : ∀ b ∈ cs.data.toList, b.toNat < 128) :
    Calls Tryz.prog 171 #[.string s, .string cs] w fun e w' => e = .returned (.string ⟨(Lib.trimS s.data.toList cs.data.toList).toArray⟩) ∧ Below w.heap.size w w' :=
  Any.strings_Trim_laid Tryz.lays160 (by kernel_rfl) s cs w (by omega) (by omega) (fun j b h => ha b (List.mem_of_getElem? h))
theorem toList_mk (l : Str) : (⟨l.toArray⟩ : ByteArray).toList = l := by rw [toList_data]
theorem data_mk (l : Str) : (⟨l.toArray⟩ : ByteArray).data.toList = l := rfl
theorem isEmpty_toList (s : ByteArray) : s.toList.isEmpty = s.data.toList.isEmpty := by rw [toList_data]
theorem digits_calls (s : ByteArray) (w : World) (hs : s.size ≤ 4000000000) :
    Calls Tryz.prog 194 #[.string s] w fun e w' => e = .returned (.bool (areDigits s.data.toList)) ∧ Below w.heap.size w w' := by
  have HT := Lib.hid (trimS_nil_bool s.data.toList digitsSet isDig digitsSet_ok)
  cases he : s.data.toList.isEmpty with
  | true =>
    have h1 : s.toList.isEmpty = true := by rw [isEmpty_toList, he]
    have h2 : s.toList = [] := by simpa using h1
    have HD : Hid (areDigits s.data.toList = false) := by unfold areDigits; show _ = _; rw [he]; rfl
    clear he
    go_enter Tryz.func194, Tryz.ntmps194
    go_wp2_with fail
    go_ret
    exact ⟨by rw [HD.out]; simp, Below.refl _ _⟩
  | false =>
    have h1 : s.toList.isEmpty = false := by rw [isEmpty_toList, he]
    have h2 : (s.toList == []) = false := by simpa using h1
    have HD : Hid (areDigits s.data.toList = s.data.toList.all isDig) := by unfold areDigits; show _ = _; rw [he]; rfl
    clear he
    go_enter Tryz.func194, Tryz.ntmps194
    go_wp2_with fail
    refine (trim_calls _ _ _ hs (by decide) (by decide)).mono ?_
    rintro e w1 ⟨rfl, hb1⟩
    cases ha : s.data.toList.all isDig with
    | true =>
      have e1 : trimS s.data.toList (⟨#[48, 49, 50, 51, 52, 53, 54, 55, 56, 57]⟩ : ByteArray).data.toList = [] := by
        have := HT.out
        rw [ha] at this
        exact beq_iff_eq.1 this
      rw [e1]
      clear e1
      go_wp2_with fail
      go_ret
      exact ⟨by rw [HD.out, ha]; simp, hb1⟩
    | false =>
      have e1 : (trimS s.data.toList (⟨#[48, 49, 50, 51, 52, 53, 54, 55, 56, 57]⟩ : ByteArray).data.toList == []) = false := by
        have := HT.out
        rw [ha] at this
        exact this
      generalize trimS s.data.toList (⟨#[48, 49, 50, 51, 52, 53, 54, 55, 56, 57]⟩ : ByteArray).data.toList = t at e1 ⊢
      have e2 : (⟨t.toArray⟩ : ByteArray).toList.isEmpty = false := by rw [toList_mk]; simpa using e1
      clear e1
      go_wp2_with fail
      go_ret
      exact ⟨by rw [HD.out, ha]; simp_all, hb1⟩
theorem atoi_calls (ks : List Nat) (A : Nat → Addr) (s : ByteArray) (w : World) (hE : EnvP ks A w) (hs : s.size ≤ 4000000000) (hd : areDigits s.data.toList = true) :
    Calls Tryz.prog 172 #[.string s] w fun e w' => ((∃ x te pe, e = .returned (.tuple #[.int .i64 x, .iface te pe]) ∧ 6 < s.size) ∨ (e = .returned (.tuple #[.int .i64 (decVal s.data.toList), .nilIface]))) ∧ Below w.heap.size w w' := by
  rcases atoiAll_digits hd with h | h
  · obtain ⟨te, pe, hr⟩ := hE.range
    refine (Tryz.strconv_Atoi_range s (by omega) h _ w hr (.inr ⟨te, pe, rfl⟩)).mono ?_
    rintro e w' ⟨N, rfl, _, _, hb⟩
    exact ⟨.inl ⟨_, _, _, rfl, by rw [size_eq]; exact atoiAll_range_long hd h⟩, hb⟩
  · refine (Tryz.strconv_Atoi_ok s (by omega) _ h w).mono ?_
    rintro e w' ⟨rfl, hw⟩
    refine ⟨.inr rfl, ?_⟩
    rcases hw with rfl | ⟨t, rfl⟩
    · exact Below.refl _ _
    · exact Lib.bytesWorld_below _ _ _
theorem numberOf_text {s : Str} (h : areDigits s = false ∨ (1 < s.length ∧ s.head? = some 48)) : numberOf s = (0, 1) := by unfold numberOf; rw [if_pos h]
theorem numberOf_long {s : Str} (h : ¬ (areDigits s = false ∨ (1 < s.length ∧ s.head? = some 48))) (hl : 6 < s.length) : numberOf s = (0, 2) := by unfold numberOf; rw [if_neg h, if_pos hl]
theorem numberOf_ok {s : Str} (h : ¬ (areDigits s = false ∨ (1 < s.length ∧ s.head? = some 48))) (hl : ¬ 6 < s.length) : numberOf s = (decVal s, 0) := by unfold numberOf; rw [if_neg h, if_neg hl]
theorem number_text (ks : List Nat) (A : Nat → Addr) (s : ByteArray) (w : World) (hE : EnvP ks A w) (hs : s.size ≤ 4000000000) (hd : areDigits s.data.toList = false ∨ (areDigits s.data.toList = true ∧ 1 < s.data.toList.length ∧ s.data.toList.head? = some 48)) :
    Calls Tryz.prog 177 #[.string s] w fun e w' => e = .returned (.tuple #[.int .i64 0, errV A 1]) ∧ Below w.heap.size w w' := by
  rcases hd with hd | ⟨hd, hl, h0⟩
  · have HD := Lib.hid hd
    clear hd
    go_enter Tryz.func177, Tryz.ntmps177
    go_wp2_with fail
    refine (digits_calls _ _ hs).mono ?_
    rintro e w1 ⟨rfl, hb1⟩
    rw [HD.out]
    have hE1 := (hE.below hb1).errs.var 1 hE.has.1
    simp only [errG] at hE1
    go_wp2_with fail
    go_quiet (fail)
    go_wp2_with fail
    go_ret2
    exact ⟨rfl, Below.drewN hb1 _⟩
  · have HD := Lib.hid hd
    have hl' : 1 < s.size := by rw [size_eq]; exact hl
    have h0' : (s[0]'(by omega)) = 48 := by
      cases hsd : s.data.toList with
      | nil => rw [hsd] at hl; simp at hl
      | cons c r =>
        rw [hsd] at h0
        simp at h0
        have : s.data.toList[0]? = some 48 := by rw [hsd, h0]; rfl
        have h2 : s.data.toList[0]? = some (s[0]'(by omega)) := by
          rw [List.getElem?_eq_getElem (by rw [← size_eq]; omega)]; rfl
        rw [h2] at this
        exact Option.some.inj this
    have h0'' : ((s[0]'(by omega)).toNat : Int) = 48 := by rw [h0']; rfl
    clear hd hl h0 h0'
    go_enter Tryz.func177, Tryz.ntmps177
    go_wp2_with fail
    refine (digits_calls _ _ hs).mono ?_
    rintro e w1 ⟨rfl, hb1⟩
    rw [HD.out]
    have hE1 := (hE.below hb1).errs.var 1 hE.has.1
    simp only [errG] at hE1
    go_wp2_with fail
    go_quiet (fail)
    go_wp2_with fail
    go_ret2
    exact ⟨rfl, Below.drewN hb1 _⟩
set_option maxHeartbeats 400000 in
theorem number_long (ks : List Nat) (A : Nat → Addr) (s : ByteArray) (w : World) (hE : EnvP ks A w) (hs : s.size ≤ 4000000000) (hd : areDigits s.data.toList = true) (hz : ¬ (1 < s.data.toList.length ∧ s.data.toList.head? = some 48)) (h6 : 6 < s.size) :
    Calls Tryz.prog 177 #[.string s] w fun e w' => e = .returned (.tuple #[.int .i64 0, errV A 2]) ∧ Below w.heap.size w w' := by
  have HD := Lib.hid hd
  have hv := decVal_small hd hz
  rw [← size_eq] at hv
  have HS := Lib.hid hv
  have hne : 0 < s.size := by
    rw [size_eq]
    cases hsd : s.data.toList with
    | nil => rw [hsd] at hd; simp [areDigits] at hd
    | cons c r => simp
  have h01 : (1 < s.size ∧ (((s[0]'hne).toNat : Int) == 48) = false) ∨ ¬ 1 < s.size := by
    by_cases h1 : 1 < s.size
    · refine .inl ⟨h1, ?_⟩
      rw [beq_eq_false_iff_ne]
      intro e
      apply hz
      refine ⟨by rw [← size_eq]; exact h1, ?_⟩
      have h2 : s.data.toList[0]? = some (s[0]'hne) := by
        rw [List.getElem?_eq_getElem (by rw [← size_eq]; omega)]; rfl
      rw [List.head?_eq_getElem?, h2]
      have : (s[0]'hne).toNat = 48 := by exact_mod_cast e
      rw [show (48 : UInt8) = UInt8.ofNat 48 from rfl, ← this, UInt8.ofNat_toNat]
    · exact .inr h1
  clear hd hz hv
  obtain ⟨h1, h2⟩ := h01.resolve_right (by omega)
  all_goals
    go_enter Tryz.func177, Tryz.ntmps177
    go_wp2_with fail
    refine (digits_calls _ _ hs).mono ?_
    rintro e w1 ⟨rfl, hb1⟩
    rw [HD.out]
    have hEa := hE.below hb1
    go_wp2_with fail
    refine (atoi_calls ks A _ _ hEa hs HD.out).mono ?_
    rintro e w2 ⟨hr, hb2⟩
    have hE2 := (hEa.below hb2).errs.var 2 hE.has.2
    simp only [errG] at hE2
    rcases hr with ⟨x, te, pe, rfl, h7⟩ | rfl
    · go_wp2_with fail
      go_quiet (fail)
      go_wp2_with fail
      go_ret2
      exact ⟨rfl, Below.drewN (below_step hb1 hb2) _⟩
    · have hbig : 999999 < decVal s.data.toList := by
        rcases Nat.lt_or_ge 999999 (decVal s.data.toList) with h | h
        · exact h
        · have := HS.out.1 h
          omega
      generalize decVal s.data.toList = v at hbig ⊢
      go_wp2_with fail
      go_quiet (fail)
      go_wp2_with fail
      go_ret2
      exact ⟨rfl, Below.drewN (below_step hb1 hb2) _⟩
set_option maxHeartbeats 400000 in
theorem number_ok (ks : List Nat) (A : Nat → Addr) (s : ByteArray) (w : World) (hE : EnvP ks A w) (hs : s.size ≤ 4000000000) (hd : areDigits s.data.toList = true) (hz : ¬ (1 < s.data.toList.length ∧ s.data.toList.head? = some 48)) (h6 : ¬ 6 < s.size) :
    Calls Tryz.prog 177 #[.string s] w fun e w' => e = .returned (.tuple #[.int .i64 (decVal s.data.toList), errV A 0]) ∧ Below w.heap.size w w' := by
  have HD := Lib.hid hd
  have hv := decVal_small hd hz
  rw [← size_eq] at hv
  have HS := Lib.hid hv
  have hne : 0 < s.size := by
    rw [size_eq]
    cases hsd : s.data.toList with
    | nil => rw [hsd] at hd; simp [areDigits] at hd
    | cons c r => simp
  have h01 : (1 < s.size ∧ (((s[0]'hne).toNat : Int) == 48) = false) ∨ ¬ 1 < s.size := by
    by_cases h1 : 1 < s.size
    · refine .inl ⟨h1, ?_⟩
      rw [beq_eq_false_iff_ne]
      intro e
      apply hz
      refine ⟨by rw [← size_eq]; exact h1, ?_⟩
      have h2 : s.data.toList[0]? = some (s[0]'hne) := by
        rw [List.getElem?_eq_getElem (by rw [← size_eq]; omega)]; rfl
      rw [List.head?_eq_getElem?, h2]
      have : (s[0]'hne).toNat = 48 := by exact_mod_cast e
      rw [show (48 : UInt8) = UInt8.ofNat 48 from rfl, ← this, UInt8.ofNat_toNat]
    · exact .inr h1
  clear hd hz hv
  rcases h01 with ⟨h1, h2⟩ | h1
  all_goals
    go_enter Tryz.func177, Tryz.ntmps177
    go_wp2_with fail
    refine (digits_calls _ _ hs).mono ?_
    rintro e w1 ⟨rfl, hb1⟩
    rw [HD.out]
    have hEa := hE.below hb1
    go_wp2_with fail
    refine (atoi_calls ks A _ _ hEa hs HD.out).mono ?_
    rintro e w2 ⟨hr, hb2⟩
    have hE2 := (hEa.below hb2).errs.var 2 hE.has.2
    simp only [errG] at hE2
    rcases hr with ⟨x, te, pe, rfl, h7⟩ | rfl
    · exact absurd h7 h6
    · have hsm : decVal s.data.toList ≤ 999999 := HS.out.2 (by omega)
      go_wp2_with fail
      go_ret2
      exact ⟨rfl, below_step hb1 hb2⟩
theorem number_calls (ks : List Nat) (A : Nat → Addr) (s : ByteArray) (w : World) (hE : EnvP ks A w) (hs : s.size ≤ 4000000000) :
    Calls Tryz.prog 177 #[.string s] w fun e w' => e = .returned (.tuple #[.int .i64 ((numberOf s.data.toList).1 : Nat), errV A (numberOf s.data.toList).2]) ∧ Below w.heap.size w w' := by
  by_cases h : areDigits s.data.toList = false ∨ (1 < s.data.toList.length ∧ s.data.toList.head? = some 48)
  · rw [numberOf_text h]
    refine number_text ks A s w hE hs ?_
    cases hd : areDigits s.data.toList with
    | false => exact .inl rfl
    | true => exact .inr ⟨rfl, h.resolve_left (by rw [hd]; decide)⟩
  · have hd : areDigits s.data.toList = true := by simpa using fun e => h (.inl e)
    have hz : ¬ (1 < s.data.toList.length ∧ s.data.toList.head? = some 48) := fun e => h (.inr e)
    by_cases hl : 6 < s.data.toList.length
    · rw [numberOf_long h hl]
      exact number_long ks A s w hE hs hd hz (by rw [size_eq]; exact hl)
    · rw [numberOf_ok h hl]
      exact number_ok ks A s w hE hs hd hz (by rw [size_eq]; exact hl)
theorem worse_calls (ks : List Nat) (A : Nat → Addr) (i j : Nat) (w : World) (hE : EnvP ks A w) (hi : i = 0 ∨ i ∈ ks) :
    Calls Tryz.prog 178 #[errV A i, errV A j] w fun e w' => e = .returned (errV A (worseN i j)) ∧ w = w' := by
  have hT := hE.errs.var 1 hE.has.1
  simp only [errG] at hT
  obtain ⟨i0, hi0, hcmp⟩ := Option.map_eq_some_iff.1 Tryz.err_comp
  obtain ⟨j0, hj0, hjs⟩ := Option.map_eq_some_iff.1 Tryz.err_size
  by_cases hi1 : i = 1
  · subst hi1
    have hw : worseN 1 j = 1 := by simp [worseN]
    rw [hw, errV_pos A (c := 1) (by decide)]
    have heq := run_eql_iface_ptr_same (P := Tryz.prog) w (A 1) Tryz.underlying29 Tryz.underlying271 hi0 hcmp hj0
    clear hw
    go_enter Tryz.func178, Tryz.ntmps178
    go_wp2_with fail
    go_ret
    exact ⟨rfl, rfl⟩
  · by_cases h0 : i = 0
    · subst h0
      have hw : worseN 0 j = j := by unfold worseN; split <;> simp_all
      rw [hw, errV_zero]
      have heq := run_eql_iface_nil_left (P := Tryz.prog) w 271 (.pointer (some (A 1))) Tryz.underlying29
      clear hw hi1 hi
      by_cases hj1 : j = 0
      · subst hj1
        rw [errV_zero]
        go_enter Tryz.func178, Tryz.ntmps178
        go_wp2_with fail
        go_ret
        exact ⟨rfl, rfl⟩
      · rw [errV_pos A hj1]
        clear hj1
        go_enter Tryz.func178, Tryz.ntmps178
        go_wp2_with fail
        go_ret
        exact ⟨rfl, rfl⟩
    · have hik := hi.resolve_left h0
      obtain ⟨ca, ta, ha⟩ := hE.errs.row i hik
      obtain ⟨cb, tb, hb⟩ := hE.errs.row 1 hE.has.1
      have heq := run_eql_iface_ptr_other (P := Tryz.prog) w Tryz.underlying29 Tryz.underlying271 hi0 hcmp hj0 (by rw [hjs]; decide) (fun e => hi1 (hE.errs.inj _ hik _ hE.has.1 e)) ha hb
      by_cases hj1 : j = 0
      · subst hj1
        have hw : worseN i 0 = i := by simp [worseN]
        rw [hw, errV_zero, errV_pos A h0]
        clear hw h0 hi1 hi
        go_enter Tryz.func178, Tryz.ntmps178
        go_wp2_with fail
        go_ret
        exact ⟨rfl, rfl⟩
      · have hw : worseN i j = j := by simp [worseN, hi1, hj1]
        rw [hw, errV_pos A h0, errV_pos A hj1]
        clear hw h0 hi1 hi hj1
        go_enter Tryz.func178, Tryz.ntmps178
        go_wp2_with fail
        go_ret
        exact ⟨rfl, rfl⟩
theorem partErr_text {s : Str} (h : s = [] ∨ 8 < s.length ∨ s.all isPartByte = false) : partErr s = 1 := by unfold partErr; rw [if_pos h]
set_option maxHeartbeats 400000 in
theorem part_calls (ks : List Nat) (A : Nat → Addr) (s : ByteArray) (w : World) (hE : EnvP ks A w) (hs : s.size ≤ 4000000000) :
    Calls Tryz.prog 179 #[.string s] w fun e w' => e = .returned (errV A (partErr s.data.toList)) ∧ Below w.heap.size w w' := by
  have hT := hE.errs.var 1 hE.has.1
  simp only [errG] at hT
  have HP := Lib.hid (trimS_nil_bool s.data.toList partSet isPartByte partSet_ok)
  have hsz := size_eq s
  by_cases he : s.data.toList = []
  · rw [partErr_text (.inl he), errV_pos A (c := 1) (by decide)]
    have h1 : s.toList.isEmpty = true := by rw [isEmpty_toList, he]; rfl
    have h2 : s.toList = [] := by simpa using h1
    clear he hsz
    go_enter Tryz.func179, Tryz.ntmps179
    go_wp2_with fail
    go_ret
    exact ⟨rfl, Below.refl _ _⟩
  · have h1 : s.toList.isEmpty = false := by rw [isEmpty_toList]; simpa using he
    have h2 : (s.toList == []) = false := by simpa using h1
    by_cases hl : 8 < s.size
    · rw [partErr_text (.inr (.inl (by rw [← hsz]; exact hl))), errV_pos A (c := 1) (by decide)]
      clear he hsz
      go_enter Tryz.func179, Tryz.ntmps179
      go_wp2_with fail
      go_ret
      exact ⟨rfl, Below.refl _ _⟩
    · have HL := Lib.hid hsz
      have HE := Lib.hid he
      clear hsz he
      cases ha : s.data.toList.all isPartByte with
      | false =>
        rw [partErr_text (.inr (.inr ha)), errV_pos A (c := 1) (by decide)]
        have e1 : (trimS s.data.toList partSet == []) = false := by rw [HP.out, ha]
        clear ha
        go_enter Tryz.func179, Tryz.ntmps179
        go_wp2_with fail
        refine (trim_calls _ _ _ hs (by decide) (by decide)).mono ?_
        rintro e w1 ⟨rfl, hb1⟩
        have hT1 := Below.cell_some hb1 hT
        rw [show (⟨#[97, 98, 99, 100, 101, 102, 103, 104, 105, 106, 107, 108, 109, 110, 111, 112, 113, 114, 115, 116, 117, 118, 119, 120, 121, 122, 65, 66, 67, 68, 69, 70, 71, 72, 73, 74, 75, 76, 77, 78, 79, 80, 81, 82, 83, 84, 85, 86, 87, 88, 89, 90, 48, 49, 50, 51, 52, 53, 54, 55, 56, 57, 45]⟩ : ByteArray).data.toList = partSet from rfl]
        generalize trimS s.data.toList partSet = t at e1 ⊢
        have e2 : (⟨t.toArray⟩ : ByteArray).toList.isEmpty = false := by rw [toList_mk]; simpa using e1
        have e3 : t.isEmpty = false := by simpa using e1
        clear e1 hT
        go_wp2_with fail
        go_ret
        exact ⟨rfl, hb1⟩
      | true =>
        have e1 : trimS s.data.toList partSet = [] := by
          have := HP.out
          rw [ha] at this
          exact beq_iff_eq.1 this
        have hpe : partErr s.data.toList = if areDigits s.data.toList then (numberOf s.data.toList).2 else 0 := by
          unfold partErr
          rw [if_neg]
          rintro (h | h | h)
          · exact HE.out h
          · rw [← HL.out] at h; exact hl h
          · rw [ha] at h; exact absurd h (by decide)
        rw [hpe]
        clear hpe ha
        generalize hc : (if areDigits s.data.toList then (numberOf s.data.toList).2 else 0) = c
        have HC := Lib.hid hc
        clear hc
        have E1 := Lib.hid e1
        clear e1
        go_enter Tryz.func179, Tryz.ntmps179
        go_wp2_with fail
        refine (trim_calls _ _ _ hs (by decide) (by decide)).mono ?_
        rintro e w1 ⟨rfl, hb1⟩
        rw [show (⟨#[97, 98, 99, 100, 101, 102, 103, 104, 105, 106, 107, 108, 109, 110, 111, 112, 113, 114, 115, 116, 117, 118, 119, 120, 121, 122, 65, 66, 67, 68, 69, 70, 71, 72, 73, 74, 75, 76, 77, 78, 79, 80, 81, 82, 83, 84, 85, 86, 87, 88, 89, 90, 48, 49, 50, 51, 52, 53, 54, 55, 56, 57, 45]⟩ : ByteArray).data.toList = partSet from rfl, E1.out]
        go_wp2_with fail
        refine (digits_calls _ _ hs).mono ?_
        rintro e w2 ⟨rfl, hb2⟩
        cases hd : areDigits s.data.toList with
        | false =>
          obtain rfl : c = 0 := by have := HC.out; rw [hd] at this; exact this.symm
          clear hd
          go_wp2_with fail
          go_ret
          exact ⟨rfl, below_step hb1 hb2⟩
        | true =>
          obtain rfl : c = (numberOf s.data.toList).2 := by have := HC.out; rw [hd] at this; exact this.symm
          clear hd
          go_wp2_with fail
          refine (number_calls ks A _ _ ((hE.below hb1).below hb2) hs).mono ?_
          rintro e w3 ⟨rfl, hb3⟩
          go_wp2_with fail
          go_ret
          exact ⟨rfl, below_step (below_step hb1 hb2) hb3⟩
end Go.Proofs.Pw

namespace Go.Proofs.Pw
open Go.RowKit
open Go.Lib hiding intOf
theorem contains_calls (s sub : ByteArray) (w : World) (hE : EnvM w) (hs : s.size ≤ 4000000000) :
    Calls Tryz.prog 175 #[.string s, .string sub] w fun e w' => e = .returned (.bool (Lib.contains s.data.toList sub.data.toList)) ∧ w = w' := by
  obtain ⟨m, hm⟩ := hE.maxLen
  exact (Tryz.strings_Contains s sub m w (by omega) hm).mono fun e w' ⟨h, h2⟩ => ⟨h, h2.symm⟩
theorem cutPrefix_calls (s p : ByteArray) (w : World) :
    Calls Tryz.prog 170 #[.string s, .string p] w fun e w' => e = .returned (.tuple #[.string ⟨(Lib.trimPrefix s.data.toList p.data.toList).toArray⟩, .bool (Lib.hasPrefix s.data.toList p.data.toList)]) ∧ w = w' :=
  (Tryz.strings_CutPrefix s p w).mono fun _ _ ⟨h, h2⟩ => ⟨h, h2.symm⟩
theorem split_calls (s sep : ByteArray) (w : World) (hE : EnvM w) (hs : s.size ≤ 4000000000) (h1 : 1 ≤ sep.size) :
    Calls Tryz.prog 124 #[.string s, .string sep] w fun e w' => ∃ n, e = .returned (.slice (some ⟨w.heap.size, 0, none⟩) n n) ∧ 1 ≤ n ∧ n ≤ s.size + 1 ∧
      Hid (lstF n (splitL s sep) = split s.data.toList sep.data.toList) ∧ Below w.heap.size w w' ∧ (∀ j, j < n → w'.cell? ⟨w.heap.size, j, none⟩ = some (.string (splitL s sep j))) ∧ w.heap.size < w'.heap.size := by
  obtain ⟨m, hm⟩ := hE.maxLen
  refine (Tryz.strings_Split s sep m w (by omega) hm h1).mono fun e w' ⟨h, h2⟩ => ?_
  refine ⟨_, h, by omega, by have := countB_le sep h1 s.size s (Nat.le_refl _); omega, splitL_lstF s sep h1, h2 ▸ below_alloc _ _, ?_, by rw [h2]; simp⟩
  intro j hj
  have hl := splitB_all sep h1 0 _ s rfl
  rw [h2, World.cell?_alloc_at _ _ _ _ rfl]
  simp only [List.getElem?_toArray, List.getElem?_map, splitL]
  rw [List.getElem?_eq_getElem (by omega)]
  simp [List.getD_eq_getElem?_getD, List.getElem?_eq_getElem (show j < (splitB sep 0 (countB s sep) s).length by omega)]
end Go.Proofs.Pw

namespace Go.Proofs.Pw
open Go.RowKit
open Go.Lib hiding intOf
theorem cut_calls (s sep : ByteArray) (w : World) (hE : EnvM w) (hs : s.size ≤ 4000000000) :
    Calls Tryz.prog 176 #[.string s, .string sep] w fun e w' => e = .returned (.tuple #[.string ⟨(Lib.cut s.data.toList sep.data.toList).1.toArray⟩, .string ⟨(Lib.cut s.data.toList sep.data.toList).2.1.toArray⟩, .bool (Lib.cut s.data.toList sep.data.toList).2.2]) ∧ Below w.heap.size w w' := by
  obtain ⟨m, hm⟩ := hE.maxLen
  refine (Tryz.strings_Cut s sep m w (by omega) hm).mono ?_
  rintro e w' ⟨rfl, n, rfl⟩
  exact ⟨rfl, Below.drewN (Below.refl _ _) _⟩
theorem cut_le (s sep : Str) : (cut s sep).1.length ≤ s.length ∧ (cut s sep).2.1.length ≤ s.length := by
  unfold cut
  split
  · exact ⟨by simp [List.length_take]; omega, by simp⟩
  · exact ⟨Nat.le_refl _, by simp⟩
def StrsAt (w : World) (v : Value) (l : List Str) : Prop :=
  ∃ a n cap L, v = .slice a n cap ∧ l = lstF n L ∧ n ≤ cap ∧ cap ≤ 9223372036854775807 ∧ ∀ j, j < n → ∃ b o, a = some ⟨b, o, none⟩ ∧ w.cell? ⟨b, o + j, none⟩ = some (.string (L j))
theorem StrsAt.below {w w' : World} {v : Value} {l : List Str} (h : StrsAt w v l) (hb : Below w.heap.size w w') : StrsAt w' v l := by
  obtain ⟨a, n, cap, L, h1, h2, h3, h4, h5⟩ := h
  exact ⟨a, n, cap, L, h1, h2, h3, h4, fun j hj => let ⟨b, o, e1, e2⟩ := h5 j hj; ⟨b, o, e1, Below.cell_some hb e2⟩⟩
theorem StrsAt.nil (w : World) : StrsAt w (.slice none 0 0) [] := ⟨none, 0, 0, fun _ => ByteArray.empty, rfl, rfl, Nat.le_refl _, by decide, fun j hj => absurd hj (Nat.not_lt_zero _)⟩
structure Box4 (w : World) (b : Nat) (v0 v1 v2 v3 : Value) : Prop where
  c0 : w.cell? ⟨b, 0, none⟩ = some v0
  c1 : w.cell? ⟨b, 1, none⟩ = some v1
  c2 : w.cell? ⟨b, 2, none⟩ = some v2
  c3 : w.cell? ⟨b, 3, none⟩ = some v3
  fr : ∀ j, w.frozen? ⟨b, j, none⟩ = false
theorem Box4.below {w w' : World} {b : Nat} {v0 v1 v2 v3 : Value} (h : Box4 w b v0 v1 v2 v3) (hb : Below w.heap.size w w') : Box4 w' b v0 v1 v2 v3 :=
  ⟨Below.cell_some hb h.c0, Below.cell_some hb h.c1, Below.cell_some hb h.c2, Below.cell_some hb h.c3, fun j => (hb.frozen (p := ⟨b, j, none⟩) (show b < w.heap.size from lt_of_cell h.c0)).trans (h.fr j)⟩
theorem box4_alloc (w : World) (v0 v1 v2 v3 : Value) (t : TypeId) : Box4 (w.alloc (.cells #[v0, v1, v2, v3] t)) w.heap.size v0 v1 v2 v3 :=
  ⟨by simp, by simp, by simp, by simp, fun j => by simp⟩
set_option maxHeartbeats 1000000 in
theorem verSplit_form (ks : List Nat) (A : Nat → Addr) (s : ByteArray) (w : World) (hE : EnvP ks A w) (hs : s.size ≤ 1000000000) (hf : hasPrefix s.data.toList [118] = false ∨ (hasPrefix s.data.toList [118] = true ∧ (verWords s.data.toList).length ≠ 3)) :
    Calls Tryz.prog 130 #[.string s] w fun e w' => e = .returned (.tuple #[.agg #[.int .i64 0, .int .i64 0, .int .i64 0, .slice none 0 0], errV A 1]) ∧ Below w.heap.size w w' := by
  have ht : (trimPrefix s.data.toList [118]).length ≤ s.size := by rw [size_eq s]; exact trimPrefix_le _ _
  have hc1 := (cut_le (trimPrefix s.data.toList [118]) [45]).1
  have ht4 : (⟨(trimPrefix s.data.toList [118]).toArray⟩ : ByteArray).size ≤ 4000000000 := Nat.le_trans ht (by omega)
  have hc4 : (⟨(cut (trimPrefix s.data.toList [118]) [45]).1.toArray⟩ : ByteArray).size ≤ 4000000000 := Nat.le_trans hc1 (Nat.le_trans ht (by omega))
  have h5 : ∀ n, (Hid (lstF n (splitL ⟨(cut (trimPrefix s.data.toList [118]) [45]).1.toArray⟩ ⟨#[46]⟩) = split (cut (trimPrefix s.data.toList [118]) [45]).1 [46])) → n = (verWords s.data.toList).length := fun n h => by
    have := congrArg List.length h.out
    rw [lstF_length] at this
    exact this
  have hgo : (hasPrefix s.data.toList [118] = false ∨ (hasPrefix s.data.toList [118] = true ∧ (((verWords s.data.toList).length : Nat) : Int) ≠ 3)) := by
    rcases hf with hf | ⟨hf, hl⟩
    · exact .inl hf
    · exact .inr ⟨hf, by omega⟩
  clear hf
  rcases hgo with hf | ⟨hf, hl⟩
  all_goals
    go_enter Tryz.func130, Tryz.ntmps130
    go_wp2_with fail
    have hb0 := below_alloc w (.cells #[.int .i64 0, .int .i64 0, .int .i64 0, .slice none 0 0] 143)
    refine (cutPrefix_calls _ _ _).mono ?_
    rintro e w1 ⟨rfl, hw1⟩
    subst hw1
    rw [show (⟨#[118]⟩ : ByteArray).data.toList = [118] from rfl, hf]
    have hE0 := hE.below hb0
    go_wp2_with fail
    refine (cut_calls _ _ _ hE0.m ht4).mono ?_
    rintro e w2 ⟨rfl, hb1⟩
    have hE1 := hE0.below hb1
    have hb01 := below_step hb0 hb1
    have hz0 := (box4_alloc w (.int .i64 0) (.int .i64 0) (.int .i64 0) (.slice none 0 0) 143).below hb1
    go_wp2_with fail
    refine (split_calls _ ⟨#[46]⟩ _ hE1.m hc4 (by decide)).mono ?_
    rintro e w3 ⟨n, rfl, hn1, hn2, HL, hb2, hc2, hz2⟩
    have hn := h5 n HL
    have hE2 := hE1.below hb2
    have hb02 := below_step hb01 hb2
    have hz2 := hz0.below hb2
    have g1 := hE2.errs.var 1 hE2.has.1
    simp only [errG] at g1
    have hn3 : n ≤ 1000000001 := Nat.le_trans hn2 (Nat.succ_le_succ (Nat.le_trans hc1 (Nat.le_trans ht hs)))
    try rw [← hn, ← beq_eq_false_iff_ne] at hl
    clear hn HL h5 hc2 hb1 hb2 hb01 hE0 hE1 hE2
    obtain ⟨z0, z1, z2, z3, zf⟩ := hz2
    have zf0 := zf 0
    have zf1 := zf 1
    have zf2 := zf 2
    have zf3 := zf 3
    clear zf
    have g0 := hE.errs.var 1 hE.has.1
    simp only [errG] at g0
    have hne : 4 ≠ w.heap.size := Nat.ne_of_lt (lt_of_cell g0)
    clear g0
    have hne' : w.heap.size ≠ 4 := hne.symm
    go_wp2_with fail
    go_region
    go_wp2_with fail
    have hne3 := hne
    refine bodyPost_ret (v := .tuple #[.agg #[.int .i64 0, .int .i64 0, .int .i64 0, .slice none 0 0], errV A 1]) (by simp [results, Tryz.results130, go_sem, *, errV]) rfl ⟨rfl, ?_⟩
    exact ((((hb02.setCell (Nat.le_refl _) _).setCell (Nat.le_refl _) _).setCell (Nat.le_refl _) _).setCell (Nat.le_refl _) _).drew
end Go.Proofs.Pw
