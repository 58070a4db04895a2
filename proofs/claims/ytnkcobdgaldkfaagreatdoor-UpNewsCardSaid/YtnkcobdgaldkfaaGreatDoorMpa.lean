/- Mp: walks and plain laws, joined: Math VerMath ModMath VerOrd VerTxt SortMath ModLaw World Mem FileMath FileLaw IdxMath GrMath MarksMath Ver Pat VerSplit VerLong Ver3 Mod ModPath. Conditions: at each theorem. -/
import Derived.Lib.SplitLaws
import Derived.Lib.Hide
import Derived.Lib.SlTrimSet
import Derived.Lib.AtoiAll
import Derived.Lib.ItoaNum
import Derived.Lib.LastIndexLaws
import Derived.Lib.Bytealg
import Derived.Lib.Join
import Derived.Lib.SlicesCompact
import Derived.Test.YtnkcobdgaldkfaaGreatDoorProg
import Derived.WalkKit
import Derived.WalkSmall
import Derived.Lib.LaidTab
import Derived.WalkLawsBesides
import Derived.WalkSpells
import Derived.Laws.StructEq
import Derived.RegionTactic
import Derived.BigRegion
import Derived.Test.YtnkcobdgaldkfaaGreatDoorShelf
import Derived.Stop.IfaceNil
import Derived.LaidEql
import Derived.Deep.QuietTactic
import Derived.BigQuiet
import Derived.Shelf.Strings.SlTrimAscii
import Derived.Lib.AppendIntMem

/- Plain mathematics on texts: splitting at dots, the pieces of a pattern. No program in sight. -/
namespace Go.Proofs.Pw
open Go.Lib hiding intOf

abbrev Str := List UInt8
/-- a module: its path, its version -/
abbrev Md := Str × Str

/-- what is left of a text behind pieces, each at its first place -/
def mids : List Str → Str → Option Str
  | [], s => some s
  | p :: r, s => if index s p < 0 then none else mids r (s.drop ((index s p).toNat + p.length))

/-- pat.matches -/
def pmatches : List Str → Str → Bool
  | [], _ => false
  | p :: r, s => hasPrefix s p &&
      (if r = [] then s.drop p.length == [] else
        match mids r.dropLast (s.drop p.length) with
        | none => false
        | some t => hasSuffix t (r.getLast?.getD []))

def dots : Str := [46, 46, 46]
def slashDots : Str := [47, 46, 46, 46]

/-- pat.Match -/
def pMatch (p s : Str) : Bool :=
  pmatches (split p dots) s || (hasSuffix p slashDots && pmatches (split (trimSuffix p slashDots) dots) s)

theorem split_none {s sub : Str} (h : index s sub = -1) : split s sub = [s] := by
  unfold split
  rw [count_miss h]
  rfl

theorem split_hit {s sub : Str} {i : Nat} (hs : sub ≠ []) (h : index s sub = i) :
    split s sub = s.take i :: split (s.drop (i + sub.length)) sub := by
  unfold split
  rw [count_hit hs h, Nat.add_comm 1, splitK]
  rw [if_neg (by rw [h]; simp), h]
  simp

theorem index_no {s sub : Str} (hs : sub ≠ []) (h : ∀ c, sub.head? = some c → c ∉ s) : index s sub = -1 := by
  cases sub with
  | nil => exact absurd rfl hs
  | cons c t =>
    have hc := h c rfl
    induction s with
    | nil => rfl
    | cons b l ih =>
      simp only [List.mem_cons, not_or] at hc
      unfold index
      rw [if_neg (by simp [List.isPrefixOf, hc.1]), ih (by intro d hd; simp at hd; subst hd; exact hc.2) hc.2]
      rfl

theorem index_at {a b sub : Str} (hs : sub ≠ []) (h : ∀ c, sub.head? = some c → c ∉ a) : index (a ++ sub ++ b) sub = a.length := by
  cases sub with
  | nil => exact absurd rfl hs
  | cons c t =>
    have hc := h c rfl
    refine index_first (by simp) (by simp [occAt]) ?_
    intro j hj
    simp only [occAt, List.append_assoc]
    rw [List.drop_append_of_le_length (Nat.le_of_lt hj), List.drop_eq_getElem_cons hj]
    simp only [List.cons_append, List.isPrefixOf]
    have : a[j] ≠ c := fun e => hc (e ▸ List.getElem_mem hj)
    simp [Ne.symm this]

theorem split_two {a b : Str} (ha : (46 : UInt8) ∉ a) (hb : (46 : UInt8) ∉ b) : split (a ++ dots ++ b) dots = [a, b] := by
  have h1 : index (a ++ dots ++ b) dots = a.length := index_at (by decide) (by intro c hc; simp [dots] at hc; subst hc; exact ha)
  rw [split_hit (by decide) h1]
  have h2 : (a ++ dots ++ b).drop (a.length + dots.length) = b := by
    rw [show a.length + dots.length = (a ++ dots).length by simp, List.drop_left]
  have h3 : (a ++ dots ++ b).take a.length = a := by rw [List.append_assoc, List.take_left]
  rw [h2, h3, split_none (index_no (by decide) (by intro c hc; simp [dots] at hc; subst hc; exact hb))]

theorem isSuffixOf_append (u b : Str) : hasSuffix (u ++ b) b = true := by
  unfold hasSuffix
  exact List.isSuffixOf_iff_suffix.2 ⟨u, rfl⟩
theorem isPrefixOf_append (u b : Str) : hasPrefix (b ++ u) b = true := by
  unfold hasPrefix
  exact List.isPrefixOf_iff_prefix.2 ⟨u, rfl⟩

theorem pmatches_two (a b u : Str) : pmatches [a, b] (a ++ u ++ b) = true := by
  simp only [pmatches, List.append_assoc, isPrefixOf_append, Bool.true_and, List.drop_left]
  simp [mids, isSuffixOf_append]

theorem pMatch_two {a b : Str} (u : Str) (ha : (46 : UInt8) ∉ a) (hb : (46 : UInt8) ∉ b) : pMatch (a ++ dots ++ b) (a ++ u ++ b) = true := by
  unfold pMatch
  rw [split_two ha hb, pmatches_two]
  rfl

theorem pMatch_any (s : Str) : pMatch dots s = true := by
  have := pMatch_two (a := []) (b := []) s (by simp) (by simp)
  simpa using this

theorem hasSuffix_contains {p sub d : Str} (h : hasSuffix p (d ++ sub) = true) : 0 ≤ index p sub := by
  unfold hasSuffix at h
  obtain ⟨t, ht⟩ := List.isSuffixOf_iff_suffix.1 h
  have hge := index_ge p sub
  rcases Int.lt_or_le (index p sub) 0 with hl | hl
  · exfalso
    have hm : index p sub = -1 := by omega
    clear hge hl h
    subst ht
    have key : ∀ (x : Str), index (x ++ sub) sub ≠ -1 := by
      intro x
      induction x with
      | nil => simp only [List.nil_append]; rw [index_self]; decide
      | cons b l ih =>
        simp only [List.cons_append]
        unfold index
        split
        · decide
        · rw [if_neg (by simpa using ih)]
          have := index_ge (l ++ sub) sub
          have := ih
          omega
    exact key (t ++ d) (by rw [List.append_assoc]; exact hm)
  · exact hl

theorem pMatch_plain {p : Str} (h : contains p dots = false) (s : Str) : pMatch p s = (s == p) := by
  have hi : index p dots = -1 := by
    have := index_ge p dots
    simp only [contains, decide_eq_false_iff_not] at h
    omega
  have hsuf : hasSuffix p slashDots = false := by
    cases e : hasSuffix p slashDots with
    | false => rfl
    | true =>
      have := hasSuffix_contains (d := [47]) (sub := dots) e
      omega
  unfold pMatch
  rw [split_none hi, hsuf]
  simp only [pmatches, ↓reduceIte, Bool.false_and, Bool.or_false]
  rw [Bool.eq_iff_iff]
  simp only [hasPrefix, Bool.and_eq_true, List.isPrefixOf_iff_prefix, beq_iff_eq]
  constructor
  · rintro ⟨⟨t, rfl⟩, h2⟩
    simp at h2
    simp [h2]
  · rintro rfl
    exact ⟨List.prefix_rfl, by simp⟩
def lstF (n : Nat) (L : Nat → ByteArray) : List Str := (List.range n).map fun j => (L j).data.toList
theorem lstF_length (n L) : (lstF n L).length = n := by simp [lstF]
theorem lstF_get (n L) (j : Nat) (h : j < n) : (lstF n L)[j]? = some (L j).data.toList := by simp [lstF, h]

theorem lstF_mids (n : Nat) (L) (k : Nat) (h : k < n - 2) : ((lstF n L).tail.dropLast).drop k = (L (1 + k)).data.toList :: ((lstF n L).tail.dropLast).drop (k + 1) := by
  have hl : k < ((lstF n L).tail.dropLast).length := by simp [lstF_length]; omega
  rw [List.drop_eq_getElem_cons hl]
  congr 1
  have : ((lstF n L).tail.dropLast)[k]? = some (L (1 + k)).data.toList := by
    rw [List.getElem?_dropLast, if_pos (by simp [lstF_length]; omega), List.getElem?_tail, lstF_get _ _ _ (by omega), Nat.add_comm]
  simpa [List.getElem?_eq_getElem hl] using this

theorem lstF_mids_end (n : Nat) (L) (h : 2 ≤ n) : ((lstF n L).tail.dropLast).drop (n - 2) = [] := by
  apply List.drop_eq_nil_of_le
  simp [lstF_length]; omega

theorem pmatches_lstF (n : Nat) (L) (s : Str) (h : 2 ≤ n) (hp : hasPrefix s (L 0).data.toList = true) :
    pmatches (lstF n L) s = match mids ((lstF n L).tail.dropLast) (trimPrefix s (L 0).data.toList) with
      | none => false
      | some t => hasSuffix t (L (n - 1)).data.toList := by
  have e : lstF n L = (L 0).data.toList :: (lstF n L).tail := by
    obtain ⟨m, rfl⟩ : ∃ m, n = m + 1 := ⟨n - 1, by omega⟩
    simp [lstF, List.range_succ_eq_map]
  have hne : (lstF n L).tail ≠ [] := by
    intro h0
    have := congrArg List.length h0
    simp [lstF_length] at this; omega
  have hlast : (lstF n L).tail.getLast?.getD [] = (L (n - 1)).data.toList := by
    rw [List.getLast?_eq_getElem?, List.getElem?_tail, List.length_tail, lstF_length, lstF_get _ _ _ (by omega)]
    simp only [Option.getD_some]
    congr 2
    congr 1
    omega
  have ht : trimPrefix s (L 0).data.toList = s.drop (L 0).data.toList.length := by unfold trimPrefix; rw [if_pos hp]
  generalize lstF n L = l at *
  rw [e, pmatches, hp, Bool.true_and, if_neg hne, ht]
  simp only [List.tail_cons, hlast]

theorem mids_hit {p : Str} {r : List Str} {s : Str} (h : ¬ index s p < 0) : mids (p :: r) s = mids r (s.drop ((index s p).toNat + p.length)) := by
  rw [mids, if_neg h]
theorem mids_miss {p : Str} {r : List Str} {s : Str} (h : index s p < 0) : mids (p :: r) s = none := by
  rw [mids, if_pos h]

theorem lstF_zero_not (n : Nat) (L) (s : Str) (h : 1 ≤ n) (hp : hasPrefix s (L 0).data.toList = false) : pmatches (lstF n L) s = false := by
  obtain ⟨m, rfl⟩ : ∃ m, n = m + 1 := ⟨n - 1, by omega⟩
  have e : lstF (m + 1) L = (L 0).data.toList :: (lstF (m + 1) L).tail := by simp [lstF, List.range_succ_eq_map]
  rw [e, pmatches, hp, Bool.false_and]
theorem lstF_one (L) (s : Str) (hp : hasPrefix s (L 0).data.toList = true) : pmatches (lstF 1 L) s = (trimPrefix s (L 0).data.toList == []) := by
  have ht : trimPrefix s (L 0).data.toList = s.drop (L 0).data.toList.length := by unfold trimPrefix; rw [if_pos hp]
  simp [lstF, pmatches, hp, ht]

/-- what strings.Split hands back, as a function of the place -/
def splitL (s sep : ByteArray) (j : Nat) : ByteArray := (splitB sep 0 (countB s sep) s).getD j ByteArray.empty
theorem splitL_lstF (s sep : ByteArray) (h1 : 1 ≤ sep.size) : lstF (countB s sep + 1) (splitL s sep) = split s.data.toList sep.data.toList := by
  unfold split
  rw [← splitB_data]
  have hl := splitB_all sep h1 0 _ s rfl
  apply List.ext_getElem
  · simp [lstF_length, hl]
  · intro i h1 h2
    simp only [lstF, List.getElem_map, List.getElem_range, splitL]
    simp only [List.length_map, hl] at h2
    rw [List.getD_eq_getElem?_getD, List.getElem?_eq_getElem (by omega), Option.getD_some]
end Go.Proofs.Pw

/- Plain mathematics of versions: digits, numbers, parts, versions, their order. No program in sight. -/
namespace Go.Proofs.Pw
open Go.Lib hiding intOf

def isDig (c : UInt8) : Bool := decide (48 ≤ c.toNat ∧ c.toNat ≤ 57)
def areDigits (s : Str) : Bool := !s.isEmpty && s.all isDig
def decVal (s : Str) : Nat := s.foldl (fun n c => 10 * n + (c.toNat - 48)) 0

/-- ver.number: the number, the error's number -/
def numberOf (s : Str) : Nat × Nat :=
  if areDigits s = false ∨ (1 < s.length ∧ s.head? = some 48) then (0, 1)
  else if 6 < s.length then (0, 2) else (decVal s, 0)

def isLetter (c : UInt8) : Bool := decide ((97 ≤ c.toNat ∧ c.toNat ≤ 122) ∨ (65 ≤ c.toNat ∧ c.toNat ≤ 90))
def isPartByte (c : UInt8) : Bool := isDig c || isLetter c || c == 45

/-- ver.part: the error's number -/
def partErr (s : Str) : Nat :=
  if s = [] ∨ 8 < s.length ∨ s.all isPartByte = false then 1
  else if areDigits s then (numberOf s).2 else 0

/-- worse of two error numbers: 1 ahead of 2 ahead of 0 -/
def worseN (a b : Nat) : Nat := if a = 1 ∨ b = 0 then a else b

/-! ### trims -/

theorem dropWhile_eq_nil {p : UInt8 → Bool} : ∀ l : Str, l.dropWhile p = [] ↔ ∀ c ∈ l, p c = true
  | [] => by simp
  | c :: r => by
    by_cases h : p c
    · simp [h, dropWhile_eq_nil r]
    · simp [h]

theorem trimS_nil (l cs : Str) : trimS l cs = [] ↔ ∀ c ∈ l, cs.contains c = true := by
  have key : ∀ m : Str, trimRightS m cs = [] ↔ ∀ c ∈ m, cs.contains c = true := fun m => by
    unfold trimRightS
    rw [List.reverse_eq_nil_iff, dropWhile_eq_nil]
    simp
  constructor
  · intro h
    unfold trimS trimLeftS at h
    rw [dropWhile_eq_nil] at h
    -- what trimRightS leaves has a last byte outside, unless it is empty
    have hr : trimRightS l cs = [] := by
      rcases List.eq_nil_or_concat (trimRightS l cs) with h0 | ⟨m, b, hb⟩
      · exact h0
      · exfalso
        have h1 := h b (by rw [hb]; simp)
        have h2 : (trimRightS l cs).reverse = (l.reverse.dropWhile (cs.contains ·)) := by unfold trimRightS; rw [List.reverse_reverse]
        rw [hb] at h2
        simp only [List.concat_eq_append, List.reverse_append, List.reverse_cons, List.reverse_nil, List.nil_append, List.singleton_append] at h2
        have h3 := List.head?_dropWhile_not (cs.contains ·) l.reverse
        rw [← h2] at h3
        simp only [List.head?_cons] at h3
        rw [h1] at h3
        exact absurd h3 (by decide)
    exact (key l).1 hr
  · intro h
    unfold trimS
    rw [(key l).2 h]
    rfl

theorem trimS_nil_bool (l cs : Str) (p : UInt8 → Bool) (hp : ∀ c, cs.contains c = p c) : (trimS l cs == []) = l.all p := by
  rw [Bool.eq_iff_iff, beq_iff_eq, trimS_nil, List.all_eq_true]
  constructor
  · intro h c hc; rw [← hp]; exact h c hc
  · intro h c hc; rw [hp]; exact h c hc

theorem byte_cases (P : UInt8 → Prop) (h : ∀ n, n < 256 → P (UInt8.ofNat n)) (c : UInt8) : P c := by
  have := h c.toNat c.toNat_lt
  rwa [UInt8.ofNat_toNat] at this

def digitsSet : Str := [48, 49, 50, 51, 52, 53, 54, 55, 56, 57]
theorem digitsSet_ok : ∀ c : UInt8, digitsSet.contains c = isDig c := by
  apply byte_cases
  decide +kernel

def partSet : Str := [97, 98, 99, 100, 101, 102, 103, 104, 105, 106, 107, 108, 109, 110, 111, 112, 113, 114, 115, 116, 117, 118, 119, 120, 121, 122, 65, 66, 67, 68, 69, 70, 71, 72, 73, 74, 75, 76, 77, 78, 79, 80, 81, 82, 83, 84, 85, 86, 87, 88, 89, 90, 48, 49, 50, 51, 52, 53, 54, 55, 56, 57, 45]
theorem partSet_ok : ∀ c : UInt8, partSet.contains c = isPartByte c := by
  apply byte_cases
  decide +kernel

/-! ### numbers -/
theorem decVal_snoc (l : Str) (c : UInt8) : decVal (l ++ [c]) = 10 * decVal l + (c.toNat - 48) := by simp [decVal]

theorem dig_lt {c : UInt8} (h : isDig c = true) : c.toNat - 48 ≤ 9 ∧ 48 ≤ c.toNat := by
  unfold isDig at h
  have := of_decide_eq_true h
  omega

theorem foldl_dec (l : Str) : ∀ n : Nat, l.foldl (fun n c => 10 * n + (c.toNat - 48)) n = n * 10 ^ l.length + decVal l := by
  induction l with
  | nil => intro n; simp [decVal]
  | cons c r ih =>
    intro n
    simp only [List.foldl_cons, decVal, List.length_cons]
    rw [ih, ih (10 * 0 + _), Nat.pow_succ]
    have : (10 * n + (c.toNat - 48)) * 10 ^ r.length = n * (10 ^ r.length * 10) + (c.toNat - 48) * 10 ^ r.length := by
      rw [Nat.add_mul, Nat.mul_comm 10 n, Nat.mul_assoc, Nat.mul_comm 10]
    rw [this]
    simp only [Nat.mul_zero, Nat.zero_add]
    omega

theorem decVal_cons (c : UInt8) (r : Str) : decVal (c :: r) = (c.toNat - 48) * 10 ^ r.length + decVal r := by
  simp only [decVal, List.foldl_cons]
  rw [foldl_dec]
  simp [decVal]

theorem decVal_lt : ∀ l : Str, l.all isDig = true → decVal l < 10 ^ l.length
  | [], _ => by simp [decVal]
  | c :: r, h => by
    simp only [List.all_cons, Bool.and_eq_true] at h
    have h1 := decVal_lt r h.2
    have h2 := (dig_lt h.1).1
    rw [decVal_cons, List.length_cons, Nat.pow_succ]
    have := Nat.mul_le_mul_right (10 ^ r.length) h2
    omega

theorem parseUint10_digits : ∀ (l : Str) (acc : Nat), l.all isDig = true → parseUint10 acc l = .range ∨ parseUint10 acc l = .ok (l.foldl (fun n c => 10 * n + (c.toNat - 48)) acc)
  | [], acc, _ => .inr rfl
  | c :: r, acc, h => by
    simp only [List.all_cons, Bool.and_eq_true] at h
    have hc : 48 ≤ c.toNat ∧ c.toNat ≤ 57 := of_decide_eq_true h.1
    rw [parseUint10, if_pos hc]
    split
    · exact .inl rfl
    · split
      · exact .inl rfl
      · have := parseUint10_digits r (acc * 10 + (c.toNat - 48)) h.2
        rw [Nat.mul_comm acc 10] at this ⊢
        exact this

theorem atoiAll_digits {s : Str} (h : areDigits s = true) : atoiAll s = .range ∨ atoiAll s = .ok (decVal s) := by
  unfold areDigits at h
  simp only [Bool.and_eq_true, Bool.not_eq_true'] at h
  cases s with
  | nil => simp at h
  | cons c r =>
    have hc : 48 ≤ c.toNat ∧ c.toNat ≤ 57 := by
      have := h.2
      simp only [List.all_cons, Bool.and_eq_true] at this
      exact of_decide_eq_true this.1
    unfold atoiAll
    simp only
    rw [if_neg (by omega)]
    unfold parseMag
    rw [if_neg (by simp)]
    rcases parseUint10_digits (c :: r) 0 h.2 with e | e
    · rw [e]; exact .inl rfl
    · rw [e]
      simp only
      split
      · exact .inl rfl
      · rw [if_neg (by omega), if_neg (by omega)]
        exact .inr rfl

theorem decVal_small {s : Str} (h : areDigits s = true) (hz : ¬ (1 < s.length ∧ s.head? = some 48)) : decVal s ≤ 999999 ↔ s.length ≤ 6 := by
  unfold areDigits at h
  simp only [Bool.and_eq_true, Bool.not_eq_true'] at h
  constructor
  · intro hv
    rcases Nat.lt_or_ge 6 s.length with hl | hl
    · exfalso
      cases s with
      | nil => simp at hl
      | cons c r =>
        have hc := h.2
        simp only [List.all_cons, Bool.and_eq_true] at hc
        have hd := of_decide_eq_true hc.1
        have hne : c ≠ 48 := fun e => hz ⟨by omega, by simp [e]⟩
        have hpos : 1 ≤ c.toNat - 48 := by
          rcases Nat.eq_or_lt_of_le hd.1 with e | e
          · exact absurd (UInt8.toNat_inj.1 (by simpa using e.symm)) hne
          · omega
        rw [decVal_cons] at hv
        have h6 : 6 ≤ r.length := by simp at hl; omega
        have := Nat.pow_le_pow_right (n := 10) (by decide) h6
        have h2 := Nat.mul_le_mul_right (10 ^ r.length) hpos
        omega
    · exact hl
  · intro hl
    have h1 := decVal_lt s h.2
    have := Nat.pow_le_pow_right (n := 10) (by decide) hl
    omega

theorem atoiAll_range_long {s : Str} (h : areDigits s = true) (hr : atoiAll s = .range) : 6 < s.length := by
  rcases Nat.lt_or_ge 6 s.length with hl | hl
  · exact hl
  · exfalso
    have h' := h
    unfold areDigits at h
    simp only [Bool.and_eq_true, Bool.not_eq_true'] at h
    have hv := decVal_lt s h.2
    have hp := Nat.pow_le_pow_right (n := 10) (by decide) hl
    have key : ∀ (l : Str) (acc : Nat), l.all isDig = true → acc * 10 ^ l.length + decVal l < 10 ^ 18 → parseUint10 acc l ≠ .range := by
      intro l
      induction l with
      | nil => intro acc _ _ e; cases e
      | cons c r ih =>
        intro acc hd hb
        simp only [List.all_cons, Bool.and_eq_true] at hd
        have hc : 48 ≤ c.toNat ∧ c.toNat ≤ 57 := of_decide_eq_true hd.1
        rw [decVal_cons, List.length_cons, Nat.pow_succ] at hb
        have hb2 : (acc * 10 + (c.toNat - 48)) * 10 ^ r.length + decVal r < 10 ^ 18 := by
          rw [Nat.add_mul, Nat.mul_assoc, Nat.mul_comm 10]; omega
        have hp1 : 1 ≤ 10 ^ r.length := Nat.one_le_pow _ _ (by decide)
        have hb3 : acc * 10 + (c.toNat - 48) < 10 ^ 18 := by
          have := Nat.mul_le_mul_left (acc * 10 + (c.toNat - 48)) hp1
          omega
        rw [parseUint10, if_pos hc, if_neg (by omega), if_neg (by omega)]
        exact ih _ hd.2 hb2
    unfold atoiAll at hr
    cases s with
    | nil => simp at h
    | cons c r =>
      have hc : 48 ≤ c.toNat ∧ c.toNat ≤ 57 := by
        have := h.2
        simp only [List.all_cons, Bool.and_eq_true] at this
        exact of_decide_eq_true this.1
      simp only at hr
      rw [if_neg (by omega)] at hr
      unfold parseMag at hr
      rw [if_neg (by simp)] at hr
      have hk := key (c :: r) 0 h.2 (by rw [Nat.zero_mul, Nat.zero_add]; omega)
      rcases parseUint10_digits (c :: r) 0 h.2 with e | e
      · exact hk e
      · rw [e] at hr
        simp only at hr
        have e2 : (c :: r).foldl (fun n c => 10 * n + (c.toNat - 48)) 0 = decVal (c :: r) := rfl
        rw [e2, if_neg (by omega), if_neg (by omega)] at hr
        cases hr

theorem numberOf_le (s : Str) : (numberOf s).1 ≤ 999999 ∧ (numberOf s).2 ≤ 2 := by
  unfold numberOf
  split
  · exact ⟨by decide, by decide⟩
  · split
    · exact ⟨by decide, by decide⟩
    · rename_i h1 h2
      refine ⟨?_, Nat.zero_le _⟩
      rw [not_or] at h1
      exact (decVal_small (by simpa using h1.1) h1.2).2 (by omega)

/-! ### versions -/
def numErrs (l : List Str) (b : Nat) : Nat := l.foldl (fun b w => worseN b (numberOf w).2) b
def partErrs (l : List Str) (b : Nat) : Nat := l.foldl (fun b w => worseN b (partErr w)) b

theorem worseN_le {a b : Nat} (ha : a ≤ 2) (hb : b ≤ 2) : worseN a b ≤ 2 := by unfold worseN; split <;> assumption
theorem partErr_le (s : Str) : partErr s ≤ 2 := by
  unfold partErr
  split
  · decide
  · split
    · exact (numberOf_le s).2
    · decide
theorem numErrs_le (l : List Str) : ∀ b, b ≤ 2 → numErrs l b ≤ 2 := by
  induction l with
  | nil => intro b hb; exact hb
  | cons c r ih => intro b hb; exact ih _ (worseN_le hb (numberOf_le c).2)
theorem partErrs_le (l : List Str) : ∀ b, b ≤ 2 → partErrs l b ≤ 2 := by
  induction l with
  | nil => intro b hb; exact hb
  | cons c r ih => intro b hb; exact ih _ (worseN_le hb (partErr_le c))
theorem numErrs_snoc (l : List Str) (w : Str) (b : Nat) : numErrs (l ++ [w]) b = worseN (numErrs l b) (numberOf w).2 := by simp [numErrs]
theorem partErrs_snoc (l : List Str) (w : Str) (b : Nat) : partErrs (l ++ [w]) b = worseN (partErrs l b) (partErr w) := by simp [partErrs]

theorem lstF_take_succ (n : Nat) (L : Nat → ByteArray) (k : Nat) (h : k < n) : (lstF n L).take (k + 1) = (lstF n L).take k ++ [(L k).data.toList] := by
  rw [List.take_add_one, lstF_get n L k h]
  rfl
theorem lstF_take_all (n : Nat) (L : Nat → ByteArray) : (lstF n L).take n = lstF n L := by
  conv => lhs; rw [← lstF_length n L]
  rw [lstF_length]
  exact List.take_of_length_le (by rw [lstF_length]; exact Nat.le_refl _)

/-- a text behind its v, its head's words, its pre's words (none: it has none) -/
def verWords (s : Str) : List Str := split (cut (trimPrefix s [118]) [45]).1 [46]
def verPres (s : Str) : List Str := if (cut (trimPrefix s [118]) [45]).2.2 then split (cut (trimPrefix s [118]) [45]).2.1 [46] else []
def verErrs (s : Str) : Nat :=
  let e := partErrs (verPres s) (numErrs (verWords s) 0)
  if 5 < (verPres s).length then worseN e 2 else e
/-- ver.Split: the error's number -/
def verErr (s : Str) : Nat := if hasPrefix s [118] = false ∨ (verWords s).length ≠ 3 then 1 else verErrs s
def verNum (s : Str) (i : Nat) : Nat := if verErr s = 0 then (numberOf ((verWords s).getD i [])).1 else 0
def verPre (s : Str) : List Str := if verErr s = 0 then verPres s else []

theorem verErrs_le (s : Str) : verErrs s ≤ 2 := by
  unfold verErrs
  have h := partErrs_le (verPres s) _ (numErrs_le (verWords s) 0 (by decide))
  split
  · exact worseN_le h (by decide)
  · exact h
theorem verErr_le (s : Str) : verErr s ≤ 2 := by
  unfold verErr
  split
  · decide
  · exact verErrs_le s
end Go.Proofs.Pw

/- Plain mathematics of modules: elements, suffixes, paths, modules. No program in sight. -/
namespace Go.Proofs.Pw
open Go.Lib hiding intOf

theorem isDig_ofNat {n : Nat} (h : n < 10) : isDig (UInt8.ofNat (48 + n)) = true ∧ (UInt8.ofNat (48 + n)).toNat = 48 + n := by
  have : (UInt8.ofNat (48 + n)).toNat = 48 + n := by simp; omega
  exact ⟨by unfold isDig; rw [this]; simp; omega, this⟩

theorem decDigits_decVal : ∀ (k : Nat) (s : Str), s.length ≤ k → areDigits s = true → ¬ (1 < s.length ∧ s.head? = some 48) → decDigits (decVal s) = s
  | 0, s, hk, h, _ => by cases s with
    | nil => simp [areDigits] at h
    | cons c r => simp at hk
  | k + 1, s, hk, h, hz => by
    rcases List.eq_nil_or_concat s with rfl | ⟨l, c, rfl⟩
    · simp [areDigits] at h
    · rw [List.concat_eq_append] at *
      have hall : l.all isDig = true ∧ isDig c = true := by
        unfold areDigits at h
        simp only [List.all_append, Bool.and_eq_true, List.all_cons, List.all_nil, Bool.and_true] at h
        exact ⟨h.2.1, h.2.2⟩
      have hc := dig_lt hall.2
      have hcv : UInt8.ofNat (48 + (c.toNat - 48)) = c := by
        rw [show 48 + (c.toNat - 48) = c.toNat by omega, UInt8.ofNat_toNat]
      rw [decVal_snoc]
      cases l with
      | nil =>
        rw [show decVal [] = 0 from rfl, decDigits, dif_pos (by omega)]
        rw [Nat.mul_zero, Nat.zero_add, hcv]
        rfl
      | cons b r =>
        have hb : b ≠ 48 := fun e => hz ⟨by simp, by simp [e]⟩
        have hl : areDigits (b :: r) = true := by unfold areDigits; rw [hall.1]; rfl
        have ih := decDigits_decVal k (b :: r) (by simp at hk ⊢; omega) hl (by rintro ⟨_, h2⟩; simp at h2; exact hb h2)
        have hpos : 1 ≤ decVal (b :: r) := by
          rw [decVal_cons]
          have h1 := hall.1
          simp only [List.all_cons, Bool.and_eq_true] at h1
          have := dig_lt h1.1
          have hne : b.toNat ≠ 48 := fun e => hb (UInt8.toNat_inj.1 (by simpa using e))
          have hp : 1 ≤ 10 ^ r.length := Nat.one_le_pow _ _ (by decide)
          have := Nat.mul_le_mul (show 1 ≤ b.toNat - 48 by omega) hp
          omega
        rw [decDigits, dif_neg (by omega)]
        rw [show (10 * decVal (b :: r) + (c.toNat - 48)) / 10 = decVal (b :: r) by omega, show (10 * decVal (b :: r) + (c.toNat - 48)) % 10 = c.toNat - 48 by omega, ih, hcv]

theorem decDigits_ne_nil (u : Nat) : decDigits u ≠ [] := by
  rw [decDigits]; split
  · simp
  · simp
theorem decDigits_all (u : Nat) : (decDigits u).all isDig = true := by
  induction u using Nat.strongRecOn with
  | _ u ih =>
    rw [decDigits]
    split
    · rename_i h
      simp only [List.all_cons, List.all_nil, Bool.and_true]
      exact (isDig_ofNat h).1
    · rename_i h
      rw [List.all_append, ih (u / 10) (by omega)]
      simp only [List.all_cons, List.all_nil, Bool.and_true, Bool.true_and]
      exact (isDig_ofNat (by omega)).1
theorem decDigits_digits (u : Nat) : areDigits (decDigits u) = true := by
  unfold areDigits
  rw [decDigits_all]
  cases h : decDigits u with
  | nil => exact absurd h (decDigits_ne_nil u)
  | cons => rfl
theorem decDigits_head (u : Nat) : ¬ (1 < (decDigits u).length ∧ (decDigits u).head? = some 48) := by
  induction u using Nat.strongRecOn with
  | _ u ih =>
    rw [decDigits]
    split
    · simp
    · rename_i h
      rintro ⟨_, h2⟩
      rw [List.head?_append] at h2
      by_cases h10 : u / 10 < 10
      · rw [decDigits, dif_pos h10] at h2
        simp only [List.head?_cons, Option.some_or, Option.some.injEq] at h2
        have := congrArg UInt8.toNat h2
        rw [(isDig_ofNat h10).2] at this
        have h48 : (48 : UInt8).toNat = 48 := rfl
        omega
      · apply ih (u / 10) (by omega)
        constructor
        · rw [decDigits_length, nDigits_big h10]
          have := nDigits_pos (u / 10 / 10)
          omega
        · cases hd : (decDigits (u / 10)).head? with
          | none => rw [List.head?_eq_none_iff] at hd; exact absurd hd (decDigits_ne_nil _)
          | some b => rw [hd] at h2; simpa using h2
theorem decVal_decDigits (u : Nat) : decVal (decDigits u) = u := by
  induction u using Nat.strongRecOn with
  | _ u ih =>
    rw [decDigits]
    split
    · rename_i h
      simp only [decVal, List.foldl_cons, List.foldl_nil]
      rw [(isDig_ofNat h).2]; omega
    · rename_i h
      rw [decVal_snoc, ih (u / 10) (by omega), (isDig_ofNat (n := u % 10) (by omega)).2]
      omega
theorem itoa_decVal {s : Str} (h : areDigits s = true) : itoa ((decVal s : Nat) : Int) = s ↔ ¬ (1 < s.length ∧ s.head? = some 48) := by
  have e : itoa ((decVal s : Nat) : Int) = decDigits (decVal s) := by unfold itoa; rw [if_neg (by omega)]; simp
  rw [e]
  constructor
  · intro e2 hz
    have := decDigits_head (decVal s)
    rw [e2] at this
    exact this hz
  · exact decDigits_decVal s.length s (Nat.le_refl _) h

/-! ### elements -/
def isElemByte (c : UInt8) : Bool := decide (97 ≤ c.toNat ∧ c.toNat ≤ 122) || isDig c || c == 46 || c == 45 || c == 95
def elemSet : Str := [97, 98, 99, 100, 101, 102, 103, 104, 105, 106, 107, 108, 109, 110, 111, 112, 113, 114, 115, 116, 117, 118, 119, 120, 121, 122, 48, 49, 50, 51, 52, 53, 54, 55, 56, 57, 46, 45, 95]
theorem elemSet_ok : ∀ c : UInt8, elemSet.contains c = isElemByte c := by
  apply byte_cases
  decide +kernel
theorem dotSet_ok : ∀ c : UInt8, ([46] : Str).contains c = (c == 46) := by
  apply byte_cases
  decide +kernel
/-- mod.elem -/
def elemOk (s : Str) : Bool := !s.isEmpty && s.all isElemByte && !s.all (· == 46) && !contains s dots

/-- a suffix's digits -/
def sufD (s : Str) : Str := trimPrefix s [118]
def looksSuf (s : Str) : Bool := hasPrefix s [118] && areDigits (sufD s)
def isSuf (s : Str) : Bool := looksSuf s && decide ((numberOf (sufD s)).2 = 0 ∧ 2 ≤ (numberOf (sufD s)).1)
/-- mod.suffix: well -/
def sufWell (s : Str) : Bool := !looksSuf s || isSuf s
def sufNum (s : Str) : Nat := (numberOf (sufD s)).1

/-- mod.Path: the error's number -/
def pathErr (s : Str) : Nat :=
  let l := split s [47]
  if l.any (fun w => !elemOk w) then 1
  else if 5 < l.length ∨ l.any (fun w => decide (10 < w.length)) then 2
  else if 1 < l.length ∧ sufWell (l.getLast?.getD []) = false then 4 else 0
/-- mod.Split -/
def modSplit (s : Str) : Str × Nat :=
  if pathErr s ≠ 0 then ([], 0)
  else
    let l := lastIndex s [47]
    if l < 0 then (s, 0)
    else if isSuf (s.drop (l.toNat + 1)) then (s.take l.toNat, sufNum (s.drop (l.toNat + 1))) else (s, 0)
/-- mod.Check: the error's number -/
def modErr (p v : Str) : Nat :=
  if pathErr p ≠ 0 then pathErr p
  else if verErr v ≠ 0 then verErr v
  else if ((modSplit p).2 = 0 ∧ 1 < verNum v 0) ∨ (0 < (modSplit p).2 ∧ verNum v 0 ≠ (modSplit p).2) then 4 else 0
/-- mod.Text -/
def modText (p v : Str) : Str := if modErr p v = 0 then p ++ [64] ++ v else []
/-- mod.Read: path, version, the error's number -/
def modRead (s : Str) : Str × Str × Nat :=
  let l := split s [64]
  if l.length ≠ 2 then ([], [], 1)
  else
    let e := modErr (l.getD 0 []) (l.getD 1 [])
    if e ≠ 0 then ([], [], e) else (l.getD 0 [], l.getD 1 [], 0)

theorem pathErr_le (s : Str) : pathErr s ≤ 4 := by
  unfold pathErr
  simp only
  split
  · decide
  · split
    · decide
    · split <;> decide
end Go.Proofs.Pw

/- Plain mathematics of the order of versions: it is an order. No program in sight. -/
namespace Go.Proofs.Pw
open Go.Lib hiding intOf

def orI (a b : Int) : Int := if a = 0 then b else a
/-- ver.comparePart -/
def cmpPart (a b : Str) : Int :=
  if areDigits a && areDigits b then orI ((a.length : Int) - b.length) (compareBytes a b)
  else if areDigits a then -1 else if areDigits b then 1 else compareBytes a b
/-- slices.CompareFunc with it -/
def cmpList : List Str → List Str → Int
  | [], [] => 0
  | [], _ :: _ => -1
  | _ :: _, [] => 1
  | a :: r, b :: t => orI (cmpPart a b) (cmpList r t)
/-- ver.Compare -/
def verCmp (a b : Str) : Int :=
  let n := orI ((verNum a 0 : Int) - verNum b 0) (orI ((verNum a 1 : Int) - verNum b 1) ((verNum a 2 : Int) - verNum b 2))
  if n = 0 ∧ decide ((verPre a).length = 0) ≠ decide ((verPre b).length = 0) then ((verPre b).length : Int) - (verPre a).length
  else orI n (cmpList (verPre a) (verPre b))
/-- ver.Less -/
def verLess (a b : Str) : Bool := decide (verErr a = 0 ∧ verErr b = 0 ∧ verCmp a b < 0)

/-! ### orders -/
structure Ord3 {α : Type} (f : α → α → Int) : Prop where
  anti : ∀ a b, f a b < 0 ↔ 0 < f b a
  tr : ∀ a b c, f a b ≤ 0 → f b c ≤ 0 → f a c ≤ 0

section
variable {α β : Type} {f g : α → α → Int}
theorem Ord3.self (h : Ord3 f) (a : α) : f a a = 0 := by have := h.anti a a; omega
theorem Ord3.zero (h : Ord3 f) {a b : α} (e : f a b = 0) : f b a = 0 := by have := h.anti a b; have := h.anti b a; omega
theorem orI_le {a b : Int} : orI a b ≤ 0 ↔ a < 0 ∨ (a = 0 ∧ b ≤ 0) := by unfold orI; split <;> omega
theorem orI_lt {a b : Int} : orI a b < 0 ↔ a < 0 ∨ (a = 0 ∧ b < 0) := by unfold orI; split <;> omega
theorem orI_gt {a b : Int} : 0 < orI a b ↔ 0 < a ∨ (a = 0 ∧ 0 < b) := by unfold orI; split <;> omega
theorem orI_eq {a b : Int} : orI a b = 0 ↔ a = 0 ∧ b = 0 := by unfold orI; split <;> omega
theorem Ord3.or (hf : Ord3 f) (hg : Ord3 g) : Ord3 fun a b => orI (f a b) (g a b) := by
  refine ⟨fun a b => ?_, fun a b c h1 h2 => ?_⟩
  · have := hf.anti a b
    have := hf.anti b a
    have := hg.anti a b
    rw [orI_lt, orI_gt]
    omega
  · rw [orI_le] at *
    have a1 := hf.anti a b
    have a2 := hf.anti b a
    have a3 := hf.anti a c
    have a4 := hf.anti c a
    have a5 := hf.anti b c
    have a6 := hf.anti c b
    have t1 := hf.tr a b c
    have t2 := hf.tr b c a
    have t3 := hf.tr c a b
    have t4 := hg.tr a b c
    omega
theorem Ord3.comap (hf : Ord3 f) (k : β → α) : Ord3 fun a b => f (k a) (k b) := ⟨fun _ _ => hf.anti _ _, fun _ _ _ => hf.tr _ _ _⟩
theorem ord3_sub (k : α → Int) : Ord3 fun a b => k a - k b := ⟨fun a b => by omega, fun a b c => by omega⟩
theorem Ord3.sign (hg : Ord3 g) (h : ∀ a b, (f a b < 0 ↔ g a b < 0) ∧ (f a b = 0 ↔ g a b = 0)) : Ord3 f := by
  refine ⟨fun a b => ?_, fun a b c h1 h2 => ?_⟩
  · have := hg.anti a b
    have := h a b
    have := h b a
    omega
  · have := hg.tr a b c
    have := h a b
    have := h b c
    have := h a c
    omega

def lexI (f : α → α → Int) : List α → List α → Int
  | [], [] => 0
  | [], _ :: _ => -1
  | _ :: _, [] => 1
  | a :: r, b :: t => orI (f a b) (lexI f r t)
theorem lexI_anti (hf : Ord3 f) : ∀ a b : List α, lexI f a b < 0 ↔ 0 < lexI f b a
  | [], [] => by simp [lexI]
  | [], _ :: _ => by simp [lexI]
  | _ :: _, [] => by simp [lexI]
  | a :: r, b :: t => by
    have := lexI_anti hf r t
    have := hf.anti a b
    have := hf.anti b a
    rw [lexI, lexI, orI_lt, orI_gt]
    omega
theorem lexI_tr (hf : Ord3 f) : ∀ a b c : List α, lexI f a b ≤ 0 → lexI f b c ≤ 0 → lexI f a c ≤ 0
  | [], _, [] => by simp [lexI]
  | [], _, _ :: _ => by simp [lexI]
  | _ :: _, [], _ => by simp [lexI]
  | _ :: _, _ :: _, [] => by simp [lexI]
  | a :: r, b :: s, c :: t => by
    have := lexI_tr hf r s t
    rw [lexI, lexI, lexI, orI_le, orI_le, orI_le]
    have a1 := hf.anti a b
    have a2 := hf.anti b a
    have a3 := hf.anti a c
    have a4 := hf.anti c a
    have a5 := hf.anti b c
    have a6 := hf.anti c b
    have t1 := hf.tr a b c
    have t2 := hf.tr b c a
    have t3 := hf.tr c a b
    omega
theorem lexI_ord (hf : Ord3 f) : Ord3 (lexI f) := ⟨lexI_anti hf, lexI_tr hf⟩
theorem lexI_zero (hf : ∀ a b, f a b = 0 → a = b) : ∀ a b : List α, lexI f a b = 0 → a = b
  | [], [], _ => rfl
  | [], _ :: _, h => by simp [lexI] at h
  | _ :: _, [], h => by simp [lexI] at h
  | a :: r, b :: t, h => by
    rw [lexI, orI_eq] at h
    rw [hf a b h.1, lexI_zero hf r t h.2]
end

def byteCmp (a b : UInt8) : Int := if a < b then -1 else if b < a then 1 else 0
theorem byteCmp_ord : Ord3 byteCmp := by
  refine ⟨fun a b => ?_, fun a b c => ?_⟩
  · unfold byteCmp
    simp only [UInt8.lt_iff_toNat_lt]
    split <;> split <;> (try split) <;> omega
  · unfold byteCmp
    simp only [UInt8.lt_iff_toNat_lt]
    split <;> split <;> split <;> (try split) <;> (try split) <;> (try split) <;> omega
theorem byteCmp_zero (a b : UInt8) (h : byteCmp a b = 0) : a = b := by
  unfold byteCmp at h
  simp only [UInt8.lt_iff_toNat_lt] at h
  apply UInt8.toNat_inj.1
  split at h
  · omega
  · split at h <;> omega
theorem compareBytes_eq : ∀ a b : Str, compareBytes a b = lexI byteCmp a b
  | [], [] => rfl
  | [], _ :: _ => rfl
  | _ :: _, [] => rfl
  | a :: r, b :: t => by
    rw [compareBytes, lexI, compareBytes_eq r t]
    unfold byteCmp orI
    split
    · simp
    · split
      · simp
      · simp
theorem compareBytes_ord : Ord3 compareBytes := (lexI_ord byteCmp_ord).sign fun a b => by rw [compareBytes_eq]; exact ⟨Iff.rfl, Iff.rfl⟩
theorem compareBytes_zero {a b : Str} (h : compareBytes a b = 0) : a = b := lexI_zero byteCmp_zero a b (by rw [← compareBytes_eq]; exact h)
theorem compareBytes_zero_iff {a b : Str} : compareBytes a b = 0 ↔ a = b := ⟨compareBytes_zero, fun e => by subst e; exact compareBytes_ord.self a⟩

def ndig (s : Str) : Int := if areDigits s then 0 else 1
def dlen (s : Str) : Int := if areDigits s then s.length else 0
theorem cmpPart_eq (a b : Str) : cmpPart a b = orI (ndig a - ndig b) (orI (dlen a - dlen b) (compareBytes a b)) := by
  unfold cmpPart ndig dlen
  cases areDigits a <;> cases areDigits b <;> simp [orI]
theorem cmpPart_ord : Ord3 cmpPart :=
  ((ord3_sub ndig).or ((ord3_sub dlen).or compareBytes_ord)).sign fun a b => by rw [cmpPart_eq]; exact ⟨Iff.rfl, Iff.rfl⟩
theorem cmpPart_zero (a b : Str) (h : cmpPart a b = 0) : a = b := by
  rw [cmpPart_eq, orI_eq, orI_eq] at h
  exact compareBytes_zero h.2.2
theorem cmpList_eq : ∀ a b : List Str, cmpList a b = lexI cmpPart a b
  | [], [] => rfl
  | [], _ :: _ => rfl
  | _ :: _, [] => rfl
  | a :: r, b :: t => by rw [cmpList, lexI, cmpList_eq r t]
theorem cmpList_ord : Ord3 cmpList := (lexI_ord cmpPart_ord).sign fun a b => by rw [cmpList_eq]; exact ⟨Iff.rfl, Iff.rfl⟩
theorem cmpList_zero {a b : List Str} (h : cmpList a b = 0) : a = b := lexI_zero cmpPart_zero a b (by rw [← cmpList_eq]; exact h)

def preEnd (s : Str) : Int := if (verPre s).length = 0 then 1 else 0
def verNums (a b : Str) : Int := orI ((verNum a 0 : Int) - verNum b 0) (orI ((verNum a 1 : Int) - verNum b 1) ((verNum a 2 : Int) - verNum b 2))
def verKey (a b : Str) : Int := orI (verNums a b) (orI (preEnd a - preEnd b) (cmpList (verPre a) (verPre b)))
theorem verKey_ord : Ord3 verKey :=
  (((ord3_sub fun s => (verNum s 0 : Int)).or ((ord3_sub fun s => (verNum s 1 : Int)).or (ord3_sub fun s => (verNum s 2 : Int)))).or ((ord3_sub preEnd).or (cmpList_ord.comap verPre)))
theorem verCmp_eq (a b : Str) : verCmp a b = if verNums a b = 0 ∧ decide ((verPre a).length = 0) ≠ decide ((verPre b).length = 0) then ((verPre b).length : Int) - (verPre a).length else orI (verNums a b) (cmpList (verPre a) (verPre b)) := rfl
theorem verCmp_sign (a b : Str) : (verCmp a b < 0 ↔ verKey a b < 0) ∧ (verCmp a b = 0 ↔ verKey a b = 0) := by
  rw [verCmp_eq]
  unfold verKey preEnd
  generalize verNums a b = n
  generalize cmpList (verPre a) (verPre b) = c
  generalize (verPre a).length = x
  generalize (verPre b).length = y
  by_cases hn : n = 0
  · subst hn
    by_cases hx : x = 0
    · by_cases hy : y = 0
      · simp [hx, hy, orI]
      · simp [hx, hy, orI]
    · by_cases hy : y = 0
      · simp [hx, hy, orI]; omega
      · simp [hx, hy, orI]
  · simp [hn, orI]
theorem verCmp_ord : Ord3 verCmp := verKey_ord.sign verCmp_sign
theorem verCmp_zero {a b : Str} (h : verCmp a b = 0) : (∀ i, i < 3 → verNum a i = verNum b i) ∧ verPre a = verPre b := by
  have h2 := (verCmp_sign a b).2.1 h
  unfold verKey verNums at h2
  rw [orI_eq, orI_eq, orI_eq, orI_eq] at h2
  refine ⟨fun i hi => ?_, cmpList_zero h2.2.2⟩
  obtain rfl | rfl | rfl : i = 0 ∨ i = 1 ∨ i = 2 := by omega
  all_goals omega

/-! ### the references' answers -/
def sgn (n : Int) : Int := if n < 0 then -1 else if 0 < n then 1 else 0
theorem sgn_lt {n : Int} : sgn n < 0 ↔ n < 0 := by unfold sgn; split <;> (try split) <;> omega
theorem sgn_neg {n : Int} (h : n < 0) : sgn n = -1 := if_pos h
theorem sgn_pos {n : Int} (h : 0 < n) : sgn n = 1 := by unfold sgn; rw [if_neg (by omega), if_pos h]
theorem sgn_zero {n : Int} : sgn n = 0 ↔ n = 0 := by unfold sgn; split <;> (try split) <;> omega
/-- R.orderPart -/
def ordPart (a b : Str) : Int :=
  if areDigits a && areDigits b then sgn (((numberOf a).1 : Int) - (numberOf b).1)
  else if areDigits a || areDigits b then (if areDigits a then -1 else 1) else sgn (compareBytes a b)

theorem decVal_same : ∀ a b : Str, a.length = b.length → a.all isDig = true → b.all isDig = true → (decVal a < decVal b ↔ compareBytes a b < 0) ∧ (decVal a = decVal b ↔ compareBytes a b = 0)
  | [], [], _, _, _ => by simp [compareBytes]
  | [], _ :: _, h, _, _ => by simp at h
  | _ :: _, [], h, _, _ => by simp at h
  | a :: r, b :: t, h, h1, h2 => by
    simp only [List.all_cons, Bool.and_eq_true] at h1 h2
    have hl : r.length = t.length := by simpa using h
    have ih := decVal_same r t hl h1.2 h2.2
    have l1 := decVal_lt r h1.2
    have l2 := decVal_lt t h2.2
    have d1 := dig_lt h1.1
    have d2 := dig_lt h2.1
    rw [decVal_cons, decVal_cons, compareBytes]
    simp only [UInt8.lt_iff_toNat_lt]
    rw [hl] at l1 ⊢
    generalize 10 ^ t.length = p at *
    by_cases hab : a.toNat < b.toNat
    · rw [if_pos hab]
      have : (a.toNat - 48 + 1) * p ≤ (b.toNat - 48) * p := Nat.mul_le_mul_right p (by omega)
      rw [Nat.add_mul, Nat.one_mul] at this
      omega
    · rw [if_neg hab]
      by_cases hba : b.toNat < a.toNat
      · rw [if_pos hba]
        have : (b.toNat - 48 + 1) * p ≤ (a.toNat - 48) * p := Nat.mul_le_mul_right p (by omega)
        rw [Nat.add_mul, Nat.one_mul] at this
        omega
      · rw [if_neg hba]
        have e : a.toNat = b.toNat := by omega
        rw [e]
        omega
theorem decVal_ge {c : UInt8} {r : Str} (h : (c :: r).all isDig = true) (hc : c ≠ 48) : 10 ^ r.length ≤ decVal (c :: r) := by
  simp only [List.all_cons, Bool.and_eq_true] at h
  have d1 := dig_lt h.1
  rw [decVal_cons]
  have : c.toNat ≠ 48 := fun e => hc (UInt8.toNat_inj.1 (by simpa using e))
  have := Nat.mul_le_mul_right (10 ^ r.length) (show 1 ≤ c.toNat - 48 by omega)
  omega
theorem decVal_short {a b : Str} (ha : a.all isDig = true) (hb : b.all isDig = true) (hz : ¬ (1 < b.length ∧ b.head? = some 48)) (h0 : a ≠ []) (h : a.length < b.length) : decVal a < decVal b := by
  cases b with
  | nil => simp at h
  | cons c r =>
    have h1 : 0 < a.length := List.length_pos_iff.2 h0
    have hc : c ≠ 48 := fun e => hz ⟨by omega, by simp [e]⟩
    have g := decVal_ge hb hc
    have l := decVal_lt a ha
    have := Nat.pow_le_pow_right (n := 10) (by decide) (show a.length ≤ r.length by simp at h; omega)
    omega
theorem numberOf_err {s : Str} (h : (numberOf s).2 = 0) : areDigits s = true ∧ ¬ (1 < s.length ∧ s.head? = some 48) ∧ (numberOf s).1 = decVal s ∧ s.length ≤ 6 := by
  unfold numberOf at h ⊢
  by_cases h1 : areDigits s = false ∨ (1 < s.length ∧ s.head? = some 48)
  · rw [if_pos h1] at h; simp at h
  · rw [if_neg h1] at h ⊢
    by_cases h2 : 6 < s.length
    · rw [if_pos h2] at h; simp at h
    · rw [if_neg h2]
      rw [not_or] at h1
      exact ⟨by simpa using h1.1, h1.2, rfl, by omega⟩
theorem partErr_zero {s : Str} (h : partErr s = 0) : s ≠ [] ∧ s.length ≤ 8 ∧ s.all isPartByte = true ∧ (areDigits s = true → (numberOf s).2 = 0) := by
  unfold partErr at h
  by_cases h1 : s = [] ∨ 8 < s.length ∨ s.all isPartByte = false
  · rw [if_pos h1] at h; simp at h
  · rw [if_neg h1] at h
    rw [not_or, not_or] at h1
    refine ⟨h1.1, by omega, by simpa using h1.2.2, fun hd => ?_⟩
    rw [if_pos hd] at h
    exact h
theorem ordPart_eq {a b : Str} (ha : partErr a = 0) (hb : partErr b = 0) : ordPart a b = sgn (cmpPart a b) := by
  unfold ordPart cmpPart
  cases hx : areDigits a <;> cases hy : areDigits b
  · simp
  · simp [sgn]
  · simp [sgn]
  · obtain ⟨a1, a2, a3, a4⟩ := numberOf_err ((partErr_zero ha).2.2.2 hx)
    obtain ⟨b1, b2, b3, b4⟩ := numberOf_err ((partErr_zero hb).2.2.2 hy)
    simp only [Bool.and_self, ↓reduceIte]
    rw [a3, b3]
    have g : ∀ s : Str, areDigits s = true → s ≠ [] ∧ s.all isDig = true := fun s h => by
      unfold areDigits at h
      simp only [Bool.and_eq_true, Bool.not_eq_true', List.isEmpty_eq_false_iff] at h
      exact h
    have ga := g a hx
    have gb := g b hy
    have hor : ∀ x y : Int, x ≠ 0 → orI x y = x := fun x y h => if_neg h
    by_cases h1 : a.length < b.length
    · have := decVal_short ga.2 gb.2 b2 ga.1 h1
      rw [hor _ _ (by omega), sgn_neg (by omega), sgn_neg (by omega)]
    · by_cases h2 : b.length < a.length
      · have := decVal_short gb.2 ga.2 a2 gb.1 h2
        rw [hor _ _ (by omega), sgn_pos (by omega), sgn_pos (by omega)]
      · have he : a.length = b.length := by omega
        have := decVal_same a b he ga.2 gb.2
        rw [he, Int.sub_self]
        show sgn _ = sgn (orI 0 _)
        unfold orI
        rw [if_pos rfl]
        unfold sgn
        generalize compareBytes a b = c at *
        split <;> split <;> (try split) <;> (try split) <;> omega
end Go.Proofs.Pw

/- Plain mathematics of versions as texts: what is read of a text that was written, and back. No program in sight. -/
namespace Go.Proofs.Pw
open Go.Lib hiding intOf

/-- a text cut at a byte, with what stands ahead of it -/
def cutAt (c : UInt8) : Str → Str → List Str
  | acc, [] => [acc]
  | acc, b :: l => if b = c then acc :: cutAt c [] l else cutAt c (acc ++ [b]) l

theorem cutAt_no (c : UInt8) : ∀ (l acc : Str), c ∉ l → cutAt c acc l = [acc ++ l]
  | [], acc, _ => by simp [cutAt]
  | b :: l, acc, h => by
    simp only [List.mem_cons, not_or] at h
    rw [cutAt, if_neg (fun e => h.1 e.symm), cutAt_no c l _ h.2]
    simp
theorem cutAt_hit (c : UInt8) : ∀ (a acc r : Str), c ∉ a → cutAt c acc (a ++ c :: r) = (acc ++ a) :: cutAt c [] r
  | [], acc, r, _ => by simp [cutAt]
  | b :: l, acc, r, h => by
    simp only [List.mem_cons, not_or] at h
    rw [List.cons_append, cutAt, if_neg (fun e => h.1 e.symm), cutAt_hit c l _ r h.2]
    simp
theorem mem_at {c : UInt8} {s : Str} (h : c ∈ s) : ∃ a b, s = a ++ c :: b ∧ c ∉ a := by
  induction s with
  | nil => cases h
  | cons x l ih =>
    by_cases e : c = x
    · subst e
      exact ⟨[], l, rfl, by simp⟩
    · have hm : c ∈ l := (List.mem_cons.1 h).resolve_left e
      obtain ⟨a, b, rfl, hn⟩ := ih hm
      exact ⟨x :: a, b, rfl, by simp [e, hn]⟩
theorem index_byte_at {c : UInt8} {a b : Str} (h : c ∉ a) : index (a ++ c :: b) [c] = a.length := by
  have := index_at (a := a) (b := b) (sub := [c]) (by simp) (by intro d hd; simp at hd; subst hd; exact h)
  simpa using this
theorem index_byte_no {c : UInt8} {s : Str} (h : c ∉ s) : index s [c] = -1 := index_no (by simp) (by intro d hd; simp at hd; subst hd; exact h)
theorem split_cutAt (c : UInt8) : ∀ (n : Nat) (s : Str), s.length ≤ n → split s [c] = cutAt c [] s
  | n, s, hn => by
    by_cases h : c ∈ s
    · obtain ⟨a, b, rfl, ha⟩ := mem_at h
      rw [cutAt_hit c a [] b ha, split_hit (by simp) (index_byte_at ha)]
      have e1 : (a ++ c :: b).take a.length = a := List.take_left
      have e2 : (a ++ c :: b).drop (a.length + [c].length) = b := by
        rw [show a.length + [c].length = (a ++ [c]).length by simp, show a ++ c :: b = (a ++ [c]) ++ b by simp, List.drop_left]
      rw [e1, e2]
      cases n with
      | zero => simp at hn
      | succ n => rw [split_cutAt c n b (by simp at hn; omega)]; rfl
    · rw [split_none (index_byte_no h), cutAt_no c s [] h]
      rfl
theorem split_eq (c : UInt8) (s : Str) : split s [c] = cutAt c [] s := split_cutAt c s.length s (Nat.le_refl _)
theorem cut_at {c : UInt8} {a b : Str} (h : c ∉ a) : cut (a ++ c :: b) [c] = (a, b, true) := by
  unfold cut
  rw [index_byte_at h, if_pos (by omega)]
  have e1 : (a ++ c :: b).take (a.length : Int).toNat = a := List.take_left
  have e2 : (a ++ c :: b).drop ((a.length : Int).toNat + [c].length) = b := by
    rw [show (a.length : Int).toNat + [c].length = (a ++ [c]).length by simp, show a ++ c :: b = (a ++ [c]) ++ b by simp, List.drop_left]
  rw [e1, e2]
theorem cut_no {c : UInt8} {s : Str} (h : c ∉ s) : cut s [c] = (s, [], false) := by
  unfold cut
  rw [index_byte_no h, if_neg (by omega)]

theorem join_two (x y : Str) (r : List Str) (sep : Str) : join (x :: y :: r) sep = x ++ sep ++ join (y :: r) sep := by
  rw [join_cons, join_cons]
  simp [joinTail, List.append_assoc]
theorem cutAt_ne (c : UInt8) : ∀ (l acc : Str), cutAt c acc l ≠ []
  | [], acc => by simp [cutAt]
  | b :: l, acc => by
    rw [cutAt]
    split
    · simp
    · exact cutAt_ne c l _
theorem join_cutAt (c : UInt8) : ∀ (l acc : Str), join (cutAt c acc l) [c] = acc ++ l
  | [], acc => by simp [cutAt, join_one]
  | b :: l, acc => by
    rw [cutAt]
    split
    · rename_i e
      subst e
      have hn := cutAt_ne b l []
      cases hc : cutAt b [] l with
      | nil => exact absurd hc hn
      | cons y r =>
        rw [join_two, ← hc, join_cutAt b l []]
        simp
    · rw [join_cutAt c l]
      simp
theorem join_split (c : UInt8) (s : Str) : join (split s [c]) [c] = s := by rw [split_eq, join_cutAt]; rfl
theorem split_ne (c : UInt8) (s : Str) : split s [c] ≠ [] := by rw [split_eq]; exact cutAt_ne c s []
theorem split_join (c : UInt8) : ∀ (l : List Str), l ≠ [] → (∀ x ∈ l, c ∉ x) → split (join l [c]) [c] = l
  | [], h, _ => absurd rfl h
  | [x], _, h => by rw [join_one, split_eq, cutAt_no c x [] (h x (by simp))]; rfl
  | x :: y :: r, _, h => by
    have ih := split_join c (y :: r) (by simp) (fun z hz => h z (List.mem_cons_of_mem _ hz))
    rw [split_eq] at ih ⊢
    rw [join_two, List.append_assoc, List.singleton_append, cutAt_hit c x [] _ (h x (by simp)), ih]
    rfl
theorem split_mem (c : UInt8) : ∀ (l acc : Str), c ∉ acc → ∀ x ∈ cutAt c acc l, c ∉ x
  | [], acc, h, x, hx => by simp [cutAt] at hx; subst hx; exact h
  | b :: l, acc, h, x, hx => by
    rw [cutAt] at hx
    split at hx
    · rcases List.mem_cons.1 hx with rfl | hx
      · exact h
      · exact split_mem c l [] (by simp) x hx
    · rename_i hb
      exact split_mem c l _ (by simp [h]; exact fun e => hb e.symm) x hx
theorem split_words (c : UInt8) (s : Str) : ∀ x ∈ split s [c], c ∉ x := by rw [split_eq]; exact split_mem c s [] (by simp)

/-! ### a version's text -/
def verFmtS (a b c : Str) (pre : List Str) : Str := 118 :: ((a ++ 46 :: (b ++ 46 :: c)) ++ (if pre = [] then [] else 45 :: join pre [46]))
def verFmt (a b c : Int) (pre : List Str) : Str := verFmtS (itoa a) (itoa b) (itoa c) pre
/-- ver.Text -/
def verText (a b c : Int) (pre : List Str) : Str := if verErr (verFmt a b c pre) = 0 ∧ verPre (verFmt a b c pre) = pre then verFmt a b c pre else []

theorem worseN_zero {a b : Nat} : worseN a b = 0 ↔ a = 0 ∧ b = 0 := by
  unfold worseN
  split <;> omega
theorem numErrs_zero : ∀ (l : List Str) (b : Nat), numErrs l b = 0 ↔ b = 0 ∧ ∀ w ∈ l, (numberOf w).2 = 0
  | [], b => by simp [numErrs]
  | w :: r, b => by
    have := numErrs_zero r (worseN b (numberOf w).2)
    show numErrs r (worseN b (numberOf w).2) = 0 ↔ _
    rw [this, worseN_zero]
    simp only [List.mem_cons, forall_eq_or_imp, and_assoc]
theorem partErrs_zero : ∀ (l : List Str) (b : Nat), partErrs l b = 0 ↔ b = 0 ∧ ∀ w ∈ l, partErr w = 0
  | [], b => by simp [partErrs]
  | w :: r, b => by
    have := partErrs_zero r (worseN b (partErr w))
    show partErrs r (worseN b (partErr w)) = 0 ↔ _
    rw [this, worseN_zero]
    simp only [List.mem_cons, forall_eq_or_imp, and_assoc]
theorem verErrs_zero (s : Str) : verErrs s = 0 ↔ (∀ w ∈ verWords s, (numberOf w).2 = 0) ∧ (∀ w ∈ verPres s, partErr w = 0) ∧ (verPres s).length ≤ 5 := by
  unfold verErrs
  simp only
  by_cases h : 5 < (verPres s).length
  · rw [if_pos h, worseN_zero]
    constructor
    · rintro ⟨_, h2⟩; omega
    · rintro ⟨_, _, h2⟩; omega
  · rw [if_neg h, partErrs_zero, numErrs_zero]
    constructor
    · rintro ⟨⟨_, h1⟩, h2⟩; exact ⟨h1, h2, by omega⟩
    · rintro ⟨h1, h2, _⟩; exact ⟨⟨rfl, h1⟩, h2⟩
theorem verErr_zero (s : Str) : verErr s = 0 ↔ hasPrefix s [118] = true ∧ (verWords s).length = 3 ∧ (∀ w ∈ verWords s, (numberOf w).2 = 0) ∧ (∀ w ∈ verPres s, partErr w = 0) ∧ (verPres s).length ≤ 5 := by
  unfold verErr
  by_cases h : hasPrefix s [118] = false ∨ (verWords s).length ≠ 3
  · rw [if_pos h]
    constructor
    · intro h2; omega
    · rintro ⟨h1, h2, _⟩
      rcases h with h | h
      · rw [h1] at h; cases h
      · exact absurd h2 h
  · rw [if_neg h, verErrs_zero]
    rw [not_or] at h
    have h1 : hasPrefix s [118] = true := by simpa using h.1
    have h2 : (verWords s).length = 3 := Decidable.of_not_not h.2
    simp [h1, h2]

theorem itoa_ofNat (n : Nat) : itoa (n : Int) = decDigits n := by unfold itoa; rw [if_neg (by omega)]; simp
theorem numberOf_itoa {s : Str} (h : (numberOf s).2 = 0) : itoa ((numberOf s).1 : Nat) = s := by
  obtain ⟨h1, h2, h3, _⟩ := numberOf_err h
  rw [h3]
  exact (itoa_decVal h1).2 h2
theorem hasPrefix_v {s : Str} (h : hasPrefix s [118] = true) : s = 118 :: trimPrefix s [118] := by
  unfold trimPrefix
  rw [if_pos h]
  unfold hasPrefix at h
  obtain ⟨t, rfl⟩ := List.isPrefixOf_iff_prefix.1 h
  rfl
theorem list_three {l : List Str} (h : l.length = 3) : l = [l.getD 0 [], l.getD 1 [], l.getD 2 []] := by
  match l, h with
  | [a, b, c], _ => rfl

/-- what is right is written as it was -/
theorem ver_back {s : Str} (h : verErr s = 0) : verFmt (verNum s 0 : Nat) (verNum s 1 : Nat) (verNum s 2 : Nat) (verPre s) = s := by
  obtain ⟨h1, h2, h3, h4, h5⟩ := (verErr_zero s).1 h
  have hp : verPre s = verPres s := by unfold verPre; rw [if_pos h]
  have hn : ∀ i, i < 3 → itoa (verNum s i : Nat) = (verWords s).getD i [] := fun i hi => by
    unfold verNum
    rw [if_pos h]
    apply numberOf_itoa
    apply h3
    rw [List.getD_eq_getElem?_getD, List.getElem?_eq_getElem (by omega)]
    exact List.getElem_mem _
  unfold verFmt verFmtS
  rw [hn 0 (by omega), hn 1 (by omega), hn 2 (by omega), hp]
  have hw : join (verWords s) [46] = (verWords s).getD 0 [] ++ 46 :: ((verWords s).getD 1 [] ++ 46 :: (verWords s).getD 2 []) := by
    conv => lhs; rw [list_three h2]
    rw [join_two, join_two, join_one]
    simp
  rw [← hw]
  have hs := hasPrefix_v h1
  conv => rhs; rw [hs]
  congr 1
  unfold verWords verPres
  by_cases hd : (45 : UInt8) ∈ trimPrefix s [118]
  · obtain ⟨a, b, e, ha⟩ := mem_at hd
    rw [e, cut_at ha]
    simp only [↓reduceIte]
    rw [join_split, if_neg (split_ne _ _), join_split]
  · rw [cut_no hd]
    simp only [Bool.false_eq_true, ↓reduceIte, List.append_nil]
    rw [join_split]
theorem ver_inj {a b : Str} (ha : verErr a = 0) (hb : verErr b = 0) (hn : ∀ i, i < 3 → verNum a i = verNum b i) (hp : verPre a = verPre b) : a = b := by
  rw [← ver_back ha, ← ver_back hb, hn 0 (by omega), hn 1 (by omega), hn 2 (by omega), hp]
theorem verCmp_same {a b : Str} (ha : verErr a = 0) (hb : verErr b = 0) : verCmp a b = 0 ↔ a = b :=
  ⟨fun h => ver_inj ha hb (verCmp_zero h).1 (verCmp_zero h).2, fun e => by subst e; exact verCmp_ord.self a⟩

/-- what was written is read -/
theorem ver_head (h : Str) (hh : (45 : UInt8) ∉ h) (t : Str) (ht : t = [] ∨ ∃ r, t = 45 :: r) : verWords (118 :: (h ++ t)) = split h [46] := by
  unfold verWords
  have e : trimPrefix (118 :: (h ++ t)) [118] = h ++ t := rfl
  rw [e]
  rcases ht with rfl | ⟨r, rfl⟩
  · rw [List.append_nil, cut_no hh]
  · rw [cut_at hh]
theorem ver_pres (h : Str) (hh : (45 : UInt8) ∉ h) : verPres (118 :: (h ++ [])) = [] ∧ ∀ r, verPres (118 :: (h ++ 45 :: r)) = split r [46] := by
  unfold verPres
  have e : ∀ t, trimPrefix (118 :: (h ++ t)) [118] = h ++ t := fun _ => rfl
  refine ⟨?_, fun r => ?_⟩
  · rw [e, List.append_nil, cut_no hh]; rfl
  · rw [e, cut_at hh]; rfl
theorem dig_not {l : Str} (h : l.all isDig = true) : (45 : UInt8) ∉ l ∧ (46 : UInt8) ∉ l ∧ (32 : UInt8) ∉ l ∧ (64 : UInt8) ∉ l ∧ (10 : UInt8) ∉ l := by
  have g : ∀ c : UInt8, isDig c = false → c ∉ l := fun c hc hm => by
    have := List.all_eq_true.1 h c hm
    rw [hc] at this
    cases this
  exact ⟨g _ (by decide), g _ (by decide), g _ (by decide), g _ (by decide), g _ (by decide)⟩
theorem verErr_len {s : Str} (h : (verWords s).length ≠ 3) : verErr s ≠ 0 := fun e => h ((verErr_zero s).1 e).2.1
theorem verErr_num {s : Str} {w : Str} (h : w ∈ verWords s) (h2 : (numberOf w).2 ≠ 0) : verErr s ≠ 0 := fun e => h2 (((verErr_zero s).1 e).2.2.1 w h)

theorem tail_form (pre : List Str) : (if pre = [] then [] else 45 :: join pre [46]) = ([] : Str) ∨ ∃ r, (if pre = [] then [] else 45 :: join pre [46]) = (45 : UInt8) :: r := by
  by_cases h : pre = []
  · exact .inl (if_pos h)
  · exact .inr ⟨_, if_neg h⟩
theorem verFmtS_words {a b c : Str} (ha : a.all isDig = true) (hb : b.all isDig = true) (hc : c.all isDig = true) (pre : List Str) : verWords (verFmtS a b c pre) = [a, b, c] := by
  have da := dig_not ha
  have db := dig_not hb
  have dc := dig_not hc
  unfold verFmtS
  rw [ver_head _ (by simp [da.1, db.1, dc.1]) _ (tail_form pre), split_eq, cutAt_hit 46 a [] _ da.2.1, cutAt_hit 46 b [] _ db.2.1, cutAt_no 46 c [] dc.2.1]
  simp
theorem itoa_digits {n : Int} (h : 0 ≤ n) : (itoa n).all isDig = true ∧ areDigits (itoa n) = true ∧ decVal (itoa n) = n.toNat ∧ ¬ (1 < (itoa n).length ∧ (itoa n).head? = some 48) := by
  obtain ⟨k, rfl⟩ : ∃ k : Nat, n = k := ⟨n.toNat, by omega⟩
  rw [itoa_ofNat]
  exact ⟨decDigits_all k, decDigits_digits k, by rw [decVal_decDigits]; simp, decDigits_head k⟩
theorem itoa_neg {n : Int} (h : n < 0) : ∃ r, itoa n = 45 :: r := ⟨_, by unfold itoa; rw [if_pos h]⟩
theorem numberOf_big {n : Int} (h : 999999 < n) : (numberOf (itoa n)).2 ≠ 0 := by
  obtain ⟨_, h2, h3, h4⟩ := itoa_digits (show 0 ≤ n by omega)
  intro e
  obtain ⟨_, _, _, h5⟩ := numberOf_err e
  have := (decVal_small h2 h4).2 h5
  omega
/-- numbers that are none of a version's -/
theorem verFmt_bad {a b c : Int} (pre : List Str) (h : ¬ (0 ≤ a ∧ a ≤ 999999 ∧ 0 ≤ b ∧ b ≤ 999999 ∧ 0 ≤ c ∧ c ≤ 999999)) : verErr (verFmt a b c pre) ≠ 0 := by
  unfold verFmt
  by_cases ha : 0 ≤ a
  · have da := itoa_digits ha
    by_cases hb : 0 ≤ b
    · have db := itoa_digits hb
      by_cases hc : 0 ≤ c
      · have dc := itoa_digits hc
        have hw := verFmtS_words da.1 db.1 dc.1 pre
        by_cases h1 : 999999 < a
        · exact verErr_num (w := itoa a) (by rw [hw]; simp) (numberOf_big h1)
        · by_cases h2 : 999999 < b
          · exact verErr_num (w := itoa b) (by rw [hw]; simp) (numberOf_big h2)
          · exact verErr_num (w := itoa c) (by rw [hw]; simp) (numberOf_big (by omega))
      · obtain ⟨r, hr⟩ := itoa_neg (show c < 0 by omega)
        have na := dig_not da.1
        have nb := dig_not db.1
        have e : verFmtS (itoa a) (itoa b) (itoa c) pre = 118 :: ((itoa a ++ 46 :: (itoa b ++ [46])) ++ 45 :: (r ++ (if pre = [] then [] else 45 :: join pre [46]))) := by
          unfold verFmtS; rw [hr]; simp
        have hw : verWords (verFmtS (itoa a) (itoa b) (itoa c) pre) = [itoa a, itoa b, []] := by
          rw [e, ver_head _ (by simp [na.1, nb.1]) _ (.inr ⟨_, rfl⟩), split_eq, cutAt_hit 46 _ [] _ na.2.1, cutAt_hit 46 _ [] _ nb.2.1]
          simp [cutAt]
        exact verErr_num (w := []) (by rw [hw]; simp) (by decide)
    · obtain ⟨r, hr⟩ := itoa_neg (show b < 0 by omega)
      have na := dig_not da.1
      have e : verFmtS (itoa a) (itoa b) (itoa c) pre = 118 :: ((itoa a ++ [46]) ++ 45 :: (r ++ 46 :: itoa c ++ (if pre = [] then [] else 45 :: join pre [46]))) := by
        unfold verFmtS; rw [hr]; simp
      apply verErr_len
      rw [e, ver_head _ (by simp [na.1]) _ (.inr ⟨_, rfl⟩), split_eq, cutAt_hit 46 _ [] _ na.2.1]
      simp [cutAt]
  · obtain ⟨r, hr⟩ := itoa_neg (show a < 0 by omega)
    have e : verFmtS (itoa a) (itoa b) (itoa c) pre = 118 :: ([] ++ 45 :: (r ++ 46 :: (itoa b ++ 46 :: itoa c) ++ (if pre = [] then [] else 45 :: join pre [46]))) := by
      unfold verFmtS; rw [hr]; simp
    apply verErr_len
    rw [e, ver_head [] (by simp) _ (.inr ⟨_, rfl⟩), split_eq]
    simp [cutAt]
end Go.Proofs.Pw

/- Rising lists: insertion, what is sorted and compacted, and that a rising list is told by its members. No program in sight. -/
namespace Go.Proofs.Pw
open Go.Lib hiding intOf

section
variable {α : Type} {f : α → α → Int}

/-- each less than all behind it -/
def Rises (f : α → α → Int) (l : List α) : Prop := l.Pairwise fun a b => f a b < 0

theorem rises_ext (hf : Ord3 f) : ∀ {l m : List α}, Rises f l → Rises f m → (∀ x, x ∈ l ↔ x ∈ m) → l = m
  | [], [], _, _, _ => rfl
  | [], b :: t, _, _, h => by have := (h b).2 (by simp); simp at this
  | a :: r, [], _, _, h => by have := (h a).1 (by simp); simp at this
  | a :: r, b :: t, hl, hm, h => by
    have h1 := List.pairwise_cons.1 hl
    have h2 := List.pairwise_cons.1 hm
    have hab : a = b := by
      rcases List.mem_cons.1 ((h a).1 (by simp)) with e | e
      · exact e
      · rcases List.mem_cons.1 ((h b).2 (by simp)) with e' | e'
        · exact e'.symm
        · have x1 := h1.1 b e'
          have x2 := h2.1 a e
          have := (hf.anti a b).1 x1
          omega
    subst hab
    congr 1
    apply rises_ext hf h1.2 h2.2
    intro x
    constructor
    · intro hx
      rcases List.mem_cons.1 ((h x).1 (by simp [hx])) with e | e
      · subst e
        have := h1.1 x hx
        rw [hf.self] at this
        omega
      · exact e
    · intro hx
      rcases List.mem_cons.1 ((h x).2 (by simp [hx])) with e | e
      · subst e
        have := h2.1 x hx
        rw [hf.self] at this
        omega
      · exact e

variable [DecidableEq α]

/-- into a rising list -/
def insU (f : α → α → Int) (s : α) : List α → List α
  | [] => [s]
  | a :: r => if f a s < 0 then a :: insU f s r else if a = s then a :: r else s :: a :: r

theorem insU_mem (f : α → α → Int) (s x : α) : ∀ l : List α, x ∈ insU f s l ↔ x = s ∨ x ∈ l
  | [] => by simp [insU]
  | a :: r => by
    unfold insU
    split
    · rw [List.mem_cons, insU_mem f s x r, List.mem_cons]
      constructor
      · rintro (h | h | h) <;> simp [h]
      · rintro (h | h | h) <;> simp [h]
    · split
      · rename_i e
        subst e
        simp
      · simp

theorem insU_rises (hf : Ord3 f) (s : α) : ∀ l : List α, (∀ a ∈ l, f a s = 0 → a = s) → Rises f l → Rises f (insU f s l)
  | [], _, _ => by simp [insU, Rises]
  | a :: r, hz, h => by
    have h1 := List.pairwise_cons.1 h
    unfold insU
    split
    · rename_i hlt
      refine List.pairwise_cons.2 ⟨fun x hx => ?_, insU_rises hf s r (fun b hb => hz b (by simp [hb])) h1.2⟩
      rcases (insU_mem f s x r).1 hx with rfl | hx
      · exact hlt
      · exact h1.1 x hx
    · rename_i hge
      split
      · exact h
      · rename_i hne
        have hsa : f s a < 0 := by
          have h0 : f a s ≠ 0 := fun e => hne (hz a (by simp) e)
          have := hf.anti s a
          omega
        refine List.pairwise_cons.2 ⟨fun x hx => ?_, h⟩
        rcases List.mem_cons.1 hx with rfl | hx
        · exact hsa
        · have hax := h1.1 x hx
          have t := hf.tr s a x (by omega) (by omega)
          rcases Int.lt_or_eq_of_le t with t | t
          · exact t
          · exfalso
            have hxs := hf.zero t
            have h1' := hf.tr a x s (by omega) (by omega)
            have h2' := (hf.anti s a).1 hsa
            omega

/-- the place at which one is laid -/
def insAt (f : α → α → Int) (s : α) : List α → Nat
  | [] => 0
  | a :: r => if f a s < 0 then insAt f s r + 1 else 0
omit [DecidableEq α] in
theorem insAt_le (f : α → α → Int) (s : α) : ∀ l : List α, insAt f s l ≤ l.length
  | [] => Nat.le_refl _
  | a :: r => by unfold insAt; split <;> simp [insAt_le f s r]
theorem insU_at (f : α → α → Int) (s : α) : ∀ l : List α, insU f s l = if l[insAt f s l]? = some s then l else l.take (insAt f s l) ++ s :: l.drop (insAt f s l)
  | [] => by simp [insU, insAt]
  | a :: r => by
    unfold insU insAt
    split
    · rw [insU_at f s r]
      simp only [List.getElem?_cons_succ, List.take_succ_cons, List.drop_succ_cons]
      split <;> simp
    · simp only [List.getElem?_cons_zero, List.take_zero, List.drop_zero, Option.some.injEq, List.nil_append]

/-- all, one by one -/
def insAll (f : α → α → Int) (l : List α) : List α := l.foldl (fun o s => insU f s o) []
theorem insAll_snoc (f : α → α → Int) (l : List α) (s : α) : insAll f (l ++ [s]) = insU f s (insAll f l) := by simp [insAll]
theorem insFold_mem (f : α → α → Int) (x : α) : ∀ (l o : List α), x ∈ l.foldl (fun o s => insU f s o) o ↔ x ∈ l ∨ x ∈ o
  | [], o => by simp
  | s :: r, o => by
    rw [List.foldl_cons, insFold_mem f x r, insU_mem, List.mem_cons]
    constructor
    · rintro (h | h | h) <;> simp [h]
    · rintro ((h | h) | h) <;> simp [h]
theorem insAll_mem (f : α → α → Int) (l : List α) (x : α) : x ∈ insAll f l ↔ x ∈ l := by
  unfold insAll; rw [insFold_mem]; simp
theorem insFold_rises (hf : Ord3 f) (P : α → Prop) (hz : ∀ a b, P a → P b → f a b = 0 → a = b) : ∀ (l o : List α), (∀ a ∈ l, P a) → (∀ a ∈ o, P a) → Rises f o → Rises f (l.foldl (fun o s => insU f s o) o)
  | [], o, _, _, h => h
  | s :: r, o, hl, ho, h => by
    rw [List.foldl_cons]
    refine insFold_rises hf P hz r _ (fun a ha => hl a (by simp [ha])) (fun a ha => ?_) (insU_rises hf s o (fun a ha e => hz a s (ho a ha) (hl s (by simp)) e) h)
    rcases (insU_mem f s a o).1 ha with rfl | ha
    · exact hl a (by simp)
    · exact ho a ha
theorem insAll_rises (hf : Ord3 f) (P : α → Prop) (hz : ∀ a b, P a → P b → f a b = 0 → a = b) (l : List α) (hl : ∀ a ∈ l, P a) : Rises f (insAll f l) :=
  insFold_rises hf P hz l [] hl (by simp) List.Pairwise.nil
end

/-! ### sorted, then compacted -/
section
variable {α : Type} [Inhabited α] [DecidableEq α] {f : α → α → Int}

theorem compact_mem (d : Array α) (x : α) : x ∈ compactUpTo d d.size ↔ ∃ i, i < d.size ∧ d[i]! = x := by
  unfold compactUpTo
  simp only [List.mem_map, List.mem_filter, List.mem_range]
  constructor
  · rintro ⟨i, ⟨h1, _⟩, h2⟩
    exact ⟨i, h1, h2⟩
  · rintro ⟨i, h1, h2⟩
    induction i using Nat.strongRecOn with
    | _ i ih =>
      by_cases hk : keeps d i = true
      · exact ⟨i, ⟨h1, hk⟩, h2⟩
      · obtain ⟨j, rfl⟩ : ∃ j, i = j + 1 := by
          cases i with
          | zero => exact absurd (by simp [keeps]) hk
          | succ j => exact ⟨j, rfl⟩
        have he : d[j]! = x := by
          rw [← h2]
          by_cases e : d[j]! = d[j + 1]!
          · exact e
          · exact absurd (by simp [keeps]; exact fun h => e h.symm) hk
        exact ih j (by omega) (by omega) he

theorem compact_rises (hf : Ord3 f) (d : Array α) (hs : ∀ i j, i < j → j < d.size → f d[i]! d[j]! ≤ 0) (hz : ∀ i j, i < d.size → j < d.size → f d[i]! d[j]! = 0 → d[i]! = d[j]!) : Rises f (compactUpTo d d.size) := by
  unfold compactUpTo Rises
  rw [List.pairwise_map]
  apply List.Pairwise.imp_of_mem (R := fun a b => a < b) _ ((List.pairwise_lt_range).filter _)
  intro i j hi hj hij
  simp only [List.mem_filter, List.mem_range] at hi hj
  obtain ⟨k, rfl⟩ : ∃ k, j = k + 1 := ⟨j - 1, by omega⟩
  have hne : ¬ d[k]! = d[k + 1]! := by
    have := hj.2
    simp [keeps] at this
    exact fun e => this e.symm
  have h1 := hs k (k + 1) (by omega) hj.1
  have h2 : f d[k]! d[k + 1]! < 0 := by
    rcases Int.lt_or_eq_of_le h1 with h | h
    · exact h
    · exact absurd (hz k (k + 1) (by omega) hj.1 h) hne
  by_cases e : i = k
  · subst e; exact h2
  · have h3 := hs i k (by omega) (by omega)
    have h4 := hf.tr _ _ _ h3 h1
    rcases Int.lt_or_eq_of_le h4 with h | h
    · exact h
    · exfalso
      have h5 := hf.zero h
      have := hf.tr _ _ _ (by omega : f d[k + 1]! d[i]! ≤ 0) h3
      have := hf.anti d[k + 1]! d[k]!
      have := hf.anti d[k]! d[k + 1]!
      omega
end

/-- ver.Sort, R.SortVers: those that are versions, rising, each once -/
def vsort (l : List Str) : List Str := insAll verCmp (l.filter fun s => decide (verErr s = 0))
theorem vsort_mem (l : List Str) (x : Str) : x ∈ vsort l ↔ x ∈ l ∧ verErr x = 0 := by
  unfold vsort; rw [insAll_mem]; simp
theorem vsort_rises (l : List Str) : Rises verCmp (vsort l) :=
  insAll_rises verCmp_ord (fun s => verErr s = 0) (fun a b ha hb e => (verCmp_same ha hb).1 e) _ (by simp)
end Go.Proofs.Pw

/- Plain laws of modules: what was written is read; the order. No program in sight. -/
namespace Go.Proofs.Pw
open Go.Lib hiding intOf



def mdErr (m : Md) : Nat := modErr m.1 m.2
def mdText (m : Md) : Str := modText m.1 m.2

theorem mem_join (c x : UInt8) : ∀ l : List Str, x ∈ join l [c] → x = c ∨ ∃ w ∈ l, x ∈ w
  | [], h => by simp [join_nil] at h
  | [a], h => by
    have : join [a] [c] = a := join_one a [c]
    rw [this] at h
    exact .inr ⟨a, by simp, h⟩
  | a :: b :: r, h => by
    rw [join_two] at h
    simp only [List.mem_append, List.mem_cons, List.mem_nil_iff, or_false] at h
    rcases h with (h | h) | h
    · exact .inr ⟨a, by simp, h⟩
    · exact .inl h
    · rcases mem_join c x (b :: r) h with h | ⟨w, hw, h⟩
      · exact .inl h
      · exact .inr ⟨w, by simp at hw ⊢; right; exact hw, h⟩
theorem mem_split (c x : UInt8) (s : Str) (h : x ∈ s) : x = c ∨ ∃ w ∈ split s [c], x ∈ w := by
  rw [← join_split c s] at h
  exact mem_join c x _ h

theorem part_of_dig {c : UInt8} (h : isDig c = true) : isPartByte c = true := by unfold isPartByte; rw [h]; rfl
theorem ver_bytes {v : Str} (h : verErr v = 0) : ∀ c ∈ v, isPartByte c = true ∨ c = 46 := by
  obtain ⟨h1, _, h3, h4, _⟩ := (verErr_zero v).1 h
  have hv := hasPrefix_v h1
  have hnum : ∀ w ∈ verWords v, ∀ c ∈ w, isPartByte c = true := fun w hw c hc => by
    have := (numberOf_err (h3 w hw)).1
    unfold areDigits at this
    simp only [Bool.and_eq_true] at this
    exact part_of_dig (List.all_eq_true.1 this.2 c hc)
  have hpre : ∀ w ∈ verPres v, ∀ c ∈ w, isPartByte c = true := fun w hw c hc => List.all_eq_true.1 (partErr_zero (h4 w hw)).2.2.1 c hc
  have key : ∀ c ∈ trimPrefix v [118], isPartByte c = true ∨ c = 46 := by
    intro c hc
    unfold verWords at hnum
    unfold verPres at hpre
    by_cases hm : (45 : UInt8) ∈ trimPrefix v [118]
    · obtain ⟨a, b, e, ha⟩ := mem_at hm
      rw [e, cut_at ha] at hnum hpre
      simp only [if_true] at hnum hpre
      rw [e] at hc
      simp only [List.mem_append, List.mem_cons] at hc
      rcases hc with hc | rfl | hc
      · rcases mem_split 46 c a hc with h | ⟨w, hw, h⟩
        · exact .inr h
        · exact .inl (hnum w hw c h)
      · exact .inl (by decide)
      · rcases mem_split 46 c b hc with h | ⟨w, hw, h⟩
        · exact .inr h
        · exact .inl (hpre w hw c h)
    · rw [cut_no hm] at hnum
      rcases mem_split 46 c _ hc with h | ⟨w, hw, h⟩
      · exact .inr h
      · exact .inl (hnum w hw c h)
  intro c hc
  rw [hv] at hc
  rcases List.mem_cons.1 hc with rfl | hc
  · exact .inl (by decide)
  · exact key c hc
theorem path_bytes {p : Str} (h : pathErr p = 0) : ∀ c ∈ p, isElemByte c = true ∨ c = 47 := by
  intro c hc
  rcases mem_split 47 c p hc with h1 | ⟨w, hw, h1⟩
  · exact .inr h1
  · refine .inl ?_
    have hok : elemOk w = true := by
      cases he : elemOk w with
      | true => rfl
      | false =>
        exfalso
        unfold pathErr at h
        simp only at h
        rw [if_pos (List.any_eq_true.2 ⟨w, hw, by rw [he]; rfl⟩)] at h
        cases h
    unfold elemOk at hok
    simp only [Bool.and_eq_true] at hok
    exact List.all_eq_true.1 hok.1.1.2 c h1
theorem ver_no {v : Str} (h : verErr v = 0) (d : UInt8) (hd : isPartByte d = false) (h46 : d ≠ 46) : d ∉ v := fun hm => by
  rcases ver_bytes h d hm with e | e
  · rw [hd] at e; cases e
  · exact h46 e
theorem path_no {p : Str} (h : pathErr p = 0) (d : UInt8) (hd : isElemByte d = false) (h47 : d ≠ 47) : d ∉ p := fun hm => by
  rcases path_bytes h d hm with e | e
  · rw [hd] at e; cases e
  · exact h47 e

theorem modErr_zero {p v : Str} (h : modErr p v = 0) : pathErr p = 0 ∧ verErr v = 0 := by
  unfold modErr at h
  by_cases h1 : pathErr p = 0
  · refine ⟨h1, ?_⟩
    by_cases h2 : verErr v = 0
    · exact h2
    · rw [if_neg (by rw [h1]; simp), if_pos h2] at h
      exact h
  · rw [if_pos h1] at h
    exact absurd h h1
theorem modErr_le (p v : Str) : modErr p v ≤ 4 := by
  unfold modErr
  split
  · exact pathErr_le p
  · split
    · have := verErr_le v; omega
    · split <;> decide

theorem split_at {p v : Str} (hp : (64 : UInt8) ∉ p) (hv : (64 : UInt8) ∉ v) : split (p ++ [64] ++ v) [64] = [p, v] := by
  have := split_join 64 [p, v] (by simp) (by intro x hx; simp at hx; rcases hx with rfl | rfl <;> assumption)
  rw [join_two] at this
  have e : join [v] [64] = v := join_one v [64]
  rw [e] at this
  exact this
theorem read_text {p v : Str} (h : modErr p v = 0) : modRead (modText p v) = (p, v, 0) := by
  obtain ⟨h1, h2⟩ := modErr_zero h
  unfold modText modRead
  rw [if_pos h, split_at (path_no h1 64 (by decide) (by decide)) (ver_no h2 64 (by decide) (by decide))]
  simp only [List.length_cons, List.length_nil]
  rw [if_neg (by decide)]
  show (if modErr p v ≠ 0 then _ else _) = _
  rw [if_neg (by rw [h]; simp)]
  rfl
theorem text_read {s : Str} (h : (modRead s).2.2 = 0) : modText (modRead s).1 (modRead s).2.1 = s := by
  unfold modRead at h ⊢
  simp only at h ⊢
  by_cases h2 : (split s [64]).length = 2
  · rw [if_neg (by simp [h2])] at h ⊢
    obtain ⟨a, b, e⟩ : ∃ a b, split s [64] = [a, b] := by
      match hs : split s [64], h2 with
      | [a, b], _ => exact ⟨a, b, rfl⟩
    rw [e] at h ⊢
    simp only [List.getD_cons_zero, List.getD_cons_succ] at h ⊢
    by_cases h3 : modErr a b = 0
    · rw [if_neg (by simp [h3])]
      simp only
      unfold modText
      rw [if_pos h3]
      have := join_split 64 s
      rw [e, join_two] at this
      have e2 : join [b] [64] = b := join_one b [64]
      rw [e2] at this
      exact this
    · rw [if_pos h3] at h
      exact absurd h h3
  · rw [if_pos h2] at h
    cases h
theorem read_bad {s : Str} (h : (modRead s).2.2 ≠ 0) : (modRead s).1 = [] ∧ (modRead s).2.1 = [] := by
  unfold modRead at h ⊢
  simp only at h ⊢
  split
  · exact ⟨rfl, rfl⟩
  · rename_i h2
    rw [if_neg h2] at h
    split
    · exact ⟨rfl, rfl⟩
    · rename_i h3
      rw [if_neg h3] at h
      exact absurd rfl h
theorem modRead_le (s : Str) : (modRead s).2.2 ≤ 4 := by
  unfold modRead
  simp only
  split
  · decide
  · split
    · exact modErr_le _ _
    · exact Nat.zero_le _

/-! ### the order -/
def modAhead (a b : Md) : Bool := decide (compareBytes a.1 b.1 < 0) || (decide (a.1 = b.1) && verLess a.2 b.2)
def modCmp (a b : Md) : Int := orI (compareBytes a.1 b.1) (verCmp a.2 b.2)
theorem modCmp_ord : Ord3 modCmp := Ord3.or (compareBytes_ord.comap (fun m : Md => m.1)) (verCmp_ord.comap (fun m : Md => m.2))
theorem modCmp_zero {a b : Md} (ha : mdErr a = 0) (hb : mdErr b = 0) (h : modCmp a b = 0) : a = b := by
  obtain ⟨h1, h2⟩ := orI_eq.1 h
  exact Prod.ext (compareBytes_zero h1) ((verCmp_same (modErr_zero ha).2 (modErr_zero hb).2).1 h2)
theorem modAhead_iff {a b : Md} (ha : mdErr a = 0) (hb : mdErr b = 0) : modAhead a b = decide (modCmp a b < 0) := by
  unfold modAhead modCmp verLess
  rw [Bool.eq_iff_iff]
  simp only [Bool.or_eq_true, Bool.and_eq_true, decide_eq_true_eq, orI_lt]
  rw [compareBytes_zero_iff]
  constructor
  · rintro (h | ⟨h, _, _, h2⟩)
    · exact .inl h
    · exact .inr ⟨h, h2⟩
  · rintro (h | ⟨h, h2⟩)
    · exact .inl h
    · exact .inr ⟨h, (modErr_zero ha).2, (modErr_zero hb).2, h2⟩
theorem ahead_one {a b : Md} (ha : mdErr a = 0) (hb : mdErr b = 0) : ((modAhead a b != modAhead b a) = !decide (a = b)) := by
  rw [modAhead_iff ha hb, modAhead_iff hb ha]
  by_cases e : a = b
  · subst e
    simp
  · have h0 : modCmp a b ≠ 0 := fun h => e (modCmp_zero ha hb h)
    have := modCmp_ord.anti a b
    have := modCmp_ord.anti b a
    have h0' : modCmp b a ≠ 0 := fun h => h0 (modCmp_ord.zero h)
    rw [decide_eq_false e]
    by_cases h : modCmp a b < 0
    · rw [decide_eq_true h, decide_eq_false (by omega)]; rfl
    · rw [decide_eq_false h, decide_eq_true (by omega)]; rfl
theorem text_inj {a b : Md} (ha : mdErr a = 0) (hb : mdErr b = 0) : decide (a = b) = decide (mdText a = mdText b) := by
  rw [Bool.eq_iff_iff, decide_eq_true_eq, decide_eq_true_eq]
  constructor
  · intro h; rw [h]
  · intro h
    have h1 := read_text (p := a.1) (v := a.2) ha
    have h2 := read_text (p := b.1) (v := b.2) hb
    have h' : modText a.1 a.2 = modText b.1 b.2 := h
    rw [h', h2] at h1
    simp only [Prod.mk.injEq] at h1
    exact Prod.ext h1.1.symm h1.2.1.symm
end Go.Proofs.Pw

/- The environment of the walks: what the package-level variables hold; what stays so behind new blocks. -/
namespace Go.Proofs.Pw
open Go.RowKit

/-- the library's own bound holds some number -/
structure EnvM (w : World) : Prop where
  maxLen : ∃ m, w.cell? ⟨11, 0, none⟩ = some (.int .i64 m)

theorem lt_of_cell {w : World} {a : Addr} {v : Value} (h : w.cell? a = some v) : a.block < w.heap.size := World.block_lt_of_cell? w a h
theorem Below.cell_some {w w' : World} (hb : Below w.heap.size w w') {a : Addr} {v : Value} (h : w.cell? a = some v) : w'.cell? a = some v :=
  (hb.cell (lt_of_cell h)).trans h
theorem EnvM.below {w w' : World} (h : EnvM w) (hb : Below w.heap.size w w') : EnvM w' := by
  obtain ⟨m, hm⟩ := h.maxLen
  exact ⟨m, Below.cell_some hb hm⟩
theorem below_step {w w1 w2 : World} (h : Below w.heap.size w w1) (h2 : Below w1.heap.size w1 w2) : Below w.heap.size w w2 := h.trans (h2.mono h.size)
theorem below_alloc (w : World) (o : Obj) : Below w.heap.size w (w.alloc o) := (Below.refl _ _).alloc (Nat.le_refl _) _

/-- the variable of an error's number -/
def errG : Nat → Nat
  | 1 => 4 | 2 => 5 | 3 => 2 | 4 => 6 | 5 => 0
  | 6 => 7 | 7 => 3 | 8 => 1 | 9 => 8 | _ => 9

/-- some of the sentinels: A k: where the text of the one with the number k lies -/
structure EnvE (ks : List Nat) (A : Nat → Addr) (w : World) : Prop where
  var : ∀ k ∈ ks, w.cell? ⟨errG k, 0, none⟩ = some (.iface 271 (.pointer (some (A k))))
  row : ∀ k ∈ ks, ∃ c t, w.heap[(A k).block]? = some (.cells c t (0, 0))
  inj : ∀ j ∈ ks, ∀ k ∈ ks, A j = A k → j = k

theorem Below.cell_same {w w' : World} (hb : Below w.heap.size w w') {a : Addr} {v : Value} (h : w.cell? a = some v) : w'.cell? a = some v :=
  (hb.cell (World.block_lt_of_cell? w a h)).trans h
theorem Below.row_same {w w' : World} (hb : Below w.heap.size w w') {b : Nat} {o : Obj} (h : w.heap[b]? = some o) : w'.heap[b]? = some o :=
  (hb.block b (Array.getElem?_eq_some_iff.1 h).1).trans h
theorem EnvE.below {ks : List Nat} {A : Nat → Addr} {w w' : World} (h : EnvE ks A w) (hb : Below w.heap.size w w') : EnvE ks A w' :=
  ⟨fun k hk => Below.cell_same hb (h.var k hk), fun k hk => let ⟨c, t, hc⟩ := h.row k hk; ⟨c, t, Below.row_same hb hc⟩, h.inj⟩
theorem EnvE.sub {ks js : List Nat} {A : Nat → Addr} {w : World} (h : EnvE ks A w) (hs : ∀ k ∈ js, k ∈ ks) : EnvE js A w :=
  ⟨fun k hk => h.var k (hs k hk), fun k hk => h.row k (hs k hk), fun j hj k hk => h.inj j (hs j hj) k (hs k hk)⟩

/-- an error by its number: 0: nil -/
def errV (A : Nat → Addr) (code : Nat) : Value := if code = 0 then .nilIface else .iface 271 (.pointer (some (A code)))
theorem errV_zero (A : Nat → Addr) : errV A 0 = .nilIface := rfl
theorem errV_pos (A : Nat → Addr) {c : Nat} (h : c ≠ 0) : errV A c = .iface 271 (.pointer (some (A c))) := if_neg h

def allErrs : List Nat := [1, 2, 3, 4, 5, 6, 7, 8, 9, 10]
theorem mem_allErrs {k : Nat} (h1 : 1 ≤ k) (h2 : k ≤ 10) : k ∈ allErrs := by
  unfold allErrs; simp; omega


theorem Below.drewN {B : Nat} {a w : World} (h : Below B a w) (n : Nat) : Below B a (w.drewN n) := below_drewN h n

/-- what packages ver and mod ask of the world -/
structure EnvP (ks : List Nat) (A : Nat → Addr) (w : World) : Prop where
  m : EnvM w
  errs : EnvE ks A w
  has : 1 ∈ ks ∧ 2 ∈ ks
  range : ∃ te pe, w.cell? ⟨13, 0, none⟩ = some (.iface te pe)
  pow10 : Lib.TabIs Tryz.prog w "internal/strconv.uint64pow10" .u64 Lib.pow10Tab

theorem var?_below {P : Program} {w w' : World} {n : String} {cs : Array Value} (h : w.var? P n = some cs) (hb : Below w.heap.size w w') : w'.var? P n = some cs := by
  unfold World.var? at h ⊢
  cases hg : P.globalNamed n with
  | none => simp [hg] at h
  | some g =>
    simp only [hg, Option.bind_some] at h ⊢
    have hlt : g < w.heap.size := by
      rcases Nat.lt_or_ge g w.heap.size with h' | h'
      · exact h'
      · simp [Array.getElem?_eq_none h'] at h
    rw [hb.block g hlt]
    exact h
theorem EnvP.below {ks : List Nat} {A : Nat → Addr} {w w' : World} (h : EnvP ks A w) (hb : Below w.heap.size w w') : EnvP ks A w' :=
  { m := h.m.below hb, errs := h.errs.below hb, has := h.has
    range := let ⟨te, pe, e⟩ := h.range; ⟨te, pe, Below.cell_some hb e⟩
    pow10 := var?_below h.pow10 hb
  }
end Go.Proofs.Pw

/- Slices of modules in memory; the references' and the statements' small functions on them. -/
namespace Go.Proofs.Pw
open Go.RowKit
open Go.Lib hiding intOf

def mdF (n : Nat) (P V : Nat → ByteArray) : List Md := (List.range n).map fun j => ((P j).data.toList, (V j).data.toList)
theorem mdF_length (n P V) : (mdF n P V).length = n := by simp [mdF]
theorem mdF_get (n P V) (j : Nat) (h : j < n) : (mdF n P V)[j]? = some ((P j).data.toList, (V j).data.toList) := by simp [mdF, h]
theorem mdF_take_succ (n P V) (k : Nat) (h : k < n) : (mdF n P V).take (k + 1) = (mdF n P V).take k ++ [((P k).data.toList, (V k).data.toList)] := by
  rw [List.take_add_one, mdF_get n P V k h]; rfl
theorem mdF_take_all (n P V) : (mdF n P V).take n = mdF n P V := List.take_of_length_le (by rw [mdF_length]; exact Nat.le_refl _)
theorem bytes_eq {a b : ByteArray} : a.data.toList = b.data.toList ↔ a = b := ⟨fun h => by
  apply ByteArray.ext; apply Array.ext'; exact h, fun h => by rw [h]⟩

/-- a slice of modules -/
def ModsAt (w : World) (v : Value) (l : List Md) : Prop :=
  ∃ a n cap P V, v = .slice a n cap ∧ l = mdF n P V ∧ n ≤ cap ∧ cap ≤ 9223372036854775807 ∧ ∀ j, j < n → ∃ b o, a = some ⟨b, o, none⟩ ∧ w.cell? ⟨b, o + j * 2, none⟩ = some (.string (P j)) ∧ w.cell? ⟨b, o + j * 2 + 1, none⟩ = some (.string (V j))
theorem ModsAt.below {w w' : World} {v : Value} {l : List Md} (h : ModsAt w v l) (hb : Below w.heap.size w w') : ModsAt w' v l := by
  obtain ⟨a, n, cap, P, V, h1, h2, h3, h4, h5⟩ := h
  exact ⟨a, n, cap, P, V, h1, h2, h3, h4, fun j hj => let ⟨b, o, e1, e2, e3⟩ := h5 j hj; ⟨b, o, e1, Below.cell_some hb e2, Below.cell_some hb e3⟩⟩
theorem ModsAt.nil (w : World) : ModsAt w (.slice none 0 0) [] := ⟨none, 0, 0, fun _ => ByteArray.empty, fun _ => ByteArray.empty, rfl, rfl, Nat.le_refl _, by decide, fun j hj => absurd hj (Nat.not_lt_zero _)⟩

/-- the first place at which p holds; -1: none -/
def findI {α : Type} (p : α → Bool) (l : List α) : Int := match l.findIdx? p with | some k => (k : Int) | none => -1
theorem findI_hit {α : Type} {p : α → Bool} {l : List α} {k : Nat} {x : α} (hk : l[k]? = some x) (hp : p x = true) (h0 : ∀ j y, j < k → l[j]? = some y → p y = false) : findI p l = k := by
  have : l.findIdx? p = some k := by
    rw [List.findIdx?_eq_some_iff_getElem]
    obtain ⟨h, e⟩ := List.getElem?_eq_some_iff.1 hk
    refine ⟨h, by rw [e]; exact hp, fun j hj => ?_⟩
    have := h0 j l[j] hj (List.getElem?_eq_getElem _)
    simp [this]
  unfold findI
  rw [this]
theorem findI_none {α : Type} {p : α → Bool} {l : List α} (h : ∀ (j : Nat) (y : α), l[j]? = some y → p y = false) : findI p l = -1 := by
  have : l.findIdx? p = none := by
    rw [List.findIdx?_eq_none_iff]
    intro x hx
    obtain ⟨j, hj⟩ := List.getElem?_of_mem hx
    rw [h j x hj]
  unfold findI
  rw [this]

/-! ### equality of two modules -/
theorem Tryz.md_fields : Tryz.prog.underlying 38 = some (.struct (Tryz.prog.fieldsOf 38)) := by kernel_rfl
theorem Tryz.md_held : Tryz.prog.stoodInHeld 38 = false := by kernel_rfl
theorem Tryz.md_guard : Tryz.prog.eqGuardType Tryz.prog.depth 38 = false := by kernel_rfl
theorem md_equal (p v q u : ByteArray) (w : World) : (Op.equalIn 10000 38 (.agg #[.string p, .string v]) (.agg #[.string q, .string u])).run Tryz.prog w = .ok (decide (p = q ∧ v = u)) w := by
  have u3 := Tryz.underlying9
  have a3 := Tryz.isAgg9
  have z3 := Tryz.sizeOf9
  rw [show (10000 : Nat) = 9999 + 1 from rfl, run_equalIn_agg w 9999 38 _ _ Tryz.md_fields Tryz.md_held]
  simp only [Program.fieldsOf, Tryz.underlying38]
  go_simp
  have e1 : (p.toList = q.toList) ↔ p = q := by rw [ByteArray.toList_eq, ByteArray.toList_eq]; exact bytes_eq
  have e2 : (v.toList = u.toList) ↔ v = u := by rw [ByteArray.toList_eq, ByteArray.toList_eq]; exact bytes_eq
  by_cases h1 : p = q
  · by_cases h2 : v = u
    · simp [h1, h2]
    · have : ¬ v.toList = u.toList := fun h => h2 (e2.1 h)
      simp [h1, h2, this]
  · have : ¬ p.toList = q.toList := fun h => h1 (e1.1 h)
    simp [h1, this]
theorem md_eql (p v q u : ByteArray) (w : World) : (binOp .eql 38 (.agg #[.string p, .string v]) (.agg #[.string q, .string u])).run Tryz.prog w = .ok (.bool (decide (p = q ∧ v = u))) w := by
  rw [run_eql_struct, md_equal]; rfl
theorem md_neq (p v q u : ByteArray) (w : World) : (binOp .neq 38 (.agg #[.string p, .string v]) (.agg #[.string q, .string u])).run Tryz.prog w = .ok (.bool (!decide (p = q ∧ v = u))) w := by
  rw [run_neq_struct, md_equal]; rfl

/-- R.FindPath -/
theorem findPath_calls (v : Value) (l : List Md) (s : ByteArray) (w : World) (h : ModsAt w v l) :
    Calls Tryz.prog 63 #[v, .string s] w fun e w' => e = .returned (.int .i64 (findI (fun m : Md => decide (m.1 = s.data.toList)) l)) ∧ w = w' := by
  obtain ⟨a, n, cap, P, V, rfl, rfl, hn, hcap, hc⟩ := h
  replace hc := Lib.hid hc
  go_enter Tryz.func63, Tryz.ntmps63
  go_wp2_with fail
  go_loop [5] (fun i => ∃ k : Nat, k ≤ n ∧ i = .int .i64 k ∧ Hid (∀ j, j < k → (P j).data.toList ≠ s.data.toList)) (fun i => n - (intOf i).toNat)
  case atStart => exact ⟨0, Nat.zero_le _, rfl, Lib.hid (fun j hj => absurd hj (Nat.not_lt_zero _))⟩
  case round =>
    obtain ⟨k, hk, rfl, HA⟩ := hrel
    by_cases hlt : k < n
    · obtain ⟨b, o, rfl, d1, d2⟩ := hc.out k hlt
      by_cases he : (P k).data.toList = s.data.toList
      · have HF : Hid (findI (fun m : Md => decide (m.1 = s.data.toList)) (mdF n P V) = k) := Lib.hid (findI_hit (mdF_get n P V k hlt) (by simp [he]) (fun j y hj hy => by
          rw [mdF_get n P V j (by omega)] at hy
          cases hy
          exact decide_eq_false (HA.out j hj)))
        have he2 := bytes_eq.1 he
        rw [he2] at d1
        clear he he2
        go_wp2_with fail
        go_ret
        rw [HF.out]
        exact ⟨rfl, rfl⟩
      · have he1 : ((P k).toList == s.toList) = false := by rw [ByteArray.toList_eq, ByteArray.toList_eq]; exact beq_eq_false_iff_ne.2 he
        have he2 : P k ≠ s := fun e => he (by rw [e])
        have he3 : (P k).toList ≠ s.toList := by rw [ByteArray.toList_eq, ByteArray.toList_eq]; exact he
        have HN : Hid (∀ j, j < k + 1 → (P j).data.toList ≠ s.data.toList) := Lib.hid (fun j hj => by
          by_cases e : j = k
          · subst e; exact he
          · exact HA.out j (by omega))
        clear he
        go_wp2_with fail
        go_round
        case rel => exact ⟨k + 1, by omega, by go_num, HN⟩
        case measure => simp [intOf]; omega
    · obtain rfl : k = n := by omega
      have HF : Hid (findI (fun m : Md => decide (m.1 = s.data.toList)) (mdF k P V) = -1) := Lib.hid (findI_none (fun j y hy => by
        have hj : j < k := by have := (List.getElem?_eq_some_iff.1 hy).1; rwa [mdF_length] at this
        rw [mdF_get k P V j hj] at hy
        cases hy
        exact decide_eq_false (HA.out j hj)))
      go_wp2_with fail
      go_ret
      rw [HF.out]
      exact ⟨rfl, rfl⟩
end Go.Proofs.Pw

/- Plain mathematics of package file: what is wrong with a file, its text, what is read. No program in sight. -/
namespace Go.Proofs.Pw
open Go.Lib hiding intOf

structure Fl where
  path : Str
  reqs : List Md
  excl : List Md
def noFl : Fl := ⟨[], [], []⟩

/-- the first place with an error: its number, the place; none: 0, -1 -/
def firstE (g : Nat → Nat) : Nat → Nat × Int
  | 0 => (0, -1)
  | n + 1 => if (firstE g n).1 ≠ 0 then firstE g n else if g n ≠ 0 then (g n, (n : Int)) else (0, -1)
theorem firstE_none {g : Nat → Nat} : ∀ {n : Nat}, (∀ j, j < n → g j = 0) → firstE g n = (0, -1)
  | 0, _ => rfl
  | n + 1, h => by
    rw [firstE, firstE_none (n := n) (fun j hj => h j (by omega)), if_neg (by simp), if_neg (by simp [h n (by omega)])]
theorem firstE_hit {g : Nat → Nat} {k : Nat} (hg : g k ≠ 0) (h : ∀ j, j < k → g j = 0) : ∀ {n : Nat}, k < n → firstE g n = (g k, (k : Int))
  | 0, hk => absurd hk (Nat.not_lt_zero _)
  | n + 1, hk => by
    by_cases e : k = n
    · subst e
      rw [firstE, firstE_none h, if_neg (by simp), if_pos hg]
    · have := firstE_hit hg h (n := n) (by omega)
      rw [firstE, this, if_pos hg]
theorem firstE_zero {g : Nat → Nat} : ∀ {n : Nat}, (firstE g n).1 = 0 → ∀ j, j < n → g j = 0
  | 0, _, j, hj => absurd hj (Nat.not_lt_zero _)
  | n + 1, h, j, hj => by
    rw [firstE] at h
    by_cases h1 : (firstE g n).1 = 0
    · rw [if_neg (by simp [h1])] at h
      by_cases h2 : g n = 0
      · by_cases e : j = n
        · rw [e]; exact h2
        · exact firstE_zero h1 j (by omega)
      · rw [if_pos h2] at h
        exact absurd h h2
    · rw [if_pos h1] at h
      exact absurd h h1
theorem firstE_cong {g k : Nat → Nat} : ∀ {n : Nat}, (∀ j, j < n → g j = k j) → firstE g n = firstE k n
  | 0, _ => rfl
  | n + 1, h => by rw [firstE, firstE, firstE_cong (n := n) (fun j hj => h j (by omega)), h n (by omega)]

def mdAt (l : List Md) (i : Nat) : Md := l.getD i ([], [])
theorem mdAt_get {l : List Md} {i : Nat} (h : i < l.length) : l[i]? = some (mdAt l i) := by
  unfold mdAt
  rw [List.getD_eq_getElem?_getD, List.getElem?_eq_getElem h]; rfl
theorem mdAt_mem {l : List Md} {i : Nat} (h : i < l.length) : mdAt l i ∈ l := List.mem_of_getElem? (mdAt_get h)
theorem mdAt_mdF {n : Nat} {P V : Nat → ByteArray} {i : Nat} (h : i < n) : mdAt (mdF n P V) i = ((P i).data.toList, (V i).data.toList) := by
  unfold mdAt
  rw [List.getD_eq_getElem?_getD, mdF_get n P V i h]; rfl

def reqE (p : Str) (l : List Md) (i : Nat) : Nat :=
  if mdErr (mdAt l i) ≠ 0 then mdErr (mdAt l i) else if (mdAt l i).1 = p then 3 else if 0 < i ∧ compareBytes (mdAt l i).1 (mdAt l (i - 1)).1 ≤ 0 then 8 else 0
def excE (l : List Md) (i : Nat) : Nat :=
  if mdErr (mdAt l i) ≠ 0 then mdErr (mdAt l i) else if 0 < i ∧ modAhead (mdAt l (i - 1)) (mdAt l i) = false then 8 else 0
def claE (r x : List Md) (i : Nat) : Nat := if mdAt r i ∈ x then 9 else 0
def orE (a b : Nat × Int) : Nat × Int := if a.1 ≠ 0 then a else b
def fileErr (f : Fl) : Nat × Int :=
  if pathErr f.path ≠ 0 then (pathErr f.path, -1)
  else if 20 < f.reqs.length ∨ 20 < f.excl.length then (7, -1)
  else orE (firstE (reqE f.path f.reqs) f.reqs.length) (orE (firstE (excE f.excl) f.excl.length) (firstE (claE f.reqs f.excl) f.reqs.length))

theorem orE_zero {a b : Nat × Int} : (orE a b).1 = 0 ↔ a.1 = 0 ∧ b.1 = 0 := by
  unfold orE
  by_cases h : a.1 = 0
  · rw [if_neg (by simp [h])]; simp [h]
  · rw [if_pos h]; simp [h]
/-- what is right of a file that is right -/
structure Right (f : Fl) : Prop where
  path : pathErr f.path = 0
  reqs : f.reqs.length ≤ 20
  excl : f.excl.length ≤ 20
  req : ∀ i, i < f.reqs.length → reqE f.path f.reqs i = 0
  exc : ∀ i, i < f.excl.length → excE f.excl i = 0
  cla : ∀ i, i < f.reqs.length → claE f.reqs f.excl i = 0
theorem right_of {f : Fl} (h : (fileErr f).1 = 0) : Right f := by
  unfold fileErr at h
  by_cases h1 : pathErr f.path = 0
  · rw [if_neg (by simp [h1])] at h
    by_cases h2 : 20 < f.reqs.length ∨ 20 < f.excl.length
    · rw [if_pos h2] at h; cases h
    · rw [if_neg h2, orE_zero, orE_zero] at h
      exact ⟨h1, by omega, by omega, firstE_zero h.1, firstE_zero h.2.1, firstE_zero h.2.2⟩
  · rw [if_pos h1] at h
    exact absurd h h1
theorem of_right {f : Fl} (h : Right f) : fileErr f = (0, -1) := by
  unfold fileErr
  rw [if_neg (by simp [h.path]), if_neg (by have := h.reqs; have := h.excl; omega), firstE_none h.req, firstE_none h.exc, firstE_none h.cla]
  rfl
theorem Right.mem {f : Fl} (h : Right f) : (∀ m ∈ f.reqs, mdErr m = 0) ∧ ∀ m ∈ f.excl, mdErr m = 0 := by
  constructor
  · intro m hm
    obtain ⟨i, hi⟩ := List.getElem?_of_mem hm
    have hl := (List.getElem?_eq_some_iff.1 hi).1
    have h1 := h.req i hl
    rw [mdAt_get hl] at hi
    injection hi with hi
    unfold reqE at h1
    rw [hi] at h1
    by_cases h2 : mdErr m = 0
    · exact h2
    · rw [if_pos h2] at h1; exact h1
  · intro m hm
    obtain ⟨i, hi⟩ := List.getElem?_of_mem hm
    have hl := (List.getElem?_eq_some_iff.1 hi).1
    have h1 := h.exc i hl
    rw [mdAt_get hl] at hi
    injection hi with hi
    unfold excE at h1
    rw [hi] at h1
    by_cases h2 : mdErr m = 0
    · exact h2
    · rw [if_pos h2] at h1; exact h1
theorem fileErr_at {f : Fl} : (fileErr f).1 = 0 → (fileErr f).2 = -1 := fun h => by rw [of_right (right_of h)]

/-! ### the text -/
def modW : Str := [109, 111, 100, 117, 108, 101]
def reqW : Str := [114, 101, 113, 117, 105, 114, 101]
def excW : Str := [101, 120, 99, 108, 117, 100, 101]
def mline (w : Str) (m : Md) : Str := w ++ [32] ++ m.1 ++ [32] ++ m.2
def mlines (w : Str) (l : List Md) : Str := l.flatMap fun m => mline w m ++ [10]
def fileTxt (f : Fl) : Str := modW ++ [32] ++ f.path ++ [10] ++ mlines reqW f.reqs ++ mlines excW f.excl
def fileText (f : Fl) : Str := if (fileErr f).1 = 0 then fileTxt f else []
theorem mlines_nil (w : Str) : mlines w [] = [] := rfl
theorem mlines_cons (w : Str) (m : Md) (l : List Md) : mlines w (m :: l) = mline w m ++ [10] ++ mlines w l := rfl
theorem mlines_snoc (w : Str) (l : List Md) (m : Md) : mlines w (l ++ [m]) = mlines w l ++ (mline w m ++ [10]) := by
  unfold mlines; simp

/-! ### what is read -/
def lineF (f : Fl) (s : Str) (i : Nat) : Bool × Fl :=
  if i = 0 then (decide ((split s [32]).length = 2 ∧ (split s [32]).head? = some modW), { f with path := (split s [32]).getLast?.getD [] })
  else match split s [32] with
    | [a, b, c] => if a = reqW ∧ f.excl = [] then (true, { f with reqs := f.reqs ++ [(b, c)] }) else if a = excW then (true, { f with excl := f.excl ++ [(b, c)] }) else (false, f)
    | _ => (false, f)
def readF : Nat → Fl → Nat → Str → Fl × Option Nat
  | 0, f, _, _ => (f, none)
  | n + 1, f, i, s =>
    if s = [] ∧ i ≠ 0 then (f, none)
    else if (cut s [10]).2.2 = true ∧ (lineF f (cut s [10]).1 i).1 = true then readF n (lineF f (cut s [10]).1 i).2 (i + 1) (cut s [10]).2.1
    else (noFl, some i)
def fileRead (s : Str) : Fl × Nat × Int :=
  if 8000 < s.length then (noFl, 2, -1)
  else match readF (s.length + 1) noFl 0 s with
    | (_, some i) => (noFl, 1, (i : Int))
    | (f, none) => if (fileErr f).1 ≠ 0 then (noFl, (fileErr f).1, -1) else (f, 0, -1)

theorem split_sp {l : List Str} (hl : l ≠ []) (h : ∀ x ∈ l, (32 : UInt8) ∉ x) : split (join l [32]) [32] = l := split_join 32 l hl h
theorem mline_join (w : Str) (m : Md) : mline w m = join [w, m.1, m.2] [32] := by
  rw [join_two, join_two, show join [m.2] [32] = m.2 from join_one m.2 [32]]
  simp [mline]
theorem md_no {m : Md} (h : mdErr m = 0) (d : UInt8) (h1 : isElemByte d = false) (h2 : isPartByte d = false) (h3 : d ≠ 47) (h4 : d ≠ 46) : d ∉ m.1 ∧ d ∉ m.2 :=
  let ⟨a, b⟩ := modErr_zero h
  ⟨path_no a d h1 h3, ver_no b d h2 h4⟩
theorem split_mline {w : Str} {m : Md} (hw : (32 : UInt8) ∉ w) (h : mdErr m = 0) : split (mline w m) [32] = [w, m.1, m.2] := by
  rw [mline_join]
  obtain ⟨h1, h2⟩ := md_no h 32 (by decide) (by decide) (by decide) (by decide)
  exact split_sp (by simp) (by intro x hx; simp at hx; rcases hx with rfl | rfl | rfl <;> assumption)
theorem cut_mline {w : Str} {m : Md} (hw : (10 : UInt8) ∉ w) (h : mdErr m = 0) (t : Str) : cut (mline w m ++ [10] ++ t) [10] = (mline w m, t, true) := by
  obtain ⟨h1, h2⟩ := md_no h 10 (by decide) (by decide) (by decide) (by decide)
  have : (10 : UInt8) ∉ mline w m := by
    unfold mline
    simp only [List.mem_append, List.mem_singleton]
    rintro ((((h | h) | h) | h) | h)
    · exact hw h
    · cases h
    · exact h1 h
    · cases h
    · exact h2 h
  rw [List.append_assoc, List.singleton_append]
  exact cut_at this

theorem cut_rest {s : Str} (h : (cut s [10]).2.2 = true) : (cut s [10]).2.1.length < s.length := by
  by_cases hm : (10 : UInt8) ∈ s
  · obtain ⟨a, b, rfl, ha⟩ := mem_at hm
    rw [cut_at ha]
    simp; omega
  · rw [cut_no hm] at h; cases h
theorem readF_fuel : ∀ (n m : Nat) (f : Fl) (i : Nat) (s : Str), s.length < n → s.length < m → readF n f i s = readF m f i s
  | 0, _, _, _, _, h, _ => absurd h (Nat.not_lt_zero _)
  | _ + 1, 0, _, _, _, _, h => absurd h (Nat.not_lt_zero _)
  | n + 1, m + 1, f, i, s, h1, h2 => by
    rw [readF, readF]
    by_cases h3 : s = [] ∧ i ≠ 0
    · rw [if_pos h3, if_pos h3]
    · rw [if_neg h3, if_neg h3]
      by_cases h4 : (cut s [10]).2.2 = true ∧ (lineF f (cut s [10]).1 i).1 = true
      · have := cut_rest h4.1
        rw [if_pos h4, if_pos h4]
        exact readF_fuel n m _ _ _ (by omega) (by omega)
      · rw [if_neg h4, if_neg h4]

theorem mline_ne {w : Str} {m : Md} (t : Str) : mline w m ++ [10] ++ t ≠ [] := by simp
theorem readF_reqs : ∀ (l : List Md) (n : Nat) (f : Fl) (i : Nat) (t : Str), i ≠ 0 → f.excl = [] → (∀ m ∈ l, mdErr m = 0) → readF (n + l.length) f i (mlines reqW l ++ t) = readF n { f with reqs := f.reqs ++ l } (i + l.length) t
  | [], n, f, i, t, _, _, _ => by simp [mlines_nil]
  | m :: l, n, f, i, t, hi, he, h => by
    rw [mlines_cons, List.append_assoc, List.length_cons, ← Nat.add_assoc, readF, if_neg (fun h => mline_ne _ h.1), cut_mline (by decide) (h m (by simp))]
    have hl : lineF f (mline reqW m) i = (true, { f with reqs := f.reqs ++ [m] }) := by
      unfold lineF
      rw [if_neg hi, split_mline (by decide) (h m (by simp))]
      simp [he]
    rw [hl, if_pos ⟨rfl, rfl⟩]
    show readF (n + l.length) { f with reqs := f.reqs ++ [m] } (i + 1) (mlines reqW l ++ t) = _
    rw [readF_reqs l n { f with reqs := f.reqs ++ [m] } (i + 1) t (by omega) he (fun x hx => h x (by simp [hx]))]
    simp [Nat.add_assoc, Nat.add_comm 1]
theorem readF_excl : ∀ (l : List Md) (n : Nat) (f : Fl) (i : Nat) (t : Str), i ≠ 0 → (∀ m ∈ l, mdErr m = 0) → readF (n + l.length) f i (mlines excW l ++ t) = readF n { f with excl := f.excl ++ l } (i + l.length) t
  | [], n, f, i, t, _, _ => by simp [mlines_nil]
  | m :: l, n, f, i, t, hi, h => by
    rw [mlines_cons, List.append_assoc, List.length_cons, ← Nat.add_assoc, readF, if_neg (fun h => mline_ne _ h.1), cut_mline (by decide) (h m (by simp))]
    have hl : lineF f (mline excW m) i = (true, { f with excl := f.excl ++ [m] }) := by
      unfold lineF
      rw [if_neg hi, split_mline (by decide) (h m (by simp))]
      simp [show ¬ excW = reqW by decide]
    rw [hl, if_pos ⟨rfl, rfl⟩]
    show readF (n + l.length) { f with excl := f.excl ++ [m] } (i + 1) (mlines excW l ++ t) = _
    rw [readF_excl l n _ (i + 1) t (by omega) (fun x hx => h x (by simp [hx]))]
    simp [Nat.add_assoc, Nat.add_comm 1]
theorem mlines_len (w : Str) : ∀ l : List Md, l.length ≤ (mlines w l).length
  | [] => Nat.le_refl _
  | m :: l => by
    have := mlines_len w l
    rw [mlines_cons, List.length_append, List.length_append, List.length_cons]
    simp; omega

/-- what was written is read -/
theorem file_back {f : Fl} (h : (fileErr f).1 = 0) (h8 : (fileTxt f).length ≤ 8000) : fileRead (fileTxt f) = (f, 0, -1) := by
  have hr := right_of h
  have hp := path_no hr.path 32 (by decide) (by decide)
  have hp2 := path_no hr.path 10 (by decide) (by decide)
  have hfirst : cut (fileTxt f) [10] = (modW ++ [32] ++ f.path, mlines reqW f.reqs ++ mlines excW f.excl, true) := by
    have : (10 : UInt8) ∉ modW ++ [32] ++ f.path := by
      simp only [List.mem_append]
      rintro ((h | h) | h)
      · revert h; decide
      · revert h; decide
      · exact hp2 h
    have := cut_at (b := mlines reqW f.reqs ++ mlines excW f.excl) this
    rw [← this]
    unfold fileTxt
    simp
  have hsplit : split (modW ++ [32] ++ f.path) [32] = [modW, f.path] := by
    have hw : ∀ x ∈ [modW, f.path], (32 : UInt8) ∉ x := by
      intro x hx
      simp at hx
      rcases hx with rfl | rfl
      · decide
      · exact hp
    have := split_sp (l := [modW, f.path]) (by simp) hw
    rw [join_two, show join [f.path] [32] = f.path from join_one f.path [32]] at this
    exact this
  have hline : lineF noFl (modW ++ [32] ++ f.path) 0 = (true, { noFl with path := f.path }) := by
    unfold lineF
    rw [if_pos rfl, hsplit]
    simp
  have hread : ∀ k, readF (k + 1 + f.excl.length + f.reqs.length + 1) noFl 0 (fileTxt f) = (f, none) := by
    intro k
    rw [readF, if_neg (by simp), hfirst, hline, if_pos ⟨rfl, rfl⟩]
    show readF (k + 1 + f.excl.length + f.reqs.length) { noFl with path := f.path } (0 + 1) (mlines reqW f.reqs ++ mlines excW f.excl) = _
    rw [readF_reqs f.reqs _ _ _ _ (by decide) rfl hr.mem.1]
    have := readF_excl f.excl (k + 1) { path := f.path, reqs := [] ++ f.reqs, excl := [] } (0 + 1 + f.reqs.length) [] (by omega) hr.mem.2
    rw [List.append_nil] at this
    show readF (k + 1 + f.excl.length) { path := f.path, reqs := [] ++ f.reqs, excl := [] } (0 + 1 + f.reqs.length) (mlines excW f.excl) = _
    rw [this, readF, if_pos ⟨rfl, by omega⟩]
    simp
  unfold fileRead
  rw [if_neg (by omega)]
  have hf := readF_fuel ((fileTxt f).length + 1) ((fileTxt f).length + 1 + f.excl.length + f.reqs.length + 1) noFl 0 (fileTxt f) (by omega) (by omega)
  rw [hf, hread]
  simp only
  rw [if_neg (by simp [h])]

/-! ### set, drop -/
def lowAt (p : Str) : List Md → Nat
  | [] => 0
  | a :: r => if compareBytes a.1 p < 0 then lowAt p r + 1 else 0
def setAt (l : List Md) (m : Md) : List Md :=
  if (l[lowAt m.1 l]?.map (·.1)) = some m.1 then l.take (lowAt m.1 l) ++ m :: l.drop (lowAt m.1 l + 1) else l.take (lowAt m.1 l) ++ m :: l.drop (lowAt m.1 l)
def fileSet (f : Fl) (m : Md) : Fl × Nat :=
  if (fileErr f).1 ≠ 0 then (noFl, (fileErr f).1)
  else if (fileErr { f with reqs := setAt f.reqs m }).1 ≠ 0 then (noFl, (fileErr { f with reqs := setAt f.reqs m }).1)
  else ({ f with reqs := setAt f.reqs m }, 0)
def fileDrop (f : Fl) (p : Str) : Fl × Nat :=
  if (fileErr f).1 ≠ 0 then (noFl, (fileErr f).1)
  else if findI (fun m : Md => decide (m.1 = p)) f.reqs < 0 then (noFl, 5)
  else ({ f with reqs := f.reqs.filter fun m => !decide (m.1 = p) }, 0)
end Go.Proofs.Pw

/- FileBack: what was set is required; dropped it is not; all else stays. No program in sight. -/
namespace Go.Proofs.Pw
open Go.Lib hiding intOf

def hasP (p : Str) (m : Md) : Bool := decide (m.1 = p)
theorem findI_eq_none {α : Type} {p : α → Bool} {l : List α} : findI p l < 0 ↔ ∀ x ∈ l, p x = false := by
  unfold findI
  cases h : l.findIdx? p with
  | none =>
    rw [List.findIdx?_eq_none_iff] at h
    exact ⟨fun _ => h, fun _ => by decide⟩
  | some k =>
    rw [List.findIdx?_eq_some_iff_getElem] at h
    obtain ⟨hk, h1, _⟩ := h
    constructor
    · intro h; simp only at h; omega
    · intro h
      rw [h _ (List.getElem_mem hk)] at h1
      cases h1
theorem findI_spec {α : Type} {p : α → Bool} {l : List α} {k : Nat} (h : findI p l = k) : ∃ x, l[k]? = some x ∧ p x = true := by
  unfold findI at h
  cases hf : l.findIdx? p with
  | none => rw [hf] at h; simp only at h; omega
  | some j =>
    rw [hf] at h
    simp only at h
    obtain rfl : j = k := by omega
    rw [List.findIdx?_eq_some_iff_getElem] at hf
    obtain ⟨hk, h1, _⟩ := hf
    exact ⟨_, List.getElem?_eq_getElem hk, h1⟩

theorem lowAt_le (p : Str) : ∀ l : List Md, lowAt p l ≤ l.length
  | [] => Nat.le_refl _
  | a :: r => by
    unfold lowAt
    split
    · have := lowAt_le p r; simp; omega
    · simp
theorem lowAt_less (p : Str) : ∀ (l : List Md) (j : Nat) (x : Md), j < lowAt p l → l[j]? = some x → compareBytes x.1 p < 0
  | [], j, x, h, _ => absurd h (Nat.not_lt_zero _)
  | a :: r, j, x, h, hx => by
    unfold lowAt at h
    split at h
    · rename_i hlt
      cases j with
      | zero => simp at hx; subst hx; exact hlt
      | succ j => exact lowAt_less p r j x (by omega) (by simpa using hx)
    · exact absurd h (Nat.not_lt_zero _)
theorem lowAt_stop (p : Str) : ∀ (l : List Md) (x : Md), l[lowAt p l]? = some x → ¬ compareBytes x.1 p < 0
  | [], x, h => by simp at h
  | a :: r, x, h => by
    unfold lowAt at h
    split at h
    · exact lowAt_stop p r x (by simpa using h)
    · rename_i hn
      simp at h; subst h; exact hn

/-- the paths rise -/
def RiseP (l : List Md) : Prop := l.Pairwise fun a b => compareBytes a.1 b.1 < 0
theorem compareBytes_self (a : Str) : compareBytes a a = 0 := compareBytes_ord.self a
theorem cb_trans {a b c : Str} (h1 : compareBytes a b < 0) (h2 : compareBytes b c < 0) : compareBytes a c < 0 := by
  have h := compareBytes_ord
  have a1 := h.tr a b c (by omega) (by omega)
  rcases Int.lt_or_eq_of_le a1 with a2 | a2
  · exact a2
  · exfalso
    have a3 := h.zero a2
    have a4 := h.tr c a b (by omega) (by omega)
    have a5 := (h.anti b c).1 h2
    omega
theorem Right.rise {f : Fl} (h : Right f) : RiseP f.reqs := by
  have step : ∀ i, i + 1 < f.reqs.length → compareBytes (mdAt f.reqs i).1 (mdAt f.reqs (i + 1)).1 < 0 := by
    intro i hi
    have h1 := h.req (i + 1) hi
    unfold reqE at h1
    have h0 := h.mem.1 _ (mdAt_mem hi)
    rw [if_neg (by simp [h0])] at h1
    split at h1
    · cases h1
    · split at h1
      · cases h1
      · rename_i h2
        rw [Nat.add_sub_cancel] at h2
        have h3 : ¬ compareBytes (mdAt f.reqs (i + 1)).1 (mdAt f.reqs i).1 ≤ 0 := fun e => h2 ⟨Nat.succ_pos _, e⟩
        exact (compareBytes_ord.anti _ _).2 (by omega)
  have all : ∀ j i, i < j → j < f.reqs.length → compareBytes (mdAt f.reqs i).1 (mdAt f.reqs j).1 < 0 := by
    intro j
    induction j with
    | zero => intro i hi; exact absurd hi (Nat.not_lt_zero _)
    | succ j ih =>
      intro i hi hj
      by_cases e : i = j
      · subst e; exact step i hj
      · exact cb_trans (ih i (by omega) (by omega)) (step j hj)
  unfold RiseP
  rw [List.pairwise_iff_getElem]
  intro i j hi hj hij
  have e : ∀ k (hk : k < f.reqs.length), mdAt f.reqs k = f.reqs[k] := fun k hk => by
    have := mdAt_get hk
    rw [List.getElem?_eq_getElem hk] at this
    exact (Option.some.inj this).symm
  have := all j i hij hj
  rw [e i hi, e j hj] at this
  exact this
theorem RiseP.unique : ∀ {l : List Md}, RiseP l → ∀ {a b : Md}, a ∈ l → b ∈ l → a.1 = b.1 → a = b
  | [], _, _, _, h, _, _ => by simp at h
  | x :: r, h, a, b, ha, hb, e => by
    have h1 := List.pairwise_cons.1 h
    rcases List.mem_cons.1 ha with ea | ha' <;> rcases List.mem_cons.1 hb with eb | hb'
    · rw [ea, eb]
    · have := h1.1 b hb'
      rw [← ea, e, compareBytes_self] at this
      omega
    · have := h1.1 a ha'
      rw [← eb, e, compareBytes_self] at this
      omega
    · exact RiseP.unique h1.2 ha' hb' e

theorem setAt_cases (l : List Md) (m : Md) : (∃ x, l[lowAt m.1 l]? = some x ∧ x.1 = m.1 ∧ setAt l m = l.take (lowAt m.1 l) ++ m :: l.drop (lowAt m.1 l + 1)) ∨ ((∀ x, l[lowAt m.1 l]? = some x → x.1 ≠ m.1) ∧ setAt l m = l.take (lowAt m.1 l) ++ m :: l.drop (lowAt m.1 l)) := by
  unfold setAt
  cases h : l[lowAt m.1 l]? with
  | none => right; exact ⟨fun x hx => (by cases hx), by simp⟩
  | some x =>
    by_cases e : x.1 = m.1
    · left; exact ⟨x, rfl, e, by simp [e]⟩
    · right; exact ⟨fun y hy => (by cases hy; exact e), by simp [e]⟩
theorem take_less (p : Str) (l : List Md) {x : Md} (h : x ∈ l.take (lowAt p l)) : compareBytes x.1 p < 0 := by
  obtain ⟨j, hj⟩ := List.getElem?_of_mem h
  have hl := (List.getElem?_eq_some_iff.1 hj).1
  rw [List.length_take] at hl
  rw [List.getElem?_take, if_pos (by omega)] at hj
  exact lowAt_less p l j x (by omega) hj
theorem take_ne (p : Str) (l : List Md) {x : Md} (h : x ∈ l.take (lowAt p l)) : x.1 ≠ p := fun e => by
  have := take_less p l h
  rw [e, compareBytes_self] at this
  omega
/-- with the module behind the beginning -/
theorem set_find {l r : List Md} {m : Md} : findI (hasP m.1) (l.take (lowAt m.1 l) ++ m :: r) = lowAt m.1 l ∧ (l.take (lowAt m.1 l) ++ m :: r)[lowAt m.1 l]? = some m := by
  have hl : (l.take (lowAt m.1 l)).length = lowAt m.1 l := by rw [List.length_take]; have := lowAt_le m.1 l; omega
  have hg : (l.take (lowAt m.1 l) ++ m :: r)[lowAt m.1 l]? = some m := by
    rw [List.getElem?_append_right (by omega), hl, Nat.sub_self]; rfl
  refine ⟨findI_hit hg (by simp [hasP]) (fun j y hj hy => ?_), hg⟩
  rw [List.getElem?_append_left (by omega)] at hy
  exact decide_eq_false (take_ne m.1 l (List.mem_of_getElem? hy))
theorem setAt_find (l : List Md) (m : Md) : findI (hasP m.1) (setAt l m) = lowAt m.1 l ∧ (setAt l m)[lowAt m.1 l]? = some m := by
  rcases setAt_cases l m with ⟨x, _, _, e⟩ | ⟨_, e⟩ <;> (rw [e]; exact set_find)

theorem drop_ne {l : List Md} (h : RiseP l) (m : Md) (hne : ∀ x, l[lowAt m.1 l]? = some x → x.1 ≠ m.1) : ∀ x ∈ l, x.1 ≠ m.1 := by
  intro x hx e
  obtain ⟨j, hj⟩ := List.getElem?_of_mem hx
  have hjl := (List.getElem?_eq_some_iff.1 hj).1
  rcases Nat.lt_trichotomy j (lowAt m.1 l) with h1 | h1 | h1
  · have := lowAt_less m.1 l j x h1 hj
    rw [e, compareBytes_self] at this
    omega
  · subst h1
    exact hne x hj e
  · have hk : lowAt m.1 l < l.length := by omega
    have hs := lowAt_stop m.1 l _ (List.getElem?_eq_getElem hk)
    have := List.pairwise_iff_getElem.1 h (lowAt m.1 l) j hk hjl h1
    have e2 : l[j] = x := by rw [List.getElem?_eq_getElem hjl] at hj; exact Option.some.inj hj
    rw [e2, e] at this
    exact hs this
theorem setAt_len {l : List Md} (h : RiseP l) (m : Md) : (findI (hasP m.1) l < 0 → (setAt l m).length = l.length + 1) ∧ (0 ≤ findI (hasP m.1) l → (setAt l m).length = l.length) := by
  have hle := lowAt_le m.1 l
  rcases setAt_cases l m with ⟨x, hx, e1, e⟩ | ⟨hne, e⟩
  · have hk := (List.getElem?_eq_some_iff.1 hx).1
    constructor
    · intro hn
      have := findI_eq_none.1 hn x (List.mem_of_getElem? hx)
      unfold hasP at this
      rw [decide_eq_false_iff_not] at this
      exact absurd e1 this
    · intro _
      rw [e, List.length_append, List.length_cons, List.length_take, List.length_drop]
      omega
  · have hall := drop_ne h m hne
    constructor
    · intro _
      rw [e, List.length_append, List.length_cons, List.length_take, List.length_drop]
      omega
    · intro hp
      have : findI (hasP m.1) l < 0 := findI_eq_none.2 (fun x hx => decide_eq_false (hall x hx))
      omega
theorem setAt_filter (l : List Md) (m : Md) : (setAt l m).filter (fun x => !hasP m.1 x) = l.filter fun x => !hasP m.1 x := by
  rcases setAt_cases l m with ⟨x, hx, e1, e⟩ | ⟨_, e⟩
  · have hk := (List.getElem?_eq_some_iff.1 hx).1
    have hl : l = l.take (lowAt m.1 l) ++ x :: l.drop (lowAt m.1 l + 1) := by
      have e2 : l[lowAt m.1 l] = x := by rw [List.getElem?_eq_getElem hk] at hx; exact Option.some.inj hx
      rw [← e2, ← List.drop_eq_getElem_cons hk, List.take_append_drop]
    rw [e]
    conv => rhs; rw [hl]
    simp [List.filter_append, hasP, e1]
  · have hl : l.filter (fun x => !hasP m.1 x) = (l.take (lowAt m.1 l) ++ l.drop (lowAt m.1 l)).filter (fun x => !hasP m.1 x) := by rw [List.take_append_drop]
    rw [e, hl, List.filter_append, List.filter_append, List.filter_cons, if_neg (by simp [hasP])]
theorem filter_less {l : List Md} (h : RiseP l) {m : Md} (hm : m ∈ l) : (l.filter fun x => !hasP m.1 x).length + 1 = l.length := by
  induction l with
  | nil => simp at hm
  | cons a r ih =>
    have h1 := List.pairwise_cons.1 h
    rw [List.filter_cons]
    rcases List.mem_cons.1 hm with rfl | hm
    · have : (r.filter fun x => !hasP m.1 x) = r := by
        rw [List.filter_eq_self]
        intro x hx
        have := h1.1 x hx
        have hne : ¬ x.1 = m.1 := fun e => by rw [e, compareBytes_self] at this; omega
        simp [hasP, hne]
      rw [if_neg (by simp [hasP]), this, List.length_cons]
    · have h2 := h1.1 m hm
      have hne : ¬ a.1 = m.1 := fun e => by rw [e, compareBytes_self] at h2; omega
      rw [if_pos (by simp [hasP, hne]), List.length_cons, List.length_cons, ih h1.2 hm]
/-- all else stays -/
theorem stays {l : List Md} (h : RiseP l) (p : Str) {x : Md} (hx : x ∈ l) : (findI (hasP x.1) (l.filter fun y => !hasP p y) < 0 ↔ x.1 = p) ∧ ∀ k : Nat, findI (hasP x.1) (l.filter fun y => !hasP p y) = k → (l.filter fun y => !hasP p y)[k]? = some x := by
  constructor
  · rw [findI_eq_none]
    constructor
    · intro hn
      by_cases e : x.1 = p
      · exact e
      · have := hn x (List.mem_filter.2 ⟨hx, by simp [hasP, e]⟩)
        simp [hasP] at this
    · intro e y hy
      have := (List.mem_filter.1 hy).2
      unfold hasP at this ⊢
      rw [e]
      simpa using this
  · intro k hk
    obtain ⟨y, hy, hp⟩ := findI_spec hk
    have hyl := (List.mem_filter.1 (List.mem_of_getElem? hy)).1
    have e : y.1 = x.1 := by simpa [hasP] using hp
    rw [hy, h.unique hyl hx e]
end Go.Proofs.Pw

/- Plain mathematics of package index: what is wrong with an index; the place of a module. No program in sight. -/
namespace Go.Proofs.Pw
open Go.Lib hiding intOf

structure En where
  md : Md
  reqs : List Md
  packs : List Str
  back : Bool
def noEn : En := ⟨([], []), [], [], false⟩
def enAt (l : List En) (i : Nat) : En := l.getD i noEn
theorem enAt_get {l : List En} {i : Nat} (h : i < l.length) : l[i]? = some (enAt l i) := by
  unfold enAt
  rw [List.getD_eq_getElem?_getD, List.getElem?_eq_getElem h]; rfl
theorem enAt_mem {l : List En} {i : Nat} (h : i < l.length) : enAt l i ∈ l := List.mem_of_getElem? (enAt_get h)
theorem enAt_elem {l : List En} {i : Nat} (h : i < l.length) : enAt l i = l[i] := by
  have := enAt_get h
  rw [List.getElem?_eq_getElem h] at this
  exact (Option.some.inj this).symm

/-! ### what is wrong -/
def reqsErr (e : En) : Nat := if 20 < e.reqs.length then 7 else (firstE (reqE e.md.1 e.reqs) e.reqs.length).1
def packOk (s : Str) : Bool := decide (s = [46]) || decide (pathErr s = 0)
def packE (l : List Str) (i : Nat) : Nat := if 0 < i ∧ compareBytes (l.getD i []) (l.getD (i - 1) []) ≤ 0 then 8 else 0
def packsErr (e : En) : Nat := if 10 < e.packs.length then 7 else if e.packs.all packOk then (firstE (packE e.packs) e.packs.length).1 else 1
def entErr (l : List En) (i : Nat) : Nat :=
  if mdErr (enAt l i).md ≠ 0 then mdErr (enAt l i).md
  else if 0 < i ∧ modAhead (enAt l (i - 1)).md (enAt l i).md = false then 8
  else if reqsErr (enAt l i) ≠ 0 then reqsErr (enAt l i) else packsErr (enAt l i)
def isMd (m : Md) (e : En) : Bool := decide (e.md = m)
def findE (l : List En) (m : Md) : Int := findI (isMd m) l
def lost (l : List En) (m : Md) : Bool := decide (findE l m < 0)
def lostE (l : List En) (i : Nat) : Nat := if (enAt l i).reqs.any (lost l) then 5 else 0
def idxErr (l : List En) : Nat × Int :=
  if 100 < l.length then (7, -1) else orE (firstE (entErr l) l.length) (firstE (lostE l) l.length)

/-! ### what is right of an index that is right -/
theorem findE_lt {l : List En} {m : Md} : findE l m < 0 ↔ ∀ e ∈ l, e.md ≠ m := by
  unfold findE
  rw [findI_eq_none]
  exact ⟨fun h e he => of_decide_eq_false (h e he), fun h e he => decide_eq_false (h e he)⟩
theorem findE_at {l : List En} {m : Md} {k : Nat} (h : findE l m = k) : k < l.length ∧ (enAt l k).md = m := by
  obtain ⟨x, hx, hp⟩ := findI_spec h
  have hl := (List.getElem?_eq_some_iff.1 hx).1
  rw [enAt_get hl] at hx
  exact ⟨hl, by rw [Option.some.inj hx]; exact of_decide_eq_true hp⟩
theorem findE_nat {l : List En} {m : Md} (h : ¬ findE l m < 0) : ∃ k : Nat, findE l m = k ∧ k < l.length ∧ (enAt l k).md = m :=
  have h0 : findE l m = ((findE l m).toNat : Int) := by omega
  ⟨(findE l m).toNat, h0, findE_at h0⟩

structure RightI (l : List En) : Prop where
  len : l.length ≤ 100
  mds : ∀ e ∈ l, mdErr e.md = 0
  rise : Rises modCmp (l.map (·.md))
  reqs : ∀ e ∈ l, reqsErr e = 0
  packs : ∀ e ∈ l, packsErr e = 0
  all : ∀ e ∈ l, ∀ m ∈ e.reqs, ∃ x ∈ l, x.md = m
theorem entErr_zero {l : List En} {i : Nat} (h : entErr l i = 0) : mdErr (enAt l i).md = 0 ∧ (0 < i → modAhead (enAt l (i - 1)).md (enAt l i).md = true) ∧ reqsErr (enAt l i) = 0 ∧ packsErr (enAt l i) = 0 := by
  unfold entErr at h
  by_cases h1 : mdErr (enAt l i).md = 0
  · rw [if_neg (by simp [h1])] at h
    by_cases h2 : 0 < i ∧ modAhead (enAt l (i - 1)).md (enAt l i).md = false
    · rw [if_pos h2] at h; cases h
    · rw [if_neg h2] at h
      by_cases h3 : reqsErr (enAt l i) = 0
      · rw [if_neg (by simp [h3])] at h
        refine ⟨h1, fun hi => ?_, h3, h⟩
        cases h4 : modAhead (enAt l (i - 1)).md (enAt l i).md
        · exact absurd ⟨hi, h4⟩ h2
        · rfl
      · rw [if_pos h3] at h; exact absurd h h3
  · rw [if_pos h1] at h; exact absurd h h1
theorem rises_step {α : Type} {f : α → α → Int} (hf : Ord3 f) {l : List α} (h : ∀ i (h1 : i + 1 < l.length), f l[i] l[i + 1] < 0) : Rises f l := by
  have tr : ∀ a b c, f a b < 0 → f b c < 0 → f a c < 0 := fun a b c h1 h2 => by
    have a1 := hf.tr a b c (by omega) (by omega)
    rcases Int.lt_or_eq_of_le a1 with a2 | a2
    · exact a2
    · exfalso
      have a3 := hf.zero a2
      have a4 := hf.tr c a b (by omega) (by omega)
      have a5 := (hf.anti b c).1 h2
      omega
  have all : ∀ j i (hij : i < j) (hj : j < l.length), f l[i] l[j] < 0 := by
    intro j
    induction j with
    | zero => intro i hi; exact absurd hi (Nat.not_lt_zero _)
    | succ j ih =>
      intro i hi hj
      by_cases e : i = j
      · subst e; exact h i hj
      · exact tr _ _ _ (ih i (by omega) (by omega)) (h j hj)
  unfold Rises
  rw [List.pairwise_iff_getElem]
  exact fun i j _ hj hij => all j i hij hj
theorem mem_enAt {l : List En} {e : En} (h : e ∈ l) : ∃ i, i < l.length ∧ enAt l i = e := by
  obtain ⟨i, hi⟩ := List.getElem?_of_mem h
  have hl := (List.getElem?_eq_some_iff.1 hi).1
  rw [enAt_get hl] at hi
  exact ⟨i, hl, Option.some.inj hi⟩
theorem rightI_of {l : List En} (h : (idxErr l).1 = 0) : RightI l := by
  unfold idxErr at h
  by_cases h0 : 100 < l.length
  · rw [if_pos h0] at h; cases h
  · rw [if_neg h0, orE_zero] at h
    have h1 := fun i hi => entErr_zero (firstE_zero h.1 i hi)
    have h2 := firstE_zero h.2
    have hm : ∀ e ∈ l, mdErr e.md = 0 := fun e he => by
      obtain ⟨i, hi, rfl⟩ := mem_enAt he
      exact (h1 i hi).1
    refine ⟨by omega, hm, rises_step modCmp_ord fun i hi => ?_, fun e he => ?_, fun e he => ?_, fun e he m hme => ?_⟩
    · rw [List.length_map] at hi
      have := (h1 (i + 1) hi).2.1 (by omega)
      rw [Nat.add_sub_cancel, modAhead_iff (hm _ (enAt_mem (by omega))) (hm _ (enAt_mem hi)), enAt_elem (by omega), enAt_elem hi] at this
      simpa using of_decide_eq_true this
    · obtain ⟨i, hi, rfl⟩ := mem_enAt he
      exact (h1 i hi).2.2.1
    · obtain ⟨i, hi, rfl⟩ := mem_enAt he
      exact (h1 i hi).2.2.2
    · obtain ⟨i, hi, rfl⟩ := mem_enAt he
      have h3 := h2 i hi
      unfold lostE at h3
      by_cases h4 : (enAt l i).reqs.any (lost l) = true
      · rw [if_pos h4] at h3; cases h3
      · have h5 : lost l m = false := by
          cases h6 : lost l m
          · rfl
          · exact absurd (List.any_eq_true.2 ⟨m, hme, h6⟩) h4
        unfold lost at h5
        rw [decide_eq_false_iff_not] at h5
        obtain ⟨k, _, hk, e⟩ := findE_nat h5
        exact ⟨_, enAt_mem hk, e⟩
theorem idxErr_at {l : List En} (h : (idxErr l).1 = 0) : (idxErr l).2 = -1 := by
  unfold idxErr at h ⊢
  by_cases h0 : 100 < l.length
  · rw [if_pos h0] at h; cases h
  · rw [if_neg h0] at h ⊢
    rw [orE_zero] at h
    unfold orE
    rw [if_neg (by simp [h.1]), firstE_none (firstE_zero h.2)]
theorem RightI.req {l : List En} (h : RightI l) {e : En} (he : e ∈ l) : ∀ m ∈ e.reqs, mdErr m = 0 := fun m hm => by
  obtain ⟨x, hx, rfl⟩ := h.all e he m hm
  exact h.mds x hx
/-- no two of one module -/
theorem rises_inj {α β : Type} {f : α → α → Int} (hf : Ord3 f) {k : β → α} : ∀ {l : List β}, Rises f (l.map k) → ∀ {a b : β}, a ∈ l → b ∈ l → k a = k b → a = b
  | [], _, _, _, h, _, _ => by simp at h
  | x :: r, h, a, b, ha, hb, e => by
    have h1 := List.pairwise_cons.1 h
    rcases List.mem_cons.1 ha with ea | ha' <;> rcases List.mem_cons.1 hb with eb | hb'
    · rw [ea, eb]
    · have := h1.1 (k b) (List.mem_map_of_mem hb')
      rw [← ea, e, hf.self] at this
      omega
    · have := h1.1 (k a) (List.mem_map_of_mem ha')
      rw [← eb, e, hf.self] at this
      omega
    · exact rises_inj hf h1.2 ha' hb' e
theorem RightI.one {l : List En} (h : RightI l) {a b : En} (ha : a ∈ l) (hb : b ∈ l) (e : a.md = b.md) : a = b := rises_inj modCmp_ord (k := (·.md)) h.rise ha hb e

/-! ### entries as they lie in memory -/
def enF (n : Nat) (P V : Nat → ByteArray) (R : Nat → List Md) (K : Nat → List Str) (B : Nat → Bool) : List En := (List.range n).map fun j => ⟨((P j).data.toList, (V j).data.toList), R j, K j, B j⟩
theorem enF_length (n P V R K B) : (enF n P V R K B).length = n := by simp [enF]
theorem enF_get (n P V R K B) (j : Nat) (h : j < n) : (enF n P V R K B)[j]? = some ⟨((P j).data.toList, (V j).data.toList), R j, K j, B j⟩ := by simp [enF, h]
theorem enAt_enF {n P V R K B} {j : Nat} (h : j < n) : enAt (enF n P V R K B) j = ⟨((P j).data.toList, (V j).data.toList), R j, K j, B j⟩ := by
  unfold enAt
  rw [List.getD_eq_getElem?_getD, enF_get n P V R K B j h]; rfl
end Go.Proofs.Pw

/- Plain mathematics of package graph: what is reached from roots. No program in sight. -/
namespace Go.Proofs.Pw
open Go.Lib hiding intOf

inductive Reached (l : List En) (roots : List Md) : Md → Prop
  | root {m : Md} : m ∈ roots → Reached l roots m
  | step {e : En} {r : Md} : e ∈ l → Reached l roots e.md → r ∈ e.reqs → Reached l roots r

noncomputable def isReached (l : List En) (roots : List Md) (m : Md) : Bool := @decide (Reached l roots m) (Classical.propDecidable _)
theorem isReached_iff {l : List En} {roots : List Md} {m : Md} : isReached l roots m = true ↔ Reached l roots m := by
  unfold isReached
  exact @decide_eq_true_iff _ (Classical.propDecidable _)
noncomputable def reachL (l : List En) (roots : List Md) : List Md := (l.map (·.md)).filter (isReached l roots)

def rootE (l : List En) (roots : List Md) (i : Nat) : Nat := if findE l (mdAt roots i) < 0 then 5 else 0
def rootsErr (l : List En) (roots : List Md) : Nat × Int := firstE (rootE l roots) roots.length
def startErr (l : List En) (roots : List Md) : Nat × Int := orE (idxErr l) (rootsErr l roots)

/-- roots of an index, both right -/
structure RightG (l : List En) (roots : List Md) : Prop where
  idx : RightI l
  at_ : ∀ m ∈ roots, ∃ e ∈ l, e.md = m
theorem rootsErr_zero {l : List En} {roots : List Md} : (rootsErr l roots).1 = 0 ↔ ∀ m ∈ roots, ∃ e ∈ l, e.md = m := by
  constructor
  · intro h m hm
    obtain ⟨i, hi⟩ := List.getElem?_of_mem hm
    have hl := (List.getElem?_eq_some_iff.1 hi).1
    have h1 := firstE_zero h i hl
    unfold rootE at h1
    rw [mdAt_get hl] at hi
    rw [Option.some.inj hi] at h1
    by_cases h2 : findE l m < 0
    · rw [if_pos h2] at h1; cases h1
    · obtain ⟨k, _, hk, e⟩ := findE_nat h2
      exact ⟨_, enAt_mem hk, e⟩
  · intro h
    unfold rootsErr
    rw [firstE_none fun i hi => ?_]
    unfold rootE
    rw [if_neg]
    rw [findE_lt]
    obtain ⟨e, he, h1⟩ := h _ (mdAt_mem hi)
    exact fun h2 => h2 e he h1
theorem rightG_of {l : List En} {roots : List Md} (h : (startErr l roots).1 = 0) : RightG l roots := by
  unfold startErr at h
  rw [orE_zero] at h
  exact ⟨rightI_of h.1, rootsErr_zero.1 h.2⟩
theorem startErr_app {l : List En} {a b : List Md} : (startErr l (a ++ b)).1 = 0 ↔ (startErr l a).1 = 0 ∧ (startErr l b).1 = 0 := by
  unfold startErr
  rw [orE_zero, orE_zero, orE_zero, rootsErr_zero, rootsErr_zero, rootsErr_zero]
  constructor
  · rintro ⟨h1, h2⟩
    exact ⟨⟨h1, fun m hm => h2 m (by simp [hm])⟩, h1, fun m hm => h2 m (by simp [hm])⟩
  · rintro ⟨⟨h1, h2⟩, _, h3⟩
    refine ⟨h1, fun m hm => ?_⟩
    rcases List.mem_append.1 hm with h | h
    · exact h2 m h
    · exact h3 m h
theorem startErr_at {l : List En} {roots : List Md} (h : (startErr l roots).1 = 0) : startErr l roots = (0, -1) := by
  unfold startErr at h ⊢
  rw [orE_zero] at h
  unfold orE
  rw [if_neg (by simp [h.1])]
  unfold rootsErr at h ⊢
  exact firstE_none (firstE_zero h.2)

theorem reached_closed {l : List En} {roots T : List Md} (h1 : ∀ m ∈ roots, m ∈ T) (h2 : ∀ e ∈ l, e.md ∈ T → ∀ r ∈ e.reqs, r ∈ T) {m : Md} (h : Reached l roots m) : m ∈ T := by
  induction h with
  | root hm => exact h1 _ hm
  | step he _ hr ih => exact h2 _ he ih _ hr
theorem RightG.entry {l : List En} {roots : List Md} (h : RightG l roots) {m : Md} (hm : Reached l roots m) : ∃ e ∈ l, e.md = m := by
  induction hm with
  | root hm => exact h.at_ _ hm
  | step he _ hr _ => exact h.idx.all _ he _ hr
theorem RightG.mem {l : List En} {roots : List Md} (h : RightG l roots) {m : Md} : m ∈ reachL l roots ↔ Reached l roots m := by
  unfold reachL
  rw [List.mem_filter, isReached_iff]
  exact ⟨fun h => h.2, fun hm => by
    obtain ⟨e, he, h1⟩ := h.entry hm
    exact ⟨List.mem_map.2 ⟨e, he, h1⟩, hm⟩⟩
theorem reachL_rises {l : List En} (h : RightI l) (roots : List Md) : Rises modCmp (reachL l roots) := List.Pairwise.sublist List.filter_sublist h.rise
/-- a rising list of all that is reached -/
theorem RightG.is {l : List En} {roots x : List Md} (h : RightG l roots) (hx : Rises modCmp x) (hm : ∀ m, m ∈ x ↔ Reached l roots m) : x = reachL l roots :=
  rises_ext modCmp_ord hx (reachL_rises h.idx roots) fun m => by rw [hm, h.mem]
theorem reached_sub {l : List En} {a b : List Md} (h : ∀ m ∈ a, Reached l b m) {m : Md} (hm : Reached l a m) : Reached l b m := by
  induction hm with
  | root hm => exact h _ hm
  | step he _ hr ih => exact .step he ih hr
theorem reached_app {l : List En} {a b : List Md} {m : Md} : Reached l (a ++ b) m ↔ Reached l a m ∨ Reached l b m := by
  constructor
  · intro h
    induction h with
    | root hm =>
      rcases List.mem_append.1 hm with h | h
      · exact .inl (.root h)
      · exact .inr (.root h)
    | step he _ hr ih =>
      rcases ih with h | h
      · exact .inl (.step he h hr)
      · exact .inr (.step he h hr)
  · rintro (h | h)
    · exact reached_sub (fun m hm => .root (by simp [hm])) h
    · exact reached_sub (fun m hm => .root (by simp [hm])) h
theorem RightG.right {l : List En} {roots : List Md} (h : RightG l roots) {m : Md} (hm : Reached l roots m) : mdErr m = 0 := by
  obtain ⟨e, he, rfl⟩ := h.entry hm
  exact h.idx.mds e he
end Go.Proofs.Pw

/- Plain mathematics of the references' marks: a set of places that grows till it is closed is what is reached. No program in sight. -/
namespace Go.Proofs.Pw
open Go.Lib hiding intOf

def setM (M : Nat → Bool) (k : Nat) : Nat → Bool := fun j => if j = k then true else M j
theorem setM_same (M : Nat → Bool) (k : Nat) : setM M k k = true := by simp [setM]
theorem setM_of {M : Nat → Bool} {j : Nat} (k : Nat) (h : M j = true) : setM M k j = true := by unfold setM; split <;> simp [*]
theorem setM_true {M : Nat → Bool} {j k : Nat} (h : setM M k j = true) : j = k ∨ M j = true := by
  unfold setM at h
  split at h
  · exact .inl ‹_›
  · exact .inr h
theorem setM_id {M : Nat → Bool} {k : Nat} (h : M k = true) : setM M k = M := by
  funext j
  unfold setM
  split
  · rename_i e; rw [e, h]
  · rfl
/-- how many are not marked -/
def leftM (n : Nat) (M : Nat → Bool) : Nat := (List.range n).countP fun j => !M j
theorem leftM_le {n : Nat} {M M' : Nat → Bool} (h : ∀ j, M j = true → M' j = true) : leftM n M' ≤ leftM n M :=
  List.countP_mono_left fun j _ hj => by
    cases hM : M j
    · rfl
    · rw [h j hM] at hj; exact hj
theorem leftM_set {n : Nat} {M : Nat → Bool} {k : Nat} (hk : k < n) (h : M k = false) : leftM n (setM M k) < leftM n M := by
  unfold leftM
  induction n with
  | zero => exact absurd hk (Nat.not_lt_zero _)
  | succ n ih =>
    rw [List.range_succ, List.countP_append, List.countP_append]
    by_cases e : k = n
    · subst e
      have h1 : List.countP (fun j => !setM M k j) [k] = 0 := by simp [setM]
      have h2 : List.countP (fun j => !M j) [k] = 1 := by simp [h]
      have h3 := leftM_le (n := k) (M := M) (M' := setM M k) (fun j hj => setM_of k hj)
      unfold leftM at h3
      omega
    · have h1 := ih (by omega)
      have h2 : List.countP (fun j => !setM M k j) [n] = List.countP (fun j => !M j) [n] := by
        have : setM M k n = M n := by unfold setM; rw [if_neg (fun h => e h.symm)]
        simp only [List.countP_cons, List.countP_nil, this]
      rw [h2]
      omega

/-- what is marked is reached -/
def SoundM (l : List En) (roots : List Md) (M : Nat → Bool) : Prop := ∀ j, j < l.length → M j = true → Reached l roots (enAt l j).md
/-- what a marked place requires is marked -/
def ClosedM (l : List En) (M : Nat → Bool) (i : Nat) : Prop := M i = true → ∀ r ∈ (enAt l i).reqs, M (findE l r).toNat = true
theorem RightI.at_ {l : List En} (_h : RightI l) {m : Md} {e : En} (he : e ∈ l) (hm : e.md = m) : (findE l m).toNat < l.length ∧ findE l m = ((findE l m).toNat : Int) ∧ (enAt l (findE l m).toNat).md = m := by
  have h0 : ¬ findE l m < 0 := fun h => findE_lt.1 h e he hm
  obtain ⟨k, h1, h2, h3⟩ := findE_nat h0
  rw [h1]
  exact ⟨h2, rfl, h3⟩
theorem RightI.place {l : List En} (h : RightI l) {j : Nat} (hj : j < l.length) : findE l (enAt l j).md = (j : Int) := by
  obtain ⟨h1, h2, h3⟩ := h.at_ (enAt_mem hj) rfl
  rw [h2]
  have := rises_inj modCmp_ord (k := (·.md)) h.rise (enAt_mem h1) (enAt_mem hj) h3
  have hnd : ∀ (i k : Nat), i < l.length → k < l.length → i < k → (enAt l i).md ≠ (enAt l k).md := fun i k hi hk hik e => by
    have hp := List.pairwise_iff_getElem.1 h.rise i k (by simpa using hi) (by simpa using hk) hik
    rw [List.getElem_map, List.getElem_map, ← enAt_elem hi, ← enAt_elem hk, e, modCmp_ord.self] at hp
    exact absurd hp (by decide)
  rcases Nat.lt_trichotomy (findE l (enAt l j).md).toNat j with h5 | h5 | h5
  · exact absurd h3 (hnd _ _ h1 hj h5)
  · rw [h5]
  · exact absurd h3.symm (hnd _ _ hj h1 h5)
theorem soundM_root {l : List En} {roots : List Md} {M : Nat → Bool} (hG : RightG l roots) (h : SoundM l roots M) {m : Md} (hm : m ∈ roots) : SoundM l roots (setM M (findE l m).toNat) := fun j hj hM => by
  obtain ⟨e, he, h1⟩ := hG.at_ m hm
  rcases setM_true hM with rfl | h2
  · rw [(hG.idx.at_ he h1).2.2]; exact .root hm
  · exact h j hj h2
theorem soundM_req {l : List En} {roots : List Md} {M : Nat → Bool} (hG : RightG l roots) (h : SoundM l roots M) {i : Nat} (hi : i < l.length) (hM0 : M i = true) {r : Md} (hr : r ∈ (enAt l i).reqs) : SoundM l roots (setM M (findE l r).toNat) := fun j hj hM => by
  obtain ⟨e, he, h1⟩ := hG.idx.all _ (enAt_mem hi) r hr
  rcases setM_true hM with rfl | h2
  · rw [(hG.idx.at_ he h1).2.2]; exact .step (enAt_mem hi) (h i hi hM0) hr
  · exact h j hj h2
/-- marked, closed: that is what is reached -/
theorem marks_done {l : List En} {roots : List Md} {M : Nat → Bool} (hG : RightG l roots) (hs : SoundM l roots M) (hr : ∀ m ∈ roots, M (findE l m).toNat = true) (hc : ∀ i, i < l.length → ClosedM l M i) {j : Nat} (hj : j < l.length) : M j = true ↔ Reached l roots (enAt l j).md := by
  refine ⟨hs j hj, fun h => ?_⟩
  have key : ∀ {m : Md}, Reached l roots m → M (findE l m).toNat = true := by
    intro m hm
    induction hm with
    | root hm => exact hr _ hm
    | step he h1 h2 ih =>
      obtain ⟨i, hi, e⟩ := mem_enAt he
      subst e
      rw [hG.idx.place hi] at ih
      exact hc i hi ih _ h2
  have := key h
  rw [hG.idx.place hj] at this
  exact this
end Go.Proofs.Pw

/- The walks of package ver, part 1: digits, number, worse, part. Conditions: the sentinels and the library's variables as EnvP says; texts of at most 4000000000 bytes. -/
namespace Go.Proofs.Pw
open Go.RowKit
open Go.Lib hiding intOf

theorem Tryz.isIface_err : Tryz.prog.isIface 29 = true := by kernel_rfl
theorem Tryz.err_comp : (Tryz.prog.info? 271).map (·.comparable) = some true := by kernel_rfl
theorem Tryz.err_size : (Tryz.prog.info? 273).map (·.size) = some 1 := by kernel_rfl

theorem trim_calls (s cs : ByteArray) (w : World) (hs : s.size ≤ 4000000000) (hc : cs.size ≤ 1000) (ha : ∀ b ∈ cs.data.toList, b.toNat < 128) :
    Calls Tryz.prog 171 #[.string s, .string cs] w fun e w' => e = .returned (.string ⟨(Lib.trimS s.data.toList cs.data.toList).toArray⟩) ∧ Below w.heap.size w w' :=
  Any.strings_Trim_laid Tryz.lays160 (by kernel_rfl) s cs w (by omega) (by omega) (fun j b h => ha b (List.mem_of_getElem? h))

theorem trimS_len (l cs : Str) : (trimS l cs).length ≤ l.length := by
  unfold trimS trimLeftS trimRightS
  refine Nat.le_trans (List.dropWhile_suffix _).length_le ?_
  rw [List.length_reverse]
  refine Nat.le_trans (List.dropWhile_suffix _).length_le ?_
  rw [List.length_reverse]
  exact Nat.le_refl _

theorem toList_mk (l : Str) : (⟨l.toArray⟩ : ByteArray).toList = l := by rw [toList_data]
theorem data_mk (l : Str) : (⟨l.toArray⟩ : ByteArray).data.toList = l := rfl
theorem isEmpty_toList (s : ByteArray) : s.toList.isEmpty = s.data.toList.isEmpty := by rw [toList_data]

theorem digits_calls (s : ByteArray) (w : World) (hs : s.size ≤ 4000000000) :
    Calls Tryz.prog 194 #[.string s] w fun e w' => e = .returned (.bool (areDigits s.data.toList)) ∧ Below w.heap.size w w' := by
  have HT := Lib.hid (trimS_nil_bool s.data.toList digitsSet isDig digitsSet_ok)
  cases he : s.data.toList.isEmpty with
  | true =>
    have h1 : s.toList.isEmpty = true := by rw [isEmpty_toList, he]
    have h2 : s.toList = [] := by simpa using h1
    have HD : Hid (areDigits s.data.toList = false) := by unfold areDigits; show _ = _; rw [he]; rfl
    clear he
    go_enter Tryz.func194, Tryz.ntmps194
    go_wp2_with fail
    go_ret
    exact ⟨by rw [HD.out]; simp, Below.refl _ _⟩
  | false =>
    have h1 : s.toList.isEmpty = false := by rw [isEmpty_toList, he]
    have h2 : (s.toList == []) = false := by simpa using h1
    have HD : Hid (areDigits s.data.toList = s.data.toList.all isDig) := by unfold areDigits; show _ = _; rw [he]; rfl
    clear he
    go_enter Tryz.func194, Tryz.ntmps194
    go_wp2_with fail
    refine (trim_calls _ _ _ hs (by decide) (by decide)).mono ?_
    rintro e w1 ⟨rfl, hb1⟩
    cases ha : s.data.toList.all isDig with
    | true =>
      have e1 : trimS s.data.toList (⟨#[48, 49, 50, 51, 52, 53, 54, 55, 56, 57]⟩ : ByteArray).data.toList = [] := by
        have := HT.out
        rw [ha] at this
        exact beq_iff_eq.1 this
      rw [e1]
      clear e1
      go_wp2_with fail
      go_ret
      exact ⟨by rw [HD.out, ha]; simp, hb1⟩
    | false =>
      have e1 : (trimS s.data.toList (⟨#[48, 49, 50, 51, 52, 53, 54, 55, 56, 57]⟩ : ByteArray).data.toList == []) = false := by
        have := HT.out
        rw [ha] at this
        exact this
      generalize trimS s.data.toList (⟨#[48, 49, 50, 51, 52, 53, 54, 55, 56, 57]⟩ : ByteArray).data.toList = t at e1 ⊢
      have e2 : (⟨t.toArray⟩ : ByteArray).toList.isEmpty = false := by rw [toList_mk]; simpa using e1
      clear e1
      go_wp2_with fail
      go_ret
      exact ⟨by rw [HD.out, ha]; simp_all, hb1⟩

/-- strconv.Atoi at digits alone: the number, or an error that is not nil -/
theorem atoi_calls (ks : List Nat) (A : Nat → Addr) (s : ByteArray) (w : World) (hE : EnvP ks A w) (hs : s.size ≤ 4000000000) (hd : areDigits s.data.toList = true) :
    Calls Tryz.prog 172 #[.string s] w fun e w' => ((∃ x te pe, e = .returned (.tuple #[.int .i64 x, .iface te pe]) ∧ 6 < s.size) ∨ (e = .returned (.tuple #[.int .i64 (decVal s.data.toList), .nilIface]))) ∧ Below w.heap.size w w' := by
  rcases atoiAll_digits hd with h | h
  · obtain ⟨te, pe, hr⟩ := hE.range
    refine (Tryz.strconv_Atoi_range s (by omega) h _ w hr (.inr ⟨te, pe, rfl⟩)).mono ?_
    rintro e w' ⟨N, rfl, _, _, hb⟩
    exact ⟨.inl ⟨_, _, _, rfl, by rw [size_eq]; exact atoiAll_range_long hd h⟩, hb⟩
  · refine (Tryz.strconv_Atoi_ok s (by omega) _ h w).mono ?_
    rintro e w' ⟨rfl, hw⟩
    refine ⟨.inr rfl, ?_⟩
    rcases hw with rfl | ⟨t, rfl⟩
    · exact Below.refl _ _
    · exact Lib.bytesWorld_below _ _ _

theorem numberOf_text {s : Str} (h : areDigits s = false ∨ (1 < s.length ∧ s.head? = some 48)) : numberOf s = (0, 1) := by unfold numberOf; rw [if_pos h]
theorem numberOf_long {s : Str} (h : ¬ (areDigits s = false ∨ (1 < s.length ∧ s.head? = some 48))) (hl : 6 < s.length) : numberOf s = (0, 2) := by unfold numberOf; rw [if_neg h, if_pos hl]
theorem numberOf_ok {s : Str} (h : ¬ (areDigits s = false ∨ (1 < s.length ∧ s.head? = some 48))) (hl : ¬ 6 < s.length) : numberOf s = (decVal s, 0) := by unfold numberOf; rw [if_neg h, if_neg hl]

/-- ver.number at what is no number -/
theorem number_text (ks : List Nat) (A : Nat → Addr) (s : ByteArray) (w : World) (hE : EnvP ks A w) (hs : s.size ≤ 4000000000) (hd : areDigits s.data.toList = false ∨ (areDigits s.data.toList = true ∧ 1 < s.data.toList.length ∧ s.data.toList.head? = some 48)) :
    Calls Tryz.prog 177 #[.string s] w fun e w' => e = .returned (.tuple #[.int .i64 0, errV A 1]) ∧ Below w.heap.size w w' := by
  rcases hd with hd | ⟨hd, hl, h0⟩
  · have HD := Lib.hid hd
    clear hd
    go_enter Tryz.func177, Tryz.ntmps177
    go_wp2_with fail
    refine (digits_calls _ _ hs).mono ?_
    rintro e w1 ⟨rfl, hb1⟩
    rw [HD.out]
    have hE1 := (hE.below hb1).errs.var 1 hE.has.1
    simp only [errG] at hE1
    go_wp2_with fail
    go_quiet (fail)
    go_wp2_with fail
    go_ret2
    exact ⟨rfl, Below.drewN hb1 _⟩
  · have HD := Lib.hid hd
    have hl' : 1 < s.size := by rw [size_eq]; exact hl
    have h0' : (s[0]'(by omega)) = 48 := by
      cases hsd : s.data.toList with
      | nil => rw [hsd] at hl; simp at hl
      | cons c r =>
        rw [hsd] at h0
        simp at h0
        have : s.data.toList[0]? = some 48 := by rw [hsd, h0]; rfl
        have h2 : s.data.toList[0]? = some (s[0]'(by omega)) := by
          rw [List.getElem?_eq_getElem (by rw [← size_eq]; omega)]; rfl
        rw [h2] at this
        exact Option.some.inj this
    have h0'' : ((s[0]'(by omega)).toNat : Int) = 48 := by rw [h0']; rfl
    clear hd hl h0 h0'
    go_enter Tryz.func177, Tryz.ntmps177
    go_wp2_with fail
    refine (digits_calls _ _ hs).mono ?_
    rintro e w1 ⟨rfl, hb1⟩
    rw [HD.out]
    have hE1 := (hE.below hb1).errs.var 1 hE.has.1
    simp only [errG] at hE1
    go_wp2_with fail
    go_quiet (fail)
    go_wp2_with fail
    go_ret2
    exact ⟨rfl, Below.drewN hb1 _⟩
set_option maxHeartbeats 400000 in
/-- ver.number at digits without needless zeros -/
theorem number_long (ks : List Nat) (A : Nat → Addr) (s : ByteArray) (w : World) (hE : EnvP ks A w) (hs : s.size ≤ 4000000000) (hd : areDigits s.data.toList = true) (hz : ¬ (1 < s.data.toList.length ∧ s.data.toList.head? = some 48)) (h6 : 6 < s.size) :
    Calls Tryz.prog 177 #[.string s] w fun e w' => e = .returned (.tuple #[.int .i64 0, errV A 2]) ∧ Below w.heap.size w w' := by
  have HD := Lib.hid hd
  have hv := decVal_small hd hz
  rw [← size_eq] at hv
  have HS := Lib.hid hv
  have hne : 0 < s.size := by
    rw [size_eq]
    cases hsd : s.data.toList with
    | nil => rw [hsd] at hd; simp [areDigits] at hd
    | cons c r => simp
  have h01 : (1 < s.size ∧ (((s[0]'hne).toNat : Int) == 48) = false) ∨ ¬ 1 < s.size := by
    by_cases h1 : 1 < s.size
    · refine .inl ⟨h1, ?_⟩
      rw [beq_eq_false_iff_ne]
      intro e
      apply hz
      refine ⟨by rw [← size_eq]; exact h1, ?_⟩
      have h2 : s.data.toList[0]? = some (s[0]'hne) := by
        rw [List.getElem?_eq_getElem (by rw [← size_eq]; omega)]; rfl
      rw [List.head?_eq_getElem?, h2]
      have : (s[0]'hne).toNat = 48 := by exact_mod_cast e
      rw [show (48 : UInt8) = UInt8.ofNat 48 from rfl, ← this, UInt8.ofNat_toNat]
    · exact .inr h1
  clear hd hz hv
  obtain ⟨h1, h2⟩ := h01.resolve_right (by omega)
  all_goals
    go_enter Tryz.func177, Tryz.ntmps177
    go_wp2_with fail
    refine (digits_calls _ _ hs).mono ?_
    rintro e w1 ⟨rfl, hb1⟩
    rw [HD.out]
    have hEa := hE.below hb1
    go_wp2_with fail
    refine (atoi_calls ks A _ _ hEa hs HD.out).mono ?_
    rintro e w2 ⟨hr, hb2⟩
    have hE2 := (hEa.below hb2).errs.var 2 hE.has.2
    simp only [errG] at hE2
    rcases hr with ⟨x, te, pe, rfl, h7⟩ | rfl
    · go_wp2_with fail
      go_quiet (fail)
      go_wp2_with fail
      go_ret2
      exact ⟨rfl, Below.drewN (below_step hb1 hb2) _⟩
    · have hbig : 999999 < decVal s.data.toList := by
        rcases Nat.lt_or_ge 999999 (decVal s.data.toList) with h | h
        · exact h
        · have := HS.out.1 h
          omega
      generalize decVal s.data.toList = v at hbig ⊢
      go_wp2_with fail
      go_quiet (fail)
      go_wp2_with fail
      go_ret2
      exact ⟨rfl, Below.drewN (below_step hb1 hb2) _⟩

set_option maxHeartbeats 400000 in
/-- ver.number at digits without needless zeros -/
theorem number_ok (ks : List Nat) (A : Nat → Addr) (s : ByteArray) (w : World) (hE : EnvP ks A w) (hs : s.size ≤ 4000000000) (hd : areDigits s.data.toList = true) (hz : ¬ (1 < s.data.toList.length ∧ s.data.toList.head? = some 48)) (h6 : ¬ 6 < s.size) :
    Calls Tryz.prog 177 #[.string s] w fun e w' => e = .returned (.tuple #[.int .i64 (decVal s.data.toList), errV A 0]) ∧ Below w.heap.size w w' := by
  have HD := Lib.hid hd
  have hv := decVal_small hd hz
  rw [← size_eq] at hv
  have HS := Lib.hid hv
  have hne : 0 < s.size := by
    rw [size_eq]
    cases hsd : s.data.toList with
    | nil => rw [hsd] at hd; simp [areDigits] at hd
    | cons c r => simp
  have h01 : (1 < s.size ∧ (((s[0]'hne).toNat : Int) == 48) = false) ∨ ¬ 1 < s.size := by
    by_cases h1 : 1 < s.size
    · refine .inl ⟨h1, ?_⟩
      rw [beq_eq_false_iff_ne]
      intro e
      apply hz
      refine ⟨by rw [← size_eq]; exact h1, ?_⟩
      have h2 : s.data.toList[0]? = some (s[0]'hne) := by
        rw [List.getElem?_eq_getElem (by rw [← size_eq]; omega)]; rfl
      rw [List.head?_eq_getElem?, h2]
      have : (s[0]'hne).toNat = 48 := by exact_mod_cast e
      rw [show (48 : UInt8) = UInt8.ofNat 48 from rfl, ← this, UInt8.ofNat_toNat]
    · exact .inr h1
  clear hd hz hv
  rcases h01 with ⟨h1, h2⟩ | h1
  all_goals
    go_enter Tryz.func177, Tryz.ntmps177
    go_wp2_with fail
    refine (digits_calls _ _ hs).mono ?_
    rintro e w1 ⟨rfl, hb1⟩
    rw [HD.out]
    have hEa := hE.below hb1
    go_wp2_with fail
    refine (atoi_calls ks A _ _ hEa hs HD.out).mono ?_
    rintro e w2 ⟨hr, hb2⟩
    have hE2 := (hEa.below hb2).errs.var 2 hE.has.2
    simp only [errG] at hE2
    rcases hr with ⟨x, te, pe, rfl, h7⟩ | rfl
    · exact absurd h7 h6
    · have hsm : decVal s.data.toList ≤ 999999 := HS.out.2 (by omega)
      go_wp2_with fail
      go_ret2
      exact ⟨rfl, below_step hb1 hb2⟩

theorem number_calls (ks : List Nat) (A : Nat → Addr) (s : ByteArray) (w : World) (hE : EnvP ks A w) (hs : s.size ≤ 4000000000) :
    Calls Tryz.prog 177 #[.string s] w fun e w' => e = .returned (.tuple #[.int .i64 ((numberOf s.data.toList).1 : Nat), errV A (numberOf s.data.toList).2]) ∧ Below w.heap.size w w' := by
  by_cases h : areDigits s.data.toList = false ∨ (1 < s.data.toList.length ∧ s.data.toList.head? = some 48)
  · rw [numberOf_text h]
    refine number_text ks A s w hE hs ?_
    cases hd : areDigits s.data.toList with
    | false => exact .inl rfl
    | true => exact .inr ⟨rfl, h.resolve_left (by rw [hd]; decide)⟩
  · have hd : areDigits s.data.toList = true := by simpa using fun e => h (.inl e)
    have hz : ¬ (1 < s.data.toList.length ∧ s.data.toList.head? = some 48) := fun e => h (.inr e)
    by_cases hl : 6 < s.data.toList.length
    · rw [numberOf_long h hl]
      exact number_long ks A s w hE hs hd hz (by rw [size_eq]; exact hl)
    · rw [numberOf_ok h hl]
      exact number_ok ks A s w hE hs hd hz (by rw [size_eq]; exact hl)

/-- ver.worse: text ahead of bound -/
theorem worse_calls (ks : List Nat) (A : Nat → Addr) (i j : Nat) (w : World) (hE : EnvP ks A w) (hi : i = 0 ∨ i ∈ ks) :
    Calls Tryz.prog 178 #[errV A i, errV A j] w fun e w' => e = .returned (errV A (worseN i j)) ∧ w = w' := by
  have hT := hE.errs.var 1 hE.has.1
  simp only [errG] at hT
  obtain ⟨i0, hi0, hcmp⟩ := Option.map_eq_some_iff.1 Tryz.err_comp
  obtain ⟨j0, hj0, hjs⟩ := Option.map_eq_some_iff.1 Tryz.err_size
  by_cases hi1 : i = 1
  · subst hi1
    have hw : worseN 1 j = 1 := by simp [worseN]
    rw [hw, errV_pos A (c := 1) (by decide)]
    have heq := run_eql_iface_ptr_same (P := Tryz.prog) w (A 1) Tryz.underlying29 Tryz.underlying271 hi0 hcmp hj0
    clear hw
    go_enter Tryz.func178, Tryz.ntmps178
    go_wp2_with fail
    go_ret
    exact ⟨rfl, rfl⟩
  · by_cases h0 : i = 0
    · subst h0
      have hw : worseN 0 j = j := by unfold worseN; split <;> simp_all
      rw [hw, errV_zero]
      have heq := run_eql_iface_nil_left (P := Tryz.prog) w 271 (.pointer (some (A 1))) Tryz.underlying29
      clear hw hi1 hi
      by_cases hj1 : j = 0
      · subst hj1
        rw [errV_zero]
        go_enter Tryz.func178, Tryz.ntmps178
        go_wp2_with fail
        go_ret
        exact ⟨rfl, rfl⟩
      · rw [errV_pos A hj1]
        clear hj1
        go_enter Tryz.func178, Tryz.ntmps178
        go_wp2_with fail
        go_ret
        exact ⟨rfl, rfl⟩
    · have hik := hi.resolve_left h0
      obtain ⟨ca, ta, ha⟩ := hE.errs.row i hik
      obtain ⟨cb, tb, hb⟩ := hE.errs.row 1 hE.has.1
      have heq := run_eql_iface_ptr_other (P := Tryz.prog) w Tryz.underlying29 Tryz.underlying271 hi0 hcmp hj0 (by rw [hjs]; decide) (fun e => hi1 (hE.errs.inj _ hik _ hE.has.1 e)) ha hb
      by_cases hj1 : j = 0
      · subst hj1
        have hw : worseN i 0 = i := by simp [worseN]
        rw [hw, errV_zero, errV_pos A h0]
        clear hw h0 hi1 hi
        go_enter Tryz.func178, Tryz.ntmps178
        go_wp2_with fail
        go_ret
        exact ⟨rfl, rfl⟩
      · have hw : worseN i j = j := by simp [worseN, hi1, hj1]
        rw [hw, errV_pos A h0, errV_pos A hj1]
        clear hw h0 hi1 hi hj1
        go_enter Tryz.func178, Tryz.ntmps178
        go_wp2_with fail
        go_ret
        exact ⟨rfl, rfl⟩

theorem partErr_text {s : Str} (h : s = [] ∨ 8 < s.length ∨ s.all isPartByte = false) : partErr s = 1 := by unfold partErr; rw [if_pos h]

set_option maxHeartbeats 400000 in
/-- ver.part: a part's error -/
theorem part_calls (ks : List Nat) (A : Nat → Addr) (s : ByteArray) (w : World) (hE : EnvP ks A w) (hs : s.size ≤ 4000000000) :
    Calls Tryz.prog 179 #[.string s] w fun e w' => e = .returned (errV A (partErr s.data.toList)) ∧ Below w.heap.size w w' := by
  have hT := hE.errs.var 1 hE.has.1
  simp only [errG] at hT
  have HP := Lib.hid (trimS_nil_bool s.data.toList partSet isPartByte partSet_ok)
  have hsz := size_eq s
  by_cases he : s.data.toList = []
  · rw [partErr_text (.inl he), errV_pos A (c := 1) (by decide)]
    have h1 : s.toList.isEmpty = true := by rw [isEmpty_toList, he]; rfl
    have h2 : s.toList = [] := by simpa using h1
    clear he hsz
    go_enter Tryz.func179, Tryz.ntmps179
    go_wp2_with fail
    go_ret
    exact ⟨rfl, Below.refl _ _⟩
  · have h1 : s.toList.isEmpty = false := by rw [isEmpty_toList]; simpa using he
    have h2 : (s.toList == []) = false := by simpa using h1
    by_cases hl : 8 < s.size
    · rw [partErr_text (.inr (.inl (by rw [← hsz]; exact hl))), errV_pos A (c := 1) (by decide)]
      clear he hsz
      go_enter Tryz.func179, Tryz.ntmps179
      go_wp2_with fail
      go_ret
      exact ⟨rfl, Below.refl _ _⟩
    · have HL := Lib.hid hsz
      have HE := Lib.hid he
      clear hsz he
      cases ha : s.data.toList.all isPartByte with
      | false =>
        rw [partErr_text (.inr (.inr ha)), errV_pos A (c := 1) (by decide)]
        have e1 : (trimS s.data.toList partSet == []) = false := by rw [HP.out, ha]
        clear ha
        go_enter Tryz.func179, Tryz.ntmps179
        go_wp2_with fail
        refine (trim_calls _ _ _ hs (by decide) (by decide)).mono ?_
        rintro e w1 ⟨rfl, hb1⟩
        have hT1 := Below.cell_some hb1 hT
        rw [show (⟨#[97, 98, 99, 100, 101, 102, 103, 104, 105, 106, 107, 108, 109, 110, 111, 112, 113, 114, 115, 116, 117, 118, 119, 120, 121, 122, 65, 66, 67, 68, 69, 70, 71, 72, 73, 74, 75, 76, 77, 78, 79, 80, 81, 82, 83, 84, 85, 86, 87, 88, 89, 90, 48, 49, 50, 51, 52, 53, 54, 55, 56, 57, 45]⟩ : ByteArray).data.toList = partSet from rfl]
        generalize trimS s.data.toList partSet = t at e1 ⊢
        have e2 : (⟨t.toArray⟩ : ByteArray).toList.isEmpty = false := by rw [toList_mk]; simpa using e1
        have e3 : t.isEmpty = false := by simpa using e1
        clear e1 hT
        go_wp2_with fail
        go_ret
        exact ⟨rfl, hb1⟩
      | true =>
        have e1 : trimS s.data.toList partSet = [] := by
          have := HP.out
          rw [ha] at this
          exact beq_iff_eq.1 this
        have hpe : partErr s.data.toList = if areDigits s.data.toList then (numberOf s.data.toList).2 else 0 := by
          unfold partErr
          rw [if_neg]
          rintro (h | h | h)
          · exact HE.out h
          · rw [← HL.out] at h; exact hl h
          · rw [ha] at h; exact absurd h (by decide)
        rw [hpe]
        clear hpe ha
        generalize hc : (if areDigits s.data.toList then (numberOf s.data.toList).2 else 0) = c
        have HC := Lib.hid hc
        clear hc
        have E1 := Lib.hid e1
        clear e1
        go_enter Tryz.func179, Tryz.ntmps179
        go_wp2_with fail
        refine (trim_calls _ _ _ hs (by decide) (by decide)).mono ?_
        rintro e w1 ⟨rfl, hb1⟩
        rw [show (⟨#[97, 98, 99, 100, 101, 102, 103, 104, 105, 106, 107, 108, 109, 110, 111, 112, 113, 114, 115, 116, 117, 118, 119, 120, 121, 122, 65, 66, 67, 68, 69, 70, 71, 72, 73, 74, 75, 76, 77, 78, 79, 80, 81, 82, 83, 84, 85, 86, 87, 88, 89, 90, 48, 49, 50, 51, 52, 53, 54, 55, 56, 57, 45]⟩ : ByteArray).data.toList = partSet from rfl, E1.out]
        go_wp2_with fail
        refine (digits_calls _ _ hs).mono ?_
        rintro e w2 ⟨rfl, hb2⟩
        cases hd : areDigits s.data.toList with
        | false =>
          obtain rfl : c = 0 := by have := HC.out; rw [hd] at this; exact this.symm
          clear hd
          go_wp2_with fail
          go_ret
          exact ⟨rfl, below_step hb1 hb2⟩
        | true =>
          obtain rfl : c = (numberOf s.data.toList).2 := by have := HC.out; rw [hd] at this; exact this.symm
          clear hd
          go_wp2_with fail
          refine (number_calls ks A _ _ ((hE.below hb1).below hb2) hs).mono ?_
          rintro e w3 ⟨rfl, hb3⟩
          go_wp2_with fail
          go_ret
          exact ⟨rfl, below_step (below_step hb1 hb2) hb3⟩
end Go.Proofs.Pw

/- The walks of package pat: matches, Match, Wild: what each computes, in the words of XMath. Conditions: texts of at most 4000000000 bytes; internal/bytealg.MaxLen holds some int. -/
namespace Go.Proofs.Pw
open Go.RowKit
open Go.Lib hiding intOf

theorem index_calls (s sub : ByteArray) (w : World) (hE : EnvM w) (hs : s.size ≤ 4000000000) :
    Calls Tryz.prog 203 #[.string s, .string sub] w fun e w' => e = .returned (.int .i64 (Lib.index s.data.toList sub.data.toList)) ∧ w = w' := by
  obtain ⟨m, hm⟩ := hE.maxLen
  exact (Tryz.strings_Index s sub m w (by omega) hm).mono fun e w' ⟨h, h2⟩ => ⟨h, h2.symm⟩
theorem contains_calls (s sub : ByteArray) (w : World) (hE : EnvM w) (hs : s.size ≤ 4000000000) :
    Calls Tryz.prog 175 #[.string s, .string sub] w fun e w' => e = .returned (.bool (Lib.contains s.data.toList sub.data.toList)) ∧ w = w' := by
  obtain ⟨m, hm⟩ := hE.maxLen
  exact (Tryz.strings_Contains s sub m w (by omega) hm).mono fun e w' ⟨h, h2⟩ => ⟨h, h2.symm⟩
theorem cutPrefix_calls (s p : ByteArray) (w : World) :
    Calls Tryz.prog 170 #[.string s, .string p] w fun e w' => e = .returned (.tuple #[.string ⟨(Lib.trimPrefix s.data.toList p.data.toList).toArray⟩, .bool (Lib.hasPrefix s.data.toList p.data.toList)]) ∧ w = w' :=
  (Tryz.strings_CutPrefix s p w).mono fun _ _ ⟨h, h2⟩ => ⟨h, h2.symm⟩
/-- strings.Split: a new row of pieces -/
theorem split_calls (s sep : ByteArray) (w : World) (hE : EnvM w) (hs : s.size ≤ 4000000000) (h1 : 1 ≤ sep.size) :
    Calls Tryz.prog 124 #[.string s, .string sep] w fun e w' => ∃ n, e = .returned (.slice (some ⟨w.heap.size, 0, none⟩) n n) ∧ 1 ≤ n ∧ n ≤ s.size + 1 ∧
      Hid (lstF n (splitL s sep) = split s.data.toList sep.data.toList) ∧ Below w.heap.size w w' ∧ (∀ j, j < n → w'.cell? ⟨w.heap.size, j, none⟩ = some (.string (splitL s sep j))) ∧ w.heap.size < w'.heap.size := by
  obtain ⟨m, hm⟩ := hE.maxLen
  refine (Tryz.strings_Split s sep m w (by omega) hm h1).mono fun e w' ⟨h, h2⟩ => ?_
  refine ⟨_, h, by omega, by have := countB_le sep h1 s.size s (Nat.le_refl _); omega, splitL_lstF s sep h1, h2 ▸ below_alloc _ _, ?_, by rw [h2]; simp⟩
  intro j hj
  have hl := splitB_all sep h1 0 _ s rfl
  rw [h2, World.cell?_alloc_at _ _ _ _ rfl]
  simp only [List.getElem?_toArray, List.getElem?_map, splitL]
  rw [List.getElem?_eq_getElem (by omega)]
  simp [List.getD_eq_getElem?_getD, List.getElem?_eq_getElem (show j < (splitB sep 0 (countB s sep) s).length by omega)]

end Go.Proofs.Pw

/- ver.Split: its walk. Conditions: EnvP; a text of at most 1000000000 bytes. -/
namespace Go.Proofs.Pw
open Go.RowKit
open Go.Lib hiding intOf

theorem cut_calls (s sep : ByteArray) (w : World) (hE : EnvM w) (hs : s.size ≤ 4000000000) :
    Calls Tryz.prog 176 #[.string s, .string sep] w fun e w' => e = .returned (.tuple #[.string ⟨(Lib.cut s.data.toList sep.data.toList).1.toArray⟩, .string ⟨(Lib.cut s.data.toList sep.data.toList).2.1.toArray⟩, .bool (Lib.cut s.data.toList sep.data.toList).2.2]) ∧ Below w.heap.size w w' := by
  obtain ⟨m, hm⟩ := hE.maxLen
  refine (Tryz.strings_Cut s sep m w (by omega) hm).mono ?_
  rintro e w' ⟨rfl, n, rfl⟩
  exact ⟨rfl, Below.drewN (Below.refl _ _) _⟩

theorem cut_le (s sep : Str) : (cut s sep).1.length ≤ s.length ∧ (cut s sep).2.1.length ≤ s.length := by
  unfold cut
  split
  · exact ⟨by simp [List.length_take]; omega, by simp⟩
  · exact ⟨Nat.le_refl _, by simp⟩

/-- a slice of texts, as it is read -/
def StrsAt (w : World) (v : Value) (l : List Str) : Prop :=
  ∃ a n cap L, v = .slice a n cap ∧ l = lstF n L ∧ n ≤ cap ∧ cap ≤ 9223372036854775807 ∧ ∀ j, j < n → ∃ b o, a = some ⟨b, o, none⟩ ∧ w.cell? ⟨b, o + j, none⟩ = some (.string (L j))
theorem StrsAt.below {w w' : World} {v : Value} {l : List Str} (h : StrsAt w v l) (hb : Below w.heap.size w w') : StrsAt w' v l := by
  obtain ⟨a, n, cap, L, h1, h2, h3, h4, h5⟩ := h
  exact ⟨a, n, cap, L, h1, h2, h3, h4, fun j hj => let ⟨b, o, e1, e2⟩ := h5 j hj; ⟨b, o, e1, Below.cell_some hb e2⟩⟩
theorem StrsAt.nil (w : World) : StrsAt w (.slice none 0 0) [] := ⟨none, 0, 0, fun _ => ByteArray.empty, rfl, rfl, Nat.le_refl _, by decide, fun j hj => absurd hj (Nat.not_lt_zero _)⟩

/-- a fresh Parts in its box -/
structure Box4 (w : World) (b : Nat) (v0 v1 v2 v3 : Value) : Prop where
  c0 : w.cell? ⟨b, 0, none⟩ = some v0
  c1 : w.cell? ⟨b, 1, none⟩ = some v1
  c2 : w.cell? ⟨b, 2, none⟩ = some v2
  c3 : w.cell? ⟨b, 3, none⟩ = some v3
  fr : ∀ j, w.frozen? ⟨b, j, none⟩ = false
theorem Box4.below {w w' : World} {b : Nat} {v0 v1 v2 v3 : Value} (h : Box4 w b v0 v1 v2 v3) (hb : Below w.heap.size w w') : Box4 w' b v0 v1 v2 v3 :=
  ⟨Below.cell_some hb h.c0, Below.cell_some hb h.c1, Below.cell_some hb h.c2, Below.cell_some hb h.c3, fun j => (hb.frozen (p := ⟨b, j, none⟩) (show b < w.heap.size from lt_of_cell h.c0)).trans (h.fr j)⟩
theorem box4_alloc (w : World) (v0 v1 v2 v3 : Value) (t : TypeId) : Box4 (w.alloc (.cells #[v0, v1, v2, v3] t)) w.heap.size v0 v1 v2 v3 :=
  ⟨by simp, by simp, by simp, by simp, fun j => by simp⟩

set_option maxHeartbeats 1000000 in
/-- what is no version by its outer form -/
theorem verSplit_form (ks : List Nat) (A : Nat → Addr) (s : ByteArray) (w : World) (hE : EnvP ks A w) (hs : s.size ≤ 1000000000) (hf : hasPrefix s.data.toList [118] = false ∨ (hasPrefix s.data.toList [118] = true ∧ (verWords s.data.toList).length ≠ 3)) :
    Calls Tryz.prog 130 #[.string s] w fun e w' => e = .returned (.tuple #[.agg #[.int .i64 0, .int .i64 0, .int .i64 0, .slice none 0 0], errV A 1]) ∧ Below w.heap.size w w' := by
  have ht : (trimPrefix s.data.toList [118]).length ≤ s.size := by rw [size_eq s]; exact trimPrefix_le _ _
  have hc1 := (cut_le (trimPrefix s.data.toList [118]) [45]).1
  have ht4 : (⟨(trimPrefix s.data.toList [118]).toArray⟩ : ByteArray).size ≤ 4000000000 := Nat.le_trans ht (by omega)
  have hc4 : (⟨(cut (trimPrefix s.data.toList [118]) [45]).1.toArray⟩ : ByteArray).size ≤ 4000000000 := Nat.le_trans hc1 (Nat.le_trans ht (by omega))
  have h5 : ∀ n, (Hid (lstF n (splitL ⟨(cut (trimPrefix s.data.toList [118]) [45]).1.toArray⟩ ⟨#[46]⟩) = split (cut (trimPrefix s.data.toList [118]) [45]).1 [46])) → n = (verWords s.data.toList).length := fun n h => by
    have := congrArg List.length h.out
    rw [lstF_length] at this
    exact this
  have hgo : (hasPrefix s.data.toList [118] = false ∨ (hasPrefix s.data.toList [118] = true ∧ (((verWords s.data.toList).length : Nat) : Int) ≠ 3)) := by
    rcases hf with hf | ⟨hf, hl⟩
    · exact .inl hf
    · exact .inr ⟨hf, by omega⟩
  clear hf
  rcases hgo with hf | ⟨hf, hl⟩
  all_goals
    go_enter Tryz.func130, Tryz.ntmps130
    go_wp2_with fail
    have hb0 := below_alloc w (.cells #[.int .i64 0, .int .i64 0, .int .i64 0, .slice none 0 0] 143)
    refine (cutPrefix_calls _ _ _).mono ?_
    rintro e w1 ⟨rfl, hw1⟩
    subst hw1
    rw [show (⟨#[118]⟩ : ByteArray).data.toList = [118] from rfl, hf]
    have hE0 := hE.below hb0
    go_wp2_with fail
    refine (cut_calls _ _ _ hE0.m ht4).mono ?_
    rintro e w2 ⟨rfl, hb1⟩
    have hE1 := hE0.below hb1
    have hb01 := below_step hb0 hb1
    have hz0 := (box4_alloc w (.int .i64 0) (.int .i64 0) (.int .i64 0) (.slice none 0 0) 143).below hb1
    go_wp2_with fail
    refine (split_calls _ ⟨#[46]⟩ _ hE1.m hc4 (by decide)).mono ?_
    rintro e w3 ⟨n, rfl, hn1, hn2, HL, hb2, hc2, hz2⟩
    have hn := h5 n HL
    have hE2 := hE1.below hb2
    have hb02 := below_step hb01 hb2
    have hz2 := hz0.below hb2
    have g1 := hE2.errs.var 1 hE2.has.1
    simp only [errG] at g1
    have hn3 : n ≤ 1000000001 := Nat.le_trans hn2 (Nat.succ_le_succ (Nat.le_trans hc1 (Nat.le_trans ht hs)))
    try rw [← hn, ← beq_eq_false_iff_ne] at hl
    clear hn HL h5 hc2 hb1 hb2 hb01 hE0 hE1 hE2
    obtain ⟨z0, z1, z2, z3, zf⟩ := hz2
    have zf0 := zf 0
    have zf1 := zf 1
    have zf2 := zf 2
    have zf3 := zf 3
    clear zf
    have g0 := hE.errs.var 1 hE.has.1
    simp only [errG] at g0
    have hne : 4 ≠ w.heap.size := Nat.ne_of_lt (lt_of_cell g0)
    clear g0
    have hne' : w.heap.size ≠ 4 := hne.symm
    go_wp2_with fail
    go_region
    go_wp2_with fail
    have hne3 := hne
    refine bodyPost_ret (v := .tuple #[.agg #[.int .i64 0, .int .i64 0, .int .i64 0, .slice none 0 0], errV A 1]) (by simp [results, Tryz.results130, go_sem, *, errV]) rfl ⟨rfl, ?_⟩
    exact ((((hb02.setCell (Nat.le_refl _) _).setCell (Nat.le_refl _) _).setCell (Nat.le_refl _) _).setCell (Nat.le_refl _) _).drew
end Go.Proofs.Pw

/- ver.Split: the long way: three words behind v. -/
namespace Go.Proofs.Pw
open Go.RowKit
open Go.Lib hiding intOf

theorem split_mem_le (sub : Str) (hs : sub ≠ []) : ∀ (n : Nat) (s : Str), s.length ≤ n → ∀ w ∈ split s sub, w.length ≤ s.length
  | n, s, hn, w, hw => by
    have hge := index_ge s sub
    by_cases h1 : index s sub = -1
    · rw [split_none h1] at hw
      simp at hw
      subst hw
      exact Nat.le_refl _
    · obtain ⟨i, hi⟩ : ∃ i : Nat, index s sub = i := ⟨(index s sub).toNat, by omega⟩
      have hr := index_room s sub (by omega)
      have hp : 0 < sub.length := List.length_pos_iff.2 hs
      rw [split_hit hs hi] at hw
      rcases List.mem_cons.1 hw with rfl | hw
      · simp only [List.length_take]; omega
      · cases n with
        | zero => omega
        | succ n =>
          have := split_mem_le sub hs n (s.drop (i + sub.length)) (by simp only [List.length_drop]; omega) w hw
          simp only [List.length_drop] at this
          omega
theorem lstF_mem_le {n : Nat} {L : Nat → ByteArray} {s sub : Str} (hs : sub ≠ []) (h : lstF n L = split s sub) (j : Nat) (hj : j < n) : (L j).size ≤ s.length := by
  rw [size_eq]
  refine split_mem_le sub hs s.length s (Nat.le_refl _) _ ?_
  rw [← h]
  exact List.mem_of_getElem? (lstF_get n L j hj)

/-- the three numbers so far -/
def numAt (L : Nat → ByteArray) (k j : Nat) : Int := if j < k then ((numberOf (L j).data.toList).1 : Int) else 0
theorem numAt_zero (L j) : numAt L 0 j = 0 := by simp [numAt]
theorem numAt_new (L) (k : Nat) : numAt L (k + 1) k = ((numberOf (L k).data.toList).1 : Int) := by simp [numAt]
theorem numAt_old (L) (k j : Nat) (h : j ≠ k) : numAt L (k + 1) j = numAt L k j := by
  unfold numAt
  by_cases h2 : j < k
  · rw [if_pos h2, if_pos (by omega)]
  · rw [if_neg h2, if_neg (by omega)]

structure Nums (w : World) (b : Nat) (L : Nat → ByteArray) (k : Nat) : Prop where
  c : ∀ j, j < 3 → w.cell? ⟨b, j, none⟩ = some (.int .i64 (numAt L k j))
  fr : ∀ j, w.frozen? ⟨b, j, none⟩ = false
theorem Nums.below {w w' : World} {b : Nat} {L : Nat → ByteArray} {k : Nat} (h : Nums w b L k) (hb : Below w.heap.size w w') : Nums w' b L k :=
  ⟨fun j hj => Below.cell_some hb (h.c j hj), fun j => (hb.frozen (p := ⟨b, j, none⟩) (show b < w.heap.size from lt_of_cell (h.c 0 (by decide)))).trans (h.fr j)⟩
theorem nums_alloc (w : World) (t : TypeId) (L : Nat → ByteArray) : Nums (w.alloc (.cells #[.int .i64 0, .int .i64 0, .int .i64 0] t)) w.heap.size L 0 :=
  ⟨fun j hj => by rw [numAt_zero]; obtain rfl | rfl | rfl : j = 0 ∨ j = 1 ∨ j = 2 := by omega
                  all_goals simp, fun j => by simp⟩
theorem Nums.step {w : World} {b : Nat} {L : Nat → ByteArray} {k : Nat} (h : Nums w b L k) (hk : k < 3) : Nums (w.setCell ⟨b, k, none⟩ (.int .i64 ((numberOf (L k).data.toList).1 : Nat))) b L (k + 1) := by
  refine ⟨fun j hj => ?_, fun j => by simp [h.fr]⟩
  by_cases e : j = k
  · subst e
    rw [numAt_new]
    exact World.cell?_setCell_same _ _ _ (h.c j hj)
  · rw [numAt_old _ _ _ e, World.cell?_setCell_other _ _ _ _ (fun h2 => e (by injection h2 with _ h3 _; exact h3.symm))]
    exact h.c j hj

theorem Box4.set3 {w : World} {b : Nat} {v0 v1 v2 v3 : Value} (h : Box4 w b v0 v1 v2 v3) (v : Value) : Box4 (w.setCell ⟨b, 3, none⟩ v) b v0 v1 v2 v := by
  refine ⟨?_, ?_, ?_, World.cell?_setCell_same _ _ _ h.c3, fun j => by simp [h.fr]⟩
  · rw [World.cell?_setCell_other _ _ _ _ (by intro e; injection e with _ e2 _; exact absurd e2 (by decide))]; exact h.c0
  · rw [World.cell?_setCell_other _ _ _ _ (by intro e; injection e with _ e2 _; exact absurd e2 (by decide))]; exact h.c1
  · rw [World.cell?_setCell_other _ _ _ _ (by intro e; injection e with _ e2 _; exact absurd e2 (by decide))]; exact h.c2
theorem Box4.set_far {w : World} {b : Nat} {v0 v1 v2 v3 : Value} (h : Box4 w b v0 v1 v2 v3) (p : Addr) (hp : p.block ≠ b) (v : Value) : Box4 (w.setCell p v) b v0 v1 v2 v3 := by
  have k : ∀ o, (w.setCell p v).cell? ⟨b, o, none⟩ = w.cell? ⟨b, o, none⟩ := fun o => World.cell?_setCell_other _ _ _ _ (fun e => hp (by rw [e]))
  exact ⟨(k 0).trans h.c0, (k 1).trans h.c1, (k 2).trans h.c2, (k 3).trans h.c3, fun j => by simp [h.fr]⟩
/-- a slice of texts whose row is no block b -/
structure StrsAt' (w : World) (v : Value) (l : List Str) (b : Nat) : Prop where
  at_ : StrsAt w v l
  ne : ∀ q n c, v = .slice (some q) n c → q.block ≠ b
theorem StrsAt'.set {w : World} {v : Value} {l : List Str} {b : Nat} (h : StrsAt' w v l b) (o : Nat) (u : Value) : StrsAt' (w.setCell ⟨b, o, none⟩ u) v l b := by
  obtain ⟨a, n, cap, L, h1, h2, h3, h4, h5⟩ := h.at_
  refine ⟨⟨a, n, cap, L, h1, h2, h3, h4, fun j hj => ?_⟩, h.ne⟩
  obtain ⟨c, o', e1, e2⟩ := h5 j hj
  refine ⟨c, o', e1, ?_⟩
  rw [World.cell?_setCell_other]
  · exact e2
  · intro e
    subst e1
    exact h.ne _ _ _ h1 (by injection e with e _ _; exact e.symm)

theorem numAt_three (L : Nat → ByteArray) (s : Str) (h : lstF 3 L = verWords s) (hv : verErr s = 0) (j : Nat) (hj : j < 3) : numAt L 3 j = ((verNum s j : Nat) : Int) := by
  unfold numAt verNum
  rw [if_pos hj, if_pos hv, ← h, List.getD_eq_getElem?_getD, lstF_get 3 L j hj]
  rfl
theorem verNum_bad {s : Str} (h : verErr s ≠ 0) (j : Nat) : verNum s j = 0 := by unfold verNum; rw [if_neg h]
theorem verPre_bad {s : Str} (h : verErr s ≠ 0) : verPre s = [] := by unfold verPre; rw [if_neg h]
theorem verPre_ok {s : Str} (h : verErr s = 0) : verPre s = verPres s := by unfold verPre; rw [if_pos h]

set_option maxHeartbeats 2000000 in
set_option maxRecDepth 100000 in
theorem verSplit_three (ks : List Nat) (A : Nat → Addr) (s : ByteArray) (w : World) (hE : EnvP ks A w) (hs : s.size ≤ 1000000000) (hf : hasPrefix s.data.toList [118] = true) (hl : (verWords s.data.toList).length = 3) :
    Calls Tryz.prog 130 #[.string s] w fun e w' => Below w.heap.size w w' ∧ ∃ v, e = .returned (.tuple #[.agg #[.int .i64 (verNum s.data.toList 0 : Nat), .int .i64 (verNum s.data.toList 1 : Nat), .int .i64 (verNum s.data.toList 2 : Nat), v], errV A (verErr s.data.toList)]) ∧ StrsAt w' v (verPre s.data.toList) := by
  have ht : (trimPrefix s.data.toList [118]).length ≤ s.size := by rw [size_eq s]; exact trimPrefix_le _ _
  have hc1 := (cut_le (trimPrefix s.data.toList [118]) [45])
  have ht4 : (⟨(trimPrefix s.data.toList [118]).toArray⟩ : ByteArray).size ≤ 4000000000 := Nat.le_trans ht (by omega)
  have hc4 : (⟨(cut (trimPrefix s.data.toList [118]) [45]).1.toArray⟩ : ByteArray).size ≤ 4000000000 := Nat.le_trans hc1.1 (Nat.le_trans ht (by omega))
  have hp4 : (⟨(cut (trimPrefix s.data.toList [118]) [45]).2.1.toArray⟩ : ByteArray).size ≤ 1000000000 := Nat.le_trans hc1.2 (Nat.le_trans ht hs)
  have h5 : ∀ n L, (Hid (lstF n L = split (cut (trimPrefix s.data.toList [118]) [45]).1 [46])) → n = 3 ∧ lstF 3 L = verWords s.data.toList := fun n L h => by
    have := congrArg List.length h.out
    rw [lstF_length] at this
    have e : n = 3 := this.trans hl
    subst e
    exact ⟨rfl, h.out⟩
  have HW : Hid (verWords s.data.toList = split (cut (trimPrefix s.data.toList [118]) [45]).1 [46]) := Lib.hid rfl
  have HP : Hid (verPres s.data.toList = if (cut (trimPrefix s.data.toList [118]) [45]).2.2 then split (cut (trimPrefix s.data.toList [118]) [45]).2.1 [46] else []) := Lib.hid rfl
  have HV : Hid (verErr s.data.toList = verErrs s.data.toList) := Lib.hid (by unfold verErr; rw [if_neg]; rw [hf, hl]; simp)
  have HF := Lib.hid hf
  clear hf hl
  go_enter Tryz.func130, Tryz.ntmps130
  go_wp2_with fail
  have hb0 := below_alloc w (.cells #[.int .i64 0, .int .i64 0, .int .i64 0, .slice none 0 0] 143)
  refine (cutPrefix_calls _ _ _).mono ?_
  rintro e w1 ⟨rfl, hw1⟩
  subst hw1
  rw [show (⟨#[118]⟩ : ByteArray).data.toList = [118] from rfl, HF.out]
  have hE0 := hE.below hb0
  go_wp2_with fail
  refine (cut_calls _ _ _ hE0.m ht4).mono ?_
  rintro e w2 ⟨rfl, hb1⟩
  have hE1 := hE0.below hb1
  have hb01 := below_step hb0 hb1
  have hz0 := (box4_alloc w (.int .i64 0) (.int .i64 0) (.int .i64 0) (.slice none 0 0) 143).below hb1
  have hz0s : w.heap.size < w2.heap.size := lt_of_cell hz0.c0
  rw [show (⟨#[45]⟩ : ByteArray).data.toList = [45] from rfl]
  rw [data_mk]
  generalize hH : (cut (trimPrefix s.data.toList [118]) [45]).1 = hd at hc4 h5 HW ⊢
  generalize hG : (cut (trimPrefix s.data.toList [118]) [45]).2.1 = pr at hp4 HP ⊢
  generalize hB : (cut (trimPrefix s.data.toList [118]) [45]).2.2 = has at HP ⊢
  clear hH hG hB hc1 ht4 ht
  go_wp2_with fail
  refine (split_calls _ ⟨#[46]⟩ _ hE1.m hc4 (by decide)).mono ?_
  rintro e w3 ⟨n, rfl, hn1, hn2, HL, hb2, hc2, hz2⟩
  obtain ⟨rfl, hn⟩ := h5 n _ HL
  have hE2 := hE1.below hb2
  have hb02 := below_step hb01 hb2
  have hz2 := hz0.below hb2
  have HN := Lib.hid hn
  have hLs := lstF_mem_le (by decide) HL.out
  rw [data_mk] at hLs
  have hhd : hd.length ≤ 4000000000 := hc4
  generalize splitL ⟨hd.toArray⟩ ⟨#[46]⟩ = L at hc2 HN hLs ⊢
  have hLs4 : ∀ j, j < 3 → (L j).size ≤ 4000000000 := fun j hj => Nat.le_trans (hLs j hj) hhd
  have hHC := Lib.hid hc2
  clear hn h5 hb1 hb2 hb01 hE0 hE1 hz0 HL HW hn1 hn2 hc4 hLs hhd hc2
  go_wp2_with fail
  have hba := below_alloc w3 (.cells #[.int .i64 0, .int .i64 0, .int .i64 0] 106)
  go_loopw [10, 41] (fun e i wr => ∃ k : Nat, k ≤ 3 ∧ i = .int .i64 k ∧ e = errV A (numErrs ((lstF 3 L).take k) 0) ∧ Below w3.heap.size w3 wr ∧ Nums wr w3.heap.size L k) (fun _ i _ => 3 - (intOf i).toNat)
  case atStart => exact ⟨0, by omega, rfl, rfl, hba, nums_alloc _ _ _⟩
  case round =>
    obtain ⟨k, hk, rfl, rfl, hbr, hN⟩ := hrel
    have hEr := hE2.below hbr
    by_cases hlt : k < 3
    · have hck := Below.cell_some hbr (hHC.out k hlt)
      go_wp2_with fail
      refine (number_calls ks A (L k) wr hEr (hLs4 k hlt)).mono ?_
      rintro e w4 ⟨rfl, hb4⟩
      have hN4 := hN.below hb4
      have hE4 := hEr.below hb4
      have hbr4 := below_step hbr hb4
      have hn1 := hN4.c k hlt
      have hn2 := hN4.fr k
      go_wp2_with fail
      have hbs : Below w3.heap.size w3 (w4.setCell ⟨w3.heap.size, k, none⟩ (.int .i64 ((numberOf (L k).data.toList).1 : Nat))) := hbr4.setCell (Nat.le_refl _) _
      have hE5 := hE2.below hbs
      have hN5 := hN4.step hlt
      refine (worse_calls ks A (numErrs ((lstF 3 L).take k) 0) (numberOf (L k).data.toList).2 _ hE5 ?_).mono ?_
      · have := numErrs_le ((lstF 3 L).take k) 0 (by decide)
        have h12 := hE.has
        rcases (by omega : numErrs ((lstF 3 L).take k) 0 = 0 ∨ numErrs ((lstF 3 L).take k) 0 = 1 ∨ numErrs ((lstF 3 L).take k) 0 = 2) with h | h | h
        · exact .inl h
        · rw [h]; exact .inr h12.1
        · rw [h]; exact .inr h12.2
      rintro e w5 ⟨rfl, hw5⟩
      subst hw5
      have hst := numErrs_snoc ((lstF 3 L).take k) (L k).data.toList 0
      rw [← lstF_take_succ 3 L k hlt] at hst
      rw [← hst]
      clear hst
      go_wp2_with fail
      go_roundw
      case rel => exact ⟨k + 1, by omega, by go_num, rfl, hbs, hN5⟩
      case measure => simp [intOf]; omega
    · obtain rfl : k = 3 := by omega
      have hn0 := hN.c 0 (by decide)
      have hn1 := hN.c 1 (by decide)
      have hn2 := hN.c 2 (by decide)
      rw [lstF_take_all, HN.out]
      have hbA := below_alloc wr (.cells #[.int .i64 (numAt L 3 0), .int .i64 (numAt L 3 1), .int .i64 (numAt L 3 2), .slice none 0 0] 143)
      have hpA := box4_alloc wr (.int .i64 (numAt L 3 0)) (.int .i64 (numAt L 3 1)) (.int .i64 (numAt L 3 2)) (.slice none 0 0) 143
      have hb3A : Below w3.heap.size w3 _ := below_step hbr hbA
      have hEA := hE2.below hb3A
      have hnew : w.heap.size < wr.heap.size := Nat.lt_of_lt_of_le (lt_of_cell hz2.c0) hbr.size
      have hrs : w3.heap.size ≤ wr.heap.size := hbr.size
      have hE3' := hE2
      clear hba hE2 hEr hN hHC hLs4 hbr
      cases has
      case' false =>
        have hPr : verPres s.data.toList = [] := HP.out
        have hce : numErrs (verWords s.data.toList) 0 = verErrs s.data.toList := by unfold verErrs; rw [hPr]; rfl
        rw [hce]
        have hS : StrsAt' (wr.alloc (.cells #[.int .i64 (numAt L 3 0), .int .i64 (numAt L 3 1), .int .i64 (numAt L 3 2), .slice none 0 0] 143)) (.slice none 0 0) (verPres s.data.toList) w.heap.size := by
          rw [hPr]; exact ⟨StrsAt.nil _, by intro q n c h; cases h⟩
        have hzf := hz2.below hb3A
        have hbF := below_step hb02 hb3A
        have hpF := hpA
        clear hPr hce
        go_wp2_with fail
        go_loop [10, 71] (fun e i => e = errV A (verErrs s.data.toList) ∧ i = .int .i64 0) (fun _ _ => 0)
        case atStart => exact ⟨rfl, rfl⟩
        case' round =>
          obtain ⟨rfl, rfl⟩ := hrel
          generalize hwF : wr.alloc (.cells #[.int .i64 (numAt L 3 0), .int .i64 (numAt L 3 1), .int .i64 (numAt L 3 2), .slice none 0 0] 143) = wF at hS hzf hbF hpF ⊢
          generalize wr.heap.size = pb at hpF hnew hrs ⊢
          clear hpA hbA hb3A hEA hE3' HP
      case' true =>
        have hPr : verPres s.data.toList = split pr [46] := HP.out
        go_wp2_with fail
        generalize wr.alloc (.cells #[.int .i64 (numAt L 3 0), .int .i64 (numAt L 3 1), .int .i64 (numAt L 3 2), .slice none 0 0] 143) = wA at hbA hpA hb3A hEA ⊢
        have hrA : wr.heap.size < wA.heap.size := lt_of_cell hpA.c0
        refine (split_calls _ ⟨#[46]⟩ _ hEA.m (Nat.le_trans hp4 (by decide)) (by decide)).mono ?_
        rintro e wB ⟨n, rfl, hm1, hm2, HLp, hbB, hcB, hzB⟩
        have hLp := lstF_mem_le (by decide) HLp.out
        have hn9 : n ≤ 1000000001 := Nat.le_trans hm2 (Nat.succ_le_succ hp4)
        have hPn : Hid (lstF n (splitL ⟨pr.toArray⟩ ⟨#[46]⟩) = verPres s.data.toList) := Lib.hid (HLp.out.trans hPr.symm)
        rw [data_mk] at hLp
        have hpr : pr.length ≤ 4000000000 := Nat.le_trans hp4 (by decide)
        generalize splitL ⟨pr.toArray⟩ ⟨#[46]⟩ = P at hcB hPn hLp ⊢
        have hPs : ∀ j, j < n → (P j).size ≤ 4000000000 := fun j hj => Nat.le_trans (hLp j hj) hpr
        have hpB := hpA.below hbB
        have pb3 := hpB.c3
        have pf3 := hpB.fr 3
        have hpC := hpB.set3 (.slice (some ⟨wA.heap.size, 0, none⟩) n n)
        have hb3B := below_step hb3A hbB
        have hb3C : Below w3.heap.size w3 (wB.setCell ⟨wr.heap.size, 3, none⟩ (.slice (some ⟨wA.heap.size, 0, none⟩) n n)) := hb3B.setCell (by have := lt_of_cell hpA.c0; exact hrs) _
        have hcC : ∀ j, j < n → (wB.setCell ⟨wr.heap.size, 3, none⟩ (.slice (some ⟨wA.heap.size, 0, none⟩) n n)).cell? ⟨wA.heap.size, j, none⟩ = some (.string (P j)) := fun j hj => by
          rw [World.cell?_setCell_other _ _ _ _ (by intro e; injection e with e1 _ _; omega)]; exact hcB j hj
        have HC := Lib.hid hcC
        have hE3 := hE3'.below hb3C
        clear hm1 hm2 HLp hLp hpr HP hPr hcB hbB hbA hEA hcC hpA hpB hzB
        go_wp2_with fail
        clear pb3 pf3
        generalize wB.setCell ⟨wr.heap.size, 3, none⟩ (.slice (some ⟨wA.heap.size, 0, none⟩) n n) = wC at hb3C HC hE3 hpC ⊢
        generalize wr.heap.size = pb at hpC hrA hnew hrs ⊢
        go_loopw [10, 71] (fun e i wr' => ∃ k : Nat, k ≤ n ∧ i = .int .i64 k ∧ e = errV A (partErrs ((lstF n P).take k) (numErrs (verWords s.data.toList) 0)) ∧ Below wC.heap.size wC wr') (fun _ i _ => n - (intOf i).toNat)
        case atStart => exact ⟨0, by omega, rfl, rfl, Below.refl _ _⟩
        case' round =>
          obtain ⟨k, hk, rfl, rfl, hbl⟩ := hrel
          have hEl := hE3.below hbl
          by_cases hlt : k < n
          case' pos =>
            have hck := Below.cell_some hbl (HC.out k hlt)
            go_wp2_with fail
            refine (part_calls ks A (P k) _ hEl (hPs k hlt)).mono ?_
            rintro e w4 ⟨rfl, hb4⟩
            have hb4C := below_step hbl hb4
            have hE4 := hEl.below hb4
            go_wp2_with fail
            refine (worse_calls ks A (partErrs ((lstF n P).take k) (numErrs (verWords s.data.toList) 0)) (partErr (P k).data.toList) _ hE4 ?_).mono ?_
            · have := partErrs_le ((lstF n P).take k) _ (numErrs_le (verWords s.data.toList) 0 (by decide))
              have h12 := hE.has
              generalize partErrs ((lstF n P).take k) (numErrs (verWords s.data.toList) 0) = c at this
              rcases (by omega : c = 0 ∨ c = 1 ∨ c = 2) with h | h | h
              · exact .inl h
              · rw [h]; exact .inr h12.1
              · rw [h]; exact .inr h12.2
            rintro e w5 ⟨rfl, hw5⟩
            subst hw5
            have hst := partErrs_snoc ((lstF n P).take k) (P k).data.toList (numErrs (verWords s.data.toList) 0)
            rw [← lstF_take_succ n P k hlt] at hst
            rw [← hst]
            clear hst
            go_wp2_with fail
            go_roundw
            case rel => exact ⟨k + 1, by omega, by go_num, rfl, hb4C⟩
            case measure => simp [intOf]; omega
          case' neg =>
            obtain rfl : k = n := by omega
            rw [lstF_take_all, hPn.out]
            have hzf := (hz2.below hb3C).below hbl
            have hbF := below_step (below_step hb02 hb3C) hbl
            have hpF := hpC.below hbl
            have hw0 : w.heap.size < wA.heap.size := Nat.lt_trans hnew hrA
            have hS : StrsAt' wr (.slice (some ⟨wA.heap.size, 0, none⟩) k k) (verPres s.data.toList) w.heap.size := ⟨⟨_, k, k, P, rfl, hPn.out.symm, Nat.le_refl _, Nat.le_trans hn9 (by decide), fun j hj => ⟨_, 0, rfl, by rw [Nat.zero_add]; exact Below.cell_some hbl (HC.out j hj)⟩⟩, by intro q n' c' h; injection h with h _ _; injection h with h; subst h; exact Nat.ne_of_gt hw0⟩
            have hlen : (verPres s.data.toList).length = k := by rw [← hPn.out, lstF_length]
            have hev : verErrs s.data.toList = if 5 < k then worseN (partErrs (verPres s.data.toList) (numErrs (verWords s.data.toList) 0)) 2 else partErrs (verPres s.data.toList) (numErrs (verWords s.data.toList) 0) := by unfold verErrs; rw [hlen]
            have hlec := partErrs_le (verPres s.data.toList) _ (numErrs_le (verWords s.data.toList) 0 (by decide))
            have p3 := hpF.c3
            clear hPn hb3C HC hpC hE3 hE3' hPs
            by_cases hk5 : 5 < k
            case' neg =>
              rw [if_neg hk5] at hev
              rw [← hev]
              clear hev hlec hlen p3 hEl hbl
            case' pos =>
              rw [if_pos hk5] at hev
              have g2 := hEl.errs.var 2 hE.has.2
              simp only [errG] at g2
              have h12 := hE.has
              have HEV := Lib.hid hev
              clear hev hlen hbl
              go_wp2_with fail
              clear p3 g2
              rw [show (Value.iface 271 (.pointer (some (A 2)))) = errV A 2 from (errV_pos A (c := 2) (by decide)).symm]
              refine (worse_calls ks A (partErrs (verPres s.data.toList) (numErrs (verWords s.data.toList) 0)) 2 _ hEl ?_).mono ?_
              · rcases (by omega : partErrs (verPres s.data.toList) (numErrs (verWords s.data.toList) 0) = 0 ∨ partErrs (verPres s.data.toList) (numErrs (verWords s.data.toList) 0) = 1 ∨ partErrs (verPres s.data.toList) (numErrs (verWords s.data.toList) 0) = 2) with h | h | h
                · exact .inl h
                · rw [h]; exact .inr h12.1
                · rw [h]; exact .inr h12.2
              rintro e w5 ⟨rfl, hw5⟩
              subst hw5
              rw [← HEV.out]
              clear HEV h12 hlec hEl
      all_goals
        have hne : w.heap.size ≠ pb := Nat.ne_of_lt hnew
        have hne' : pb ≠ w.heap.size := hne.symm
        obtain ⟨p0, p1, p2, p3, pf⟩ := hpF
        obtain ⟨z0, z1, z2, z3, zf⟩ := hzf
        have zf0 := zf 0
        have zf1 := zf 1
        have zf2 := zf 2
        have zf3 := zf 3
        have hn3 := numAt_three L s.data.toList HN.out
        clear pf zf
        by_cases hc : verErrs s.data.toList = 0
        · have hv0 := HV.out.trans hc
          have e0 := hn3 hv0 0 (by decide)
          have e1 := hn3 hv0 1 (by decide)
          have e2 := hn3 hv0 2 (by decide)
          have hpre := verPre_ok hv0
          have hS2 := fun u => ((((hS.set 0 (.int .i64 (numAt L 3 0))).set 1 (.int .i64 (numAt L 3 1))).set 2 (.int .i64 (numAt L 3 2))).set 3 u).at_
          have HX := Lib.hid (And.intro hpre (And.intro e0 (And.intro e1 (And.intro e2 hv0))))
          rw [hc, errV_zero]
          clear hS hn3 e0 e1 e2 hpre hv0 hc HV
          go_wp2_with fail
          refine bodyPost_ret (v := .tuple #[.agg #[.int .i64 (numAt L 3 0), .int .i64 (numAt L 3 1), .int .i64 (numAt L 3 2), _], .nilIface]) (by simp [results, Tryz.results130, go_sem, *]; rfl) rfl ?_
          obtain ⟨hpre, e0, e1, e2, hv0⟩ := HX.out
          rw [hpre, ← e0, ← e1, ← e2, hv0]
          exact ⟨((((hbF.setCell (Nat.le_refl _) _).setCell (Nat.le_refl _) _).setCell (Nat.le_refl _) _).setCell (Nat.le_refl _) _), _, rfl, hS2 _⟩
        · have hv0 : verErr s.data.toList ≠ 0 := by rw [HV.out]; exact hc
          have HX := Lib.hid (And.intro hv0 HV.out)
          rw [errV_pos A hc]
          clear hS hn3 hv0 hc HV
          go_wp2_with fail
          refine bodyPost_ret (v := .tuple #[.agg #[.int .i64 0, .int .i64 0, .int .i64 0, .slice none 0 0], .iface 271 (.pointer (some (A (verErrs s.data.toList))))]) (by simp [results, Tryz.results130, go_sem, *]) rfl ?_
          rw [verNum_bad HX.out.1, verNum_bad HX.out.1, verNum_bad HX.out.1, verPre_bad HX.out.1, errV_pos A HX.out.1, HX.out.2]
          exact ⟨((((hbF.setCell (Nat.le_refl _) _).setCell (Nat.le_refl _) _).setCell (Nat.le_refl _) _).setCell (Nat.le_refl _) _), _, rfl, StrsAt.nil _⟩

/-- ver.Split -/
theorem verSplit_calls (ks : List Nat) (A : Nat → Addr) (s : ByteArray) (w : World) (hE : EnvP ks A w) (hs : s.size ≤ 1000000000) :
    Calls Tryz.prog 130 #[.string s] w fun e w' => Below w.heap.size w w' ∧ ∃ v, e = .returned (.tuple #[.agg #[.int .i64 (verNum s.data.toList 0 : Nat), .int .i64 (verNum s.data.toList 1 : Nat), .int .i64 (verNum s.data.toList 2 : Nat), v], errV A (verErr s.data.toList)]) ∧ StrsAt w' v (verPre s.data.toList) := by
  by_cases h : hasPrefix s.data.toList [118] = false ∨ (verWords s.data.toList).length ≠ 3
  · have h1 : verErr s.data.toList = 1 := by unfold verErr; rw [if_pos h]
    have hne : verErr s.data.toList ≠ 0 := by rw [h1]; decide
    refine (verSplit_form ks A s w hE hs ?_).mono ?_
    · rcases h with h | h
      · exact .inl h
      · cases hp : hasPrefix s.data.toList [118] with
        | false => exact .inl rfl
        | true => exact .inr ⟨rfl, h⟩
    rintro e w' ⟨rfl, hb⟩
    rw [verNum_bad hne, verNum_bad hne, verNum_bad hne, verPre_bad hne, h1]
    exact ⟨hb, _, rfl, StrsAt.nil _⟩
  · have h2 : (verWords s.data.toList).length = 3 := Decidable.of_not_not fun e => h (.inr e)
    have h3 : hasPrefix s.data.toList [118] = true := by
      cases hp : hasPrefix s.data.toList [118] with
      | true => rfl
      | false => exact absurd (.inl hp) h
    exact verSplit_three ks A s w hE hs h3 h2

end Go.Proofs.Pw

/- Package ver, part 3: Check. -/
namespace Go.Proofs.Pw
open Go.RowKit
open Go.Lib hiding intOf

/-- ver.Check -/
theorem verCheck_calls (ks : List Nat) (A : Nat → Addr) (s : ByteArray) (w : World) (hE : EnvP ks A w) (hs : s.size ≤ 1000000000) :
    Calls Tryz.prog 87 #[.string s] w fun e w' => e = .returned (errV A (verErr s.data.toList)) ∧ Below w.heap.size w w' := by
  go_enter Tryz.func87, Tryz.ntmps87
  go_wp2_with fail
  refine (verSplit_calls ks A s w hE hs).mono ?_
  rintro e w1 ⟨hb1, v, rfl, a, n, cap, L, rfl, _, _, _, _⟩
  go_wp2_with fail
  go_ret
  exact ⟨rfl, hb1.alloc hb1.size _⟩
end Go.Proofs.Pw

/- The walks of package mod, part 1: elem, suffix. -/
namespace Go.Proofs.Pw
open Go.RowKit
open Go.Lib hiding intOf

theorem elemOk_of {s : Str} {b1 b2 b3 b4 : Bool} (h1 : s.isEmpty = b1) (h2 : s.all isElemByte = b2) (h3 : s.all (· == 46) = b3) (h4 : contains s dots = b4) : elemOk s = (!b1 && b2 && !b3 && !b4) := by
  unfold elemOk; rw [h1, h2, h3, h4]

set_option maxHeartbeats 400000 in
/-- mod.elem -/
theorem elem_calls (ks : List Nat) (A : Nat → Addr) (s : ByteArray) (w : World) (hE : EnvP ks A w) (hs : s.size ≤ 4000000000) :
    Calls Tryz.prog 128 #[.string s] w fun e w' => e = .returned (.bool (elemOk s.data.toList)) ∧ Below w.heap.size w w' := by
  have HP := Lib.hid (trimS_nil_bool s.data.toList elemSet isElemByte elemSet_ok)
  have HQ := Lib.hid (trimS_nil_bool s.data.toList [46] (· == 46) dotSet_ok)
  by_cases he : s.data.toList = []
  · have hr : elemOk s.data.toList = false := by rw [he]; rfl
    have h1 : s.toList.isEmpty = true := by rw [isEmpty_toList, he]; rfl
    have h2 : s.toList = [] := by simpa using h1
    rw [hr]
    clear he hr
    go_enter Tryz.func128, Tryz.ntmps128
    go_wp2_with fail
    go_ret
    exact ⟨rfl, Below.refl _ _⟩
  · have h1 : s.toList.isEmpty = false := by rw [isEmpty_toList]; simpa using he
    have h2 : (s.toList == []) = false := by simpa using h1
    have h0 : s.data.toList.isEmpty = false := by simpa using he
    have H0 := Lib.hid h0
    clear he h0
    cases ha : s.data.toList.all isElemByte with
    | false =>
      rw [show elemOk s.data.toList = false from by rw [elemOk_of H0.out ha rfl rfl]; rfl]
      have e1 : (trimS s.data.toList elemSet == []) = false := by rw [HP.out, ha]
      clear ha
      go_enter Tryz.func128, Tryz.ntmps128
      go_wp2_with fail
      refine (trim_calls _ _ _ hs (by decide) (by decide)).mono ?_
      rintro e w1 ⟨rfl, hb1⟩
      rw [show (⟨#[97, 98, 99, 100, 101, 102, 103, 104, 105, 106, 107, 108, 109, 110, 111, 112, 113, 114, 115, 116, 117, 118, 119, 120, 121, 122, 48, 49, 50, 51, 52, 53, 54, 55, 56, 57, 46, 45, 95]⟩ : ByteArray).data.toList = elemSet from rfl]
      generalize trimS s.data.toList elemSet = t at e1 ⊢
      have e2 : (⟨t.toArray⟩ : ByteArray).toList.isEmpty = false := by rw [toList_mk]; simpa using e1
      have e3 : t.isEmpty = false := by simpa using e1
      clear e1
      go_wp2_with fail
      go_ret
      exact ⟨rfl, hb1⟩
    | true =>
      have e1 : trimS s.data.toList elemSet = [] := by
        have := HP.out
        rw [ha] at this
        exact beq_iff_eq.1 this
      have E1 := Lib.hid e1
      have HA := Lib.hid ha
      clear e1 ha
      cases hd : s.data.toList.all (· == 46) with
      | true =>
        rw [show elemOk s.data.toList = false from by rw [elemOk_of H0.out HA.out hd rfl]; rfl]
        have e1 : trimS s.data.toList [46] = [] := by
          have := HQ.out
          rw [hd] at this
          exact beq_iff_eq.1 this
        have E2 := Lib.hid e1
        clear e1 hd
        go_enter Tryz.func128, Tryz.ntmps128
        go_wp2_with fail
        refine (trim_calls _ _ _ hs (by decide) (by decide)).mono ?_
        rintro e w1 ⟨rfl, hb1⟩
        rw [show (⟨#[97, 98, 99, 100, 101, 102, 103, 104, 105, 106, 107, 108, 109, 110, 111, 112, 113, 114, 115, 116, 117, 118, 119, 120, 121, 122, 48, 49, 50, 51, 52, 53, 54, 55, 56, 57, 46, 45, 95]⟩ : ByteArray).data.toList = elemSet from rfl, E1.out]
        go_wp2_with fail
        refine (trim_calls _ _ _ hs (by decide) (by decide)).mono ?_
        rintro e w2 ⟨rfl, hb2⟩
        rw [show (⟨#[46]⟩ : ByteArray).data.toList = [46] from rfl, E2.out]
        go_wp2_with fail
        go_ret
        exact ⟨rfl, below_step hb1 hb2⟩
      | false =>
        generalize hc : contains s.data.toList dots = c
        rw [show elemOk s.data.toList = !c from by rw [elemOk_of H0.out HA.out hd hc]; simp]
        have HC := Lib.hid hc
        have e1 : (trimS s.data.toList [46] == []) = false := by rw [HQ.out, hd]
        clear hd hc
        go_enter Tryz.func128, Tryz.ntmps128
        go_wp2_with fail
        refine (trim_calls _ _ _ hs (by decide) (by decide)).mono ?_
        rintro e w1 ⟨rfl, hb1⟩
        rw [show (⟨#[97, 98, 99, 100, 101, 102, 103, 104, 105, 106, 107, 108, 109, 110, 111, 112, 113, 114, 115, 116, 117, 118, 119, 120, 121, 122, 48, 49, 50, 51, 52, 53, 54, 55, 56, 57, 46, 45, 95]⟩ : ByteArray).data.toList = elemSet from rfl, E1.out]
        go_wp2_with fail
        refine (trim_calls _ _ _ hs (by decide) (by decide)).mono ?_
        rintro e w2 ⟨rfl, hb2⟩
        have hb12 := below_step hb1 hb2
        rw [show (⟨#[46]⟩ : ByteArray).data.toList = [46] from rfl]
        generalize trimS s.data.toList [46] = t at e1 ⊢
        have e2 : (⟨t.toArray⟩ : ByteArray).toList.isEmpty = false := by rw [toList_mk]; simpa using e1
        have e3 : t.isEmpty = false := by simpa using e1
        clear e1
        go_wp2_with fail
        refine (contains_calls _ _ _ (hE.below hb12).m hs).mono ?_
        rintro e w3 ⟨rfl, rfl⟩
        rw [show (⟨#[46, 46, 46]⟩ : ByteArray).data.toList = dots from rfl, HC.out]
        go_wp2_with fail
        go_ret
        exact ⟨rfl, hb12⟩
theorem itoa_calls (ks : List Nat) (A : Nat → Addr) (n : Nat) (w : World) (hE : EnvP ks A w) (hn : n ≤ 9223372036854775807) :
    Calls Tryz.prog 173 #[.int .i64 n] w fun e w' => e = .returned (.string ⟨(Lib.itoa n).toArray⟩) ∧ Below w.heap.size w w' :=
  (Tryz.strconv_Itoa n (by omega) (by omega) w hE.pow10).mono fun e w' ⟨h, k, os, h2⟩ => ⟨h, by subst h2; exact below_grow _ _ (Nat.le_refl _) _ _⟩

theorem sufD_eq (s : Str) : sufD s = trimPrefix s [118] := rfl
theorem suf_no {s : Str} (h : looksSuf s = false) : isSuf s = false ∧ sufWell s = true := by
  have h1 : isSuf s = false := by unfold isSuf; rw [h]; rfl
  exact ⟨h1, by unfold sufWell; rw [h]; rfl⟩
theorem suf_digits {s : Str} (h : looksSuf s = true) : sufWell s = isSuf s := by unfold sufWell; rw [h]; rfl

theorem suffix_no (ks : List Nat) (A : Nat → Addr) (s : ByteArray) (w : World) (_hE : EnvP ks A w) (hs : s.size ≤ 4000000000) (hl : looksSuf s.data.toList = false) :
    Calls Tryz.prog 125 #[.string s] w fun e w' => e = .returned (.tuple #[.int .i64 0, .bool false, .bool true]) ∧ Below w.heap.size w w' := by
  have ht : (trimPrefix s.data.toList [118]).length ≤ s.size := by rw [size_eq s]; exact trimPrefix_le _ _
  cases hp : hasPrefix s.data.toList [118] with
  | false =>
    go_enter Tryz.func125, Tryz.ntmps125
    go_wp2_with fail
    refine (cutPrefix_calls _ _ _).mono ?_
    rintro e w1 ⟨rfl, rfl⟩
    rw [show (⟨#[118]⟩ : ByteArray).data.toList = [118] from rfl, hp]
    clear hp hl
    go_wp2_with fail
    all_goals go_ret3
    all_goals exact ⟨rfl, Below.refl _ _⟩
  | true =>
    have hd : areDigits (trimPrefix s.data.toList [118]) = false := by
      have := hl
      unfold looksSuf sufD at this
      rw [hp] at this
      exact this
    have HP := Lib.hid hp
    have HQ := Lib.hid (trimS_nil_bool (trimPrefix s.data.toList [118]) digitsSet isDig digitsSet_ok)
    clear hp hl
    go_enter Tryz.func125, Tryz.ntmps125
    go_wp2_with fail
    refine (cutPrefix_calls _ _ _).mono ?_
    rintro e w1 ⟨rfl, rfl⟩
    rw [show (⟨#[118]⟩ : ByteArray).data.toList = [118] from rfl, HP.out]
    by_cases h0 : trimPrefix s.data.toList [118] = []
    · rw [h0]
      clear hd HQ h0
      go_wp2_with fail
      all_goals go_ret3
      all_goals exact ⟨rfl, Below.refl _ _⟩
    · have hne : (⟨(trimPrefix s.data.toList [118]).toArray⟩ : ByteArray).toList.isEmpty = false := by rw [toList_mk]; simpa using h0
      have hne2 : (trimPrefix s.data.toList [118]).isEmpty = false := by simpa using h0
      have hne3 : ((trimPrefix s.data.toList [118]) == []) = false := by simpa using h0
      have e1 : (trimS (trimPrefix s.data.toList [118]) digitsSet == []) = false := by
        rw [HQ.out]
        unfold areDigits at hd
        rw [hne2] at hd
        simpa using hd
      have ht4 : (⟨(trimPrefix s.data.toList [118]).toArray⟩ : ByteArray).size ≤ 4000000000 := Nat.le_trans ht hs
      generalize trimPrefix s.data.toList [118] = D at e1 hne hne2 hne3 ht4 ⊢
      clear hd HQ h0 ht
      go_wp2_with fail
      refine (trim_calls _ _ _ ht4 (by decide) (by decide)).mono ?_
      rintro e w2 ⟨rfl, hb2⟩
      rw [show (⟨#[48, 49, 50, 51, 52, 53, 54, 55, 56, 57]⟩ : ByteArray).data.toList = digitsSet from rfl, data_mk]
      generalize trimS D digitsSet = t at e1 ⊢
      have e2 : (⟨t.toArray⟩ : ByteArray).toList.isEmpty = false := by rw [toList_mk]; simpa using e1
      have e3 : t.isEmpty = false := by simpa using e1
      clear e1
      go_wp2_with fail
      go_ret3
      exact ⟨rfl, hb2⟩

/-- digits behind v: any case but the comparison of the numeral -/
theorem suffix_dig (ks : List Nat) (A : Nat → Addr) (s : ByteArray) (w : World) (hE : EnvP ks A w) (hs : s.size ≤ 4000000000) (hl : looksSuf s.data.toList = true) :
    Calls Tryz.prog 125 #[.string s] w fun e w' => (∃ n : Int, e = .returned (.tuple #[.int .i64 n, .bool (isSuf s.data.toList), .bool (isSuf s.data.toList)]) ∧ (isSuf s.data.toList = true → n = (sufNum s.data.toList : Nat))) ∧ Below w.heap.size w w' := by
  have ht : (trimPrefix s.data.toList [118]).length ≤ s.size := by rw [size_eq s]; exact trimPrefix_le _ _
  have hl2 : hasPrefix s.data.toList [118] = true ∧ areDigits (trimPrefix s.data.toList [118]) = true := by
    unfold looksSuf sufD at hl
    simpa using hl
  have his : isSuf s.data.toList = decide ((numberOf (trimPrefix s.data.toList [118])).2 = 0 ∧ 2 ≤ (numberOf (trimPrefix s.data.toList [118])).1) := by unfold isSuf; rw [hl]; rfl
  have hnu : sufNum s.data.toList = (numberOf (trimPrefix s.data.toList [118])).1 := rfl
  obtain ⟨hp, hd⟩ := hl2
  have HP := Lib.hid hp
  have ht4 : (⟨(trimPrefix s.data.toList [118]).toArray⟩ : ByteArray).size ≤ 4000000000 := Nat.le_trans ht hs
  generalize isSuf s.data.toList = R at his ⊢
  generalize sufNum s.data.toList = N at hnu ⊢
  generalize hD : trimPrefix s.data.toList [118] = D at hd ht4 his hnu
  have HR := Lib.hid his
  have HN := Lib.hid hnu
  have HDD := Lib.hid hD
  clear hp hl his hnu hD
  go_enter Tryz.func125, Tryz.ntmps125
  go_wp2_with fail
  refine (cutPrefix_calls _ _ _).mono ?_
  rintro e w1 ⟨rfl, rfl⟩
  rw [show (⟨#[118]⟩ : ByteArray).data.toList = [118] from rfl, HP.out, HDD.out]
  clear ht
  have h0 : D ≠ [] := by intro e; rw [e] at hd; exact absurd hd (by decide)
  have hne : (⟨D.toArray⟩ : ByteArray).toList.isEmpty = false := by rw [toList_mk]; simpa using h0
  have hne2 : D.isEmpty = false := by simpa using h0
  have hne3 : (D == []) = false := by simpa using h0
  have e1 : trimS D digitsSet = [] := by
    have := trimS_nil_bool D digitsSet isDig digitsSet_ok
    have hd2 := hd
    unfold areDigits at hd2
    rw [hne2] at hd2
    rw [show D.all isDig = true by simpa using hd2] at this
    exact beq_iff_eq.1 this
  have E1 := Lib.hid e1
  have HD := Lib.hid hd
  clear e1 hd h0
  go_wp2_with fail
  refine (trim_calls _ _ _ ht4 (by decide) (by decide)).mono ?_
  rintro e w2 ⟨rfl, hb2⟩
  rw [show (⟨#[48, 49, 50, 51, 52, 53, 54, 55, 56, 57]⟩ : ByteArray).data.toList = digitsSet from rfl, data_mk, E1.out]
  have hE2 := hE.below hb2
  go_wp2_with fail
  refine (atoi_calls ks A _ _ hE2 ht4 HD.out).mono ?_
  rintro e w3 ⟨hr, hb3⟩
  have hb23 := below_step hb2 hb3
  have hE3 := hE.below hb23
  rcases hr with ⟨x, te, pe, rfl, h7⟩ | rfl
  · have hf : ¬ ((numberOf D).2 = 0 ∧ 2 ≤ (numberOf D).1) := by
      rintro ⟨h, _⟩
      by_cases hz : areDigits D = false ∨ (1 < D.length ∧ D.head? = some 48)
      · rw [numberOf_text hz] at h; exact absurd h (by decide)
      · rw [numberOf_long hz h7] at h; exact absurd h (by decide)
    have HF := Lib.hid hf
    clear hf h7 hE3 hE2 hne hne2 hne3 ht4
    go_wp2_with fail
    go_ret3
    have hR : R = false := by rw [HR.out, decide_eq_false HF.out]
    rw [hR]
    exact ⟨⟨x, rfl, fun h => absurd h (by decide)⟩, hb23⟩
  · rw [data_mk]
    have hsm := decVal_small HD.out
    have hit := itoa_decVal HD.out
    have hnum : (1 < D.length ∧ D.head? = some 48) ∨ (¬ (1 < D.length ∧ D.head? = some 48)) := Decidable.em _
    have hv63 : decVal D ≤ 999999 ∨ 999999 < decVal D := Nat.lt_or_ge 999999 (decVal D) |>.symm
    generalize hv : decVal D = v at hsm hit hv63 ⊢
    have HV := Lib.hid hv
    clear hv
    by_cases h2 : v < 2
    · have HF : Hid (R = false) := by
        refine Lib.hid ?_
        rw [HR.out]
        apply decide_eq_false
        rintro ⟨h, h3⟩
        by_cases hz : areDigits D = false ∨ (1 < D.length ∧ D.head? = some 48)
        · rw [numberOf_text hz] at h; exact absurd h (by decide)
        · by_cases hl6 : 6 < D.length
          · rw [numberOf_long hz hl6] at h; exact absurd h (by decide)
          · rw [numberOf_ok hz hl6, HV.out] at h3; simp only at h3; omega
      clear hE3 hE2 hne hne2 hne3 ht4 hsm hit hnum hv63
      go_wp2_with fail
      go_ret3
      rw [HF.out]
      exact ⟨⟨_, rfl, fun h => absurd h (by decide)⟩, hb23⟩
    · rcases hv63 with hle | hgt
      · have hita := itoa_calls ks A v w3 hE3 (by omega)
        by_cases heq : itoa ((v : Nat) : Int) = D
        · have hz := hit.1 heq
          have hl6 := (hsm hz).1 hle
          have HF : Hid (R = true ∧ N = v) := by
            have hzz : ¬ (areDigits D = false ∨ (1 < D.length ∧ D.head? = some 48)) := by
              rintro (h | h)
              · rw [HD.out] at h; exact absurd h (by decide)
              · exact hz h
            have e := numberOf_ok hzz (Nat.not_lt.2 hl6)
            rw [HV.out] at e
            refine Lib.hid ⟨?_, ?_⟩
            · rw [HR.out, e]
              simp only
              rw [decide_eq_true]
              exact ⟨trivial, by omega⟩
            · rw [HN.out, e]
          have HQ := Lib.hid heq
          clear hE3 hE2 hne hne2 hne3 ht4 hsm hit hnum hz hl6 heq
          go_wp2_with fail
          refine hita.mono ?_
          rintro e w4 ⟨rfl, hb4⟩
          rw [HQ.out]
          have hb24 := below_step hb23 hb4
          clear hita
          go_wp2_with fail
          go_ret3
          rw [HF.out.1, HF.out.2]
          exact ⟨⟨_, rfl, fun _ => rfl⟩, hb24⟩
        · have hz : 1 < D.length ∧ D.head? = some 48 := Decidable.of_not_not fun h => heq (hit.2 h)
          have HF : Hid (R = false) := by
            refine Lib.hid ?_
            rw [HR.out]
            apply decide_eq_false
            rintro ⟨h, h3⟩
            rw [numberOf_text (.inr hz)] at h
            exact absurd h (by decide)
          generalize itoa ((v : Nat) : Int) = t at heq hita
          have hq1 : (t == D) = false := beq_eq_false_iff_ne.2 heq
          have hq2 : (⟨t.toArray⟩ : ByteArray) ≠ ⟨D.toArray⟩ := by
            intro e; injection e with e; exact heq (by simpa using congrArg Array.toList e)
          have hq4 : ((⟨t.toArray⟩ : ByteArray).toList == (⟨D.toArray⟩ : ByteArray).toList) = false := by rw [toList_mk, toList_mk]; exact hq1
          clear hE3 hE2 hne hne2 hne3 ht4 hsm hit hnum hz
          go_wp2_with fail
          refine hita.mono ?_
          rintro e w4 ⟨rfl, hb4⟩
          have hb24 := below_step hb23 hb4
          clear hita
          go_wp2_with fail
          go_ret3
          rw [HF.out]
          exact ⟨⟨_, rfl, fun h => absurd h (by decide)⟩, hb24⟩
      · have HF : Hid (R = false) := by
          refine Lib.hid ?_
          rw [HR.out]
          apply decide_eq_false
          rintro ⟨h, h3⟩
          by_cases hz : areDigits D = false ∨ (1 < D.length ∧ D.head? = some 48)
          · rw [numberOf_text hz] at h; exact absurd h (by decide)
          · by_cases hl6 : 6 < D.length
            · rw [numberOf_long hz hl6] at h; exact absurd h (by decide)
            · have := (hsm (fun e => hz (.inr e))).2 (by omega)
              omega
        clear hE3 hE2 hne hne2 hne3 ht4 hsm hit hnum
        go_wp2_with fail
        go_ret3
        rw [HF.out]
        exact ⟨⟨_, rfl, fun h => absurd h (by decide)⟩, hb23⟩
end Go.Proofs.Pw

/- The walks of package mod, part 2: Path. -/
namespace Go.Proofs.Pw
open Go.RowKit
open Go.Lib hiding intOf

/-- a test of texts by a function value without captured variables, that may lay memory -/
def Tests (g : Nat) (lb : Array Value) (p : Str → Bool) (n : Nat) (L : Nat → ByteArray) (w : World) : Prop :=
  ∀ w', Below w.heap.size w w' → ∀ j, j < n → Calls Tryz.prog g (#[.string (L j)] ++ lb) w' fun e w'' => e = .returned (.bool (p (L j).data.toList)) ∧ Below w'.heap.size w' w''

theorem any_lstF (p : Str → Bool) (L : Nat → ByteArray) : ∀ n, (lstF n L).any p = true ↔ ∃ j, j < n ∧ p (L j).data.toList = true := fun n => by
  simp [lstF]

set_option maxHeartbeats 400000 in
theorem indexFunc_calls (g : Nat) (lb : Array Value) (eg : ∀ args w, (callFunc g args).run Tryz.prog w = .ok (.enter g args) w) (p : Str → Bool) (b o n cap : Nat) (L : Nat → ByteArray) (w : World) (hn : n ≤ 4000000001)
    (hc : ∀ j, j < n → w.cell? ⟨b, o + j, none⟩ = some (.string (L j))) (hT : Tests g lb p n L w) :
    Calls Tryz.prog 174 #[.slice (some ⟨b, o, none⟩) n cap, .func (.func g) #[] lb] w fun e w' => (∃ i : Int, e = .returned (.int .i64 i) ∧ (0 ≤ i ↔ (lstF n L).any p = true)) ∧ Below w.heap.size w w' := by
  have HC := Lib.hid hc
  have HT := Lib.hid hT
  clear hc hT
  go_enter Tryz.func174, Tryz.ntmps174
  go_wp2_with fail
  go_loopw [8] (fun i wr => ∃ k : Nat, k ≤ n ∧ i = .int .i64 k ∧ Below w.heap.size w wr ∧ Hid (∀ j, j < k → p (L j).data.toList = false)) (fun i _ => n - (intOf i).toNat)
  case atStart => exact ⟨0, by omega, rfl, Below.refl _ _, Lib.hid (fun j hj => absurd hj (Nat.not_lt_zero _))⟩
  case round =>
    obtain ⟨k, hk, rfl, hb, HA⟩ := hrel
    by_cases hlt : k < n
    · have hck := Below.cell_some hb (HC.out k hlt)
      have hcall := HT.out wr hb k hlt
      have HL := Lib.hid (rfl : L k = L k)
      cases hq : p (L k).data.toList with
      | true =>
        rw [hq] at hcall
        have HQ := Lib.hid hq
        clear hq
        go_wp2_with (go_at_fn g; refine hcall.mono ?_; rintro e w' ⟨rfl, hb2⟩)
        go_ret
        exact ⟨⟨_, rfl, iff_of_true (by omega) ((any_lstF p L n).2 ⟨k, hlt, HQ.out⟩)⟩, below_step hb hb2⟩
      | false =>
        rw [hq] at hcall
        have HQ := Lib.hid hq
        clear hq
        go_wp2_with (go_at_fn g; refine hcall.mono ?_; rintro e w' ⟨rfl, hb2⟩)
        go_roundw
        case rel =>
          refine ⟨k + 1, by omega, by go_num, below_step hb hb2, Lib.hid (fun j hj => ?_)⟩
          by_cases e : j = k
          · subst e; exact HQ.out
          · exact HA.out j (by omega)
        case measure => simp [intOf]; omega
    · obtain rfl : k = n := by omega
      go_wp2_with fail
      go_ret
      refine ⟨⟨_, rfl, iff_of_false (by decide) ?_⟩, hb⟩
      intro h
      obtain ⟨j, hj, h2⟩ := (any_lstF p L k).1 h
      rw [HA.out j hj] at h2
      cases h2

theorem containsFunc_calls (g : Nat) (lb : Array Value) (eg : ∀ args w, (callFunc g args).run Tryz.prog w = .ok (.enter g args) w) (p : Str → Bool) (b o n cap : Nat) (L : Nat → ByteArray) (w : World) (hn : n ≤ 4000000001)
    (hc : ∀ j, j < n → w.cell? ⟨b, o + j, none⟩ = some (.string (L j))) (hT : Tests g lb p n L w) :
    Calls Tryz.prog 126 #[.slice (some ⟨b, o, none⟩) n cap, .func (.func g) #[] lb] w fun e w' => e = .returned (.bool ((lstF n L).any p)) ∧ Below w.heap.size w w' := by
  have H := indexFunc_calls g lb eg p b o n cap L w hn hc hT
  clear hc hT
  go_enter Tryz.func126, Tryz.ntmps126
  go_wp2_with fail
  refine H.mono ?_
  rintro e w1 ⟨⟨i, rfl, hi⟩, hb⟩
  cases ha : (lstF n L).any p with
  | true =>
    have h0 : 0 ≤ i := hi.2 ha
    have HA := Lib.hid ha
    clear hi ha H
    go_wp2_with fail
    go_ret
    rw [HA.out]
    exact ⟨rfl, hb⟩
  | false =>
    have h0 : ¬ 0 ≤ i := fun h => by rw [hi.1 h] at ha; cases ha
    have HA := Lib.hid ha
    clear hi ha H
    go_wp2_with fail
    go_ret
    rw [HA.out]
    exact ⟨congrArg (fun b => Ending.returned (Value.bool b)) (decide_eq_false (by omega)), hb⟩

theorem enters_path1 : ∀ args w, (callFunc 127 args).run Tryz.prog w = .ok (.enter 127 args) w := Go.Proofs.enters_of Tryz.func127 (by kernel_rfl) rfl
theorem enters_path2 : ∀ args w, (callFunc 129 args).run Tryz.prog w = .ok (.enter 129 args) w := Go.Proofs.enters_of Tryz.func129 (by kernel_rfl) rfl

theorem tests_path1 (ks : List Nat) (A : Nat → Addr) (n : Nat) (L : Nat → ByteArray) (w : World) (hE : EnvP ks A w) (hL : ∀ j, j < n → (L j).size ≤ 4000000000) : Tests 127 #[] (fun s => !elemOk s) n L w := by
  intro w' hb j hj
  have hE' := hE.below hb
  have hLj := hL j hj
  clear hL hE hb
  generalize L j = s at hLj ⊢
  show Calls Tryz.prog _ #[.string s] w' fun e w'' => e = .returned (.bool (!elemOk s.data.toList)) ∧ Below w'.heap.size w' w''
  go_enter Tryz.func127, Tryz.ntmps127
  go_wp2_with fail
  refine (elem_calls ks A s w' hE' hLj).mono ?_
  rintro e w1 ⟨rfl, hb1⟩
  go_wp2_with fail
  go_ret
  exact ⟨rfl, hb1⟩
theorem tests_path2 (n : Nat) (L : Nat → ByteArray) (w : World) : Tests 129 #[] (fun s => decide (10 < s.length)) n L w := by
  intro w' hb j hj
  have hsz := size_eq (L j)
  clear hb
  generalize L j = s at hsz ⊢
  show Calls Tryz.prog _ #[.string s] w' fun e w'' => e = .returned (.bool (decide (10 < s.data.toList.length))) ∧ Below w'.heap.size w' w''
  rw [← hsz]
  clear hsz
  by_cases h : 10 < s.size
  · rw [decide_eq_true h]
    go_enter Tryz.func129, Tryz.ntmps129
    go_wp2_with fail
    go_ret
    exact ⟨congrArg (fun b => Ending.returned (Value.bool b)) (decide_eq_true (by omega)), Below.refl _ _⟩
  · rw [decide_eq_false h]
    go_enter Tryz.func129, Tryz.ntmps129
    go_wp2_with fail
    go_ret
    exact ⟨congrArg (fun b => Ending.returned (Value.bool b)) (decide_eq_false (by omega)), Below.refl _ _⟩

theorem getLast_lstF (n : Nat) (L : Nat → ByteArray) (h : 1 ≤ n) : (lstF n L).getLast?.getD [] = (L (n - 1)).data.toList := by
  rw [List.getLast?_eq_getElem?, lstF_length, lstF_get n L (n - 1) (by omega)]
  rfl

/-- mod.suffix: well alone -/
theorem suffixWell_calls (ks : List Nat) (A : Nat → Addr) (s : ByteArray) (w : World) (hE : EnvP ks A w) (hs : s.size ≤ 4000000000) :
    Calls Tryz.prog 125 #[.string s] w fun e w' => (∃ n : Int, e = .returned (.tuple #[.int .i64 n, .bool (isSuf s.data.toList), .bool (sufWell s.data.toList)]) ∧ (isSuf s.data.toList = true → n = (sufNum s.data.toList : Nat))) ∧ Below w.heap.size w w' := by
  cases hl : looksSuf s.data.toList with
  | false =>
    rw [(suf_no hl).1, (suf_no hl).2]
    exact (suffix_no ks A s w hE hs hl).mono fun e w' ⟨h, hb⟩ => ⟨⟨0, h, fun h => absurd h (by decide)⟩, hb⟩
  | true =>
    rw [suf_digits hl]
    exact suffix_dig ks A s w hE hs hl

set_option maxHeartbeats 1000000 in
/-- mod.Path -/
theorem path_calls (ks : List Nat) (A : Nat → Addr) (h4 : 4 ∈ ks) (s : ByteArray) (w : World) (hE : EnvP ks A w) (hs : s.size ≤ 1000000000) :
    Calls Tryz.prog 86 #[.string s] w fun e w' => e = .returned (errV A (pathErr s.data.toList)) ∧ Below w.heap.size w w' := by
  have hpe : pathErr s.data.toList = (let l := split s.data.toList [47]; if l.any (fun w => !elemOk w) then 1 else if 5 < l.length ∨ l.any (fun w => decide (10 < w.length)) then 2 else if 1 < l.length ∧ sufWell (l.getLast?.getD []) = false then 4 else 0) := rfl
  generalize pathErr s.data.toList = R at hpe ⊢
  have HR := Lib.hid hpe
  clear hpe
  go_enter Tryz.func86, Tryz.ntmps86
  go_wp2_with fail
  refine (split_calls _ ⟨#[47]⟩ _ hE.m (Nat.le_trans hs (by decide)) (by decide)).mono ?_
  rintro e w1 ⟨n, rfl, hn1, hn2, HL, hb1, hc1, hz1⟩
  have hLs := lstF_mem_le (by decide) HL.out
  have hE1 := hE.below hb1
  have hn9 : n ≤ 1000000001 := Nat.le_trans hn2 (Nat.succ_le_succ hs)
  have hLs4 : ∀ j, j < n → (splitL s ⟨#[47]⟩ j).size ≤ 4000000000 := fun j hj => Nat.le_trans (hLs j hj) (by rw [← size_eq]; omega)
  have HR2 : Hid (R = if (lstF n (splitL s ⟨#[47]⟩)).any (fun w => !elemOk w) then 1 else if 5 < n ∨ (lstF n (splitL s ⟨#[47]⟩)).any (fun w => decide (10 < w.length)) then 2 else if 1 < n ∧ sufWell (splitL s ⟨#[47]⟩ (n - 1)).data.toList = false then 4 else 0) := by
    refine Lib.hid ?_
    rw [HR.out]
    show (let l := split s.data.toList (⟨#[47]⟩ : ByteArray).data.toList; _) = _
    rw [← HL.out]
    simp only
    rw [lstF_length, getLast_lstF n _ hn1]
  generalize splitL s ⟨#[47]⟩ = L at hc1 hLs4 HR2 ⊢
  have HC := Lib.hid hc1
  clear HR HL hLs hn2 hc1
  obtain ⟨m, rfl⟩ : ∃ m, n = m + 1 := ⟨n - 1, by omega⟩
  rw [Nat.add_sub_cancel] at HR2
  have hck := HC.out m (by omega)
  have hLm := hLs4 m (by omega)
  have T1 := containsFunc_calls 127 #[] enters_path1 (fun s => !elemOk s) w.heap.size 0 (m + 1) (m + 1) L
  have T2 := containsFunc_calls 129 #[] enters_path2 (fun s => decide (10 < s.length)) w.heap.size 0 (m + 1) (m + 1) L
  have HT1 := Lib.hid T1
  have HT2 := Lib.hid T2
  clear T1 T2
  go_wp2_with fail
  refine (suffixWell_calls ks A (L m) _ hE1 hLm).mono ?_
  rintro e w2 ⟨⟨q, rfl, _⟩, hb2⟩
  have hE2 := hE1.below hb2
  have hb12 := below_step hb1 hb2
  clear hck
  go_wp2_with fail
  have hC2 : ∀ j, j < m + 1 → w2.cell? ⟨w.heap.size, 0 + j, none⟩ = some (.string (L j)) := fun j hj => by rw [Nat.zero_add]; exact Below.cell_some hb2 (HC.out j hj)
  refine (HT1.out w2 (by omega) hC2 (tests_path1 ks A _ L w2 hE2 hLs4)).mono ?_
  rintro e w3 ⟨rfl, hb3⟩
  have hb13 := below_step hb12 hb3
  have hE3 := hE2.below hb3
  have g1 := hE3.errs.var 1 hE.has.1
  have g2 := hE3.errs.var 2 hE.has.2
  simp only [errG] at g1 g2
  clear HT1 hb1 hE1 hE2
  cases ha1 : (lstF (m + 1) L).any (fun w => !elemOk w) with
  | true =>
    have HF : Hid (R = 1) := Lib.hid (by rw [HR2.out, if_pos ha1])
    clear ha1 hC2 g2
    go_wp2_with fail
    go_ret
    rw [HF.out]
    exact ⟨rfl, hb13⟩
  | false =>
    have HA1 := Lib.hid ha1
    clear ha1
    by_cases h5 : 5 < m + 1
    · have HF : Hid (R = 2) := Lib.hid (by rw [HR2.out, if_neg (by rw [HA1.out]; decide), if_pos (.inl h5)])
      clear hC2 g1
      go_wp2_with fail
      go_ret
      rw [HF.out]
      exact ⟨rfl, hb13⟩
    · have hC3 : ∀ j, j < m + 1 → w3.cell? ⟨w.heap.size, 0 + j, none⟩ = some (.string (L j)) := fun j hj => Below.cell_some hb3 (hC2 j hj)
      have T3 := HT2.out w3 (by omega) hC3 (tests_path2 _ L w3)
      have HT3 := Lib.hid T3
      clear T3 hC2 hC3 HT2 g1 g2
      go_wp2_with fail
      refine HT3.out.mono ?_
      rintro e w4 ⟨rfl, hb4⟩
      have hb14 := below_step hb13 hb4
      have hE4 := hE3.below hb4
      have g2 := hE4.errs.var 2 hE.has.2
      have g4 := hE4.errs.var 4 h4
      simp only [errG] at g2 g4
      clear HT3
      cases ha2 : (lstF (m + 1) L).any (fun w => decide (10 < w.length)) with
      | true =>
        have HF : Hid (R = 2) := Lib.hid (by rw [HR2.out, if_neg (by rw [HA1.out]; decide), if_pos (.inr ha2)])
        clear ha2 g4
        go_wp2_with fail
        go_ret
        rw [HF.out]
        exact ⟨rfl, hb14⟩
      | false =>
        have HA2 := Lib.hid ha2
        clear ha2 g2
        by_cases h1 : 1 < m + 1
        · cases hw : sufWell (L m).data.toList with
          | true =>
            have HF : Hid (R = 0) := Lib.hid (by rw [HR2.out, if_neg (by rw [HA1.out]; decide), if_neg (by rintro (h | h); exact h5 h; rw [HA2.out] at h; cases h), if_neg (by rintro ⟨_, h⟩; rw [hw] at h; cases h)])
            clear hw g4
            go_wp2_with fail
            go_ret
            rw [HF.out]
            exact ⟨rfl, hb14⟩
          | false =>
            have HF : Hid (R = 4) := Lib.hid (by rw [HR2.out, if_neg (by rw [HA1.out]; decide), if_neg (by rintro (h | h); exact h5 h; rw [HA2.out] at h; cases h), if_pos ⟨h1, hw⟩])
            clear hw
            go_wp2_with fail
            go_ret
            rw [HF.out]
            exact ⟨rfl, hb14⟩
        · have HF : Hid (R = 0) := Lib.hid (by rw [HR2.out, if_neg (by rw [HA1.out]; decide), if_neg (by rintro (h | h); exact h5 h; rw [HA2.out] at h; cases h), if_neg (fun h => h1 h.1)])
          clear g4
          go_wp2_with fail
          go_ret
          rw [HF.out]
          exact ⟨rfl, hb14⟩
end Go.Proofs.Pw
