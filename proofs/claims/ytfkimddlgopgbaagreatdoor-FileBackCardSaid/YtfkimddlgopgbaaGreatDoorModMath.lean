/- Plain mathematics of modules: elements, suffixes, paths, modules. No program in sight. -/
import Derived.Test.YtfkimddlgopgbaaGreatDoorVerMath
import Derived.Lib.ItoaNum
import Derived.Lib.LastIndexLaws
namespace Go.Proofs.Pw
open Go.Lib

theorem isDig_ofNat {n : Nat} (h : n < 10) : isDig (UInt8.ofNat (48 + n)) = true ∧ (UInt8.ofNat (48 + n)).toNat = 48 + n := by
  have : (UInt8.ofNat (48 + n)).toNat = 48 + n := by simp; omega
  exact ⟨by unfold isDig; rw [this]; simp; omega, this⟩

theorem decDigits_decVal : ∀ (k : Nat) (s : Str), s.length ≤ k → areDigits s = true → ¬ (1 < s.length ∧ s.head? = some 48) → decDigits (decVal s) = s
  | 0, s, hk, h, _ => by cases s with
    | nil => simp [areDigits] at h
    | cons c r => simp at hk
  | k + 1, s, hk, h, hz => by
    rcases List.eq_nil_or_concat s with rfl | ⟨l, c, rfl⟩
    · simp [areDigits] at h
    · rw [List.concat_eq_append] at *
      have hall : l.all isDig = true ∧ isDig c = true := by
        unfold areDigits at h
        simp only [List.all_append, Bool.and_eq_true, List.all_cons, List.all_nil, Bool.and_true] at h
        exact ⟨h.2.1, h.2.2⟩
      have hc := dig_lt hall.2
      have hcv : UInt8.ofNat (48 + (c.toNat - 48)) = c := by
        rw [show 48 + (c.toNat - 48) = c.toNat by omega, UInt8.ofNat_toNat]
      rw [decVal_snoc]
      cases l with
      | nil =>
        rw [show decVal [] = 0 from rfl, decDigits, dif_pos (by omega)]
        rw [Nat.mul_zero, Nat.zero_add, hcv]
        rfl
      | cons b r =>
        have hb : b ≠ 48 := fun e => hz ⟨by simp, by simp [e]⟩
        have hl : areDigits (b :: r) = true := by unfold areDigits; rw [hall.1]; rfl
        have ih := decDigits_decVal k (b :: r) (by simp at hk ⊢; omega) hl (by rintro ⟨_, h2⟩; simp at h2; exact hb h2)
        have hpos : 1 ≤ decVal (b :: r) := by
          rw [decVal_cons]
          have h1 := hall.1
          simp only [List.all_cons, Bool.and_eq_true] at h1
          have := dig_lt h1.1
          have hne : b.toNat ≠ 48 := fun e => hb (UInt8.toNat_inj.1 (by simpa using e))
          have hp : 1 ≤ 10 ^ r.length := Nat.one_le_pow _ _ (by decide)
          have := Nat.mul_le_mul (show 1 ≤ b.toNat - 48 by omega) hp
          omega
        rw [decDigits, dif_neg (by omega)]
        rw [show (10 * decVal (b :: r) + (c.toNat - 48)) / 10 = decVal (b :: r) by omega, show (10 * decVal (b :: r) + (c.toNat - 48)) % 10 = c.toNat - 48 by omega, ih, hcv]

theorem decDigits_ne_nil (u : Nat) : decDigits u ≠ [] := by
  rw [decDigits]; split
  · simp
  · simp
theorem decDigits_all (u : Nat) : (decDigits u).all isDig = true := by
  induction u using Nat.strongRecOn with
  | _ u ih =>
    rw [decDigits]
    split
    · rename_i h
      simp only [List.all_cons, List.all_nil, Bool.and_true]
      exact (isDig_ofNat h).1
    · rename_i h
      rw [List.all_append, ih (u / 10) (by omega)]
      simp only [List.all_cons, List.all_nil, Bool.and_true, Bool.true_and]
      exact (isDig_ofNat (by omega)).1
theorem decDigits_digits (u : Nat) : areDigits (decDigits u) = true := by
  unfold areDigits
  rw [decDigits_all]
  cases h : decDigits u with
  | nil => exact absurd h (decDigits_ne_nil u)
  | cons => rfl
theorem decDigits_head (u : Nat) : ¬ (1 < (decDigits u).length ∧ (decDigits u).head? = some 48) := by
  induction u using Nat.strongRecOn with
  | _ u ih =>
    rw [decDigits]
    split
    · simp
    · rename_i h
      rintro ⟨_, h2⟩
      rw [List.head?_append] at h2
      by_cases h10 : u / 10 < 10
      · rw [decDigits, dif_pos h10] at h2
        simp only [List.head?_cons, Option.some_or, Option.some.injEq] at h2
        have := congrArg UInt8.toNat h2
        rw [(isDig_ofNat h10).2] at this
        have h48 : (48 : UInt8).toNat = 48 := rfl
        omega
      · apply ih (u / 10) (by omega)
        constructor
        · rw [decDigits_length, nDigits_big h10]
          have := nDigits_pos (u / 10 / 10)
          omega
        · cases hd : (decDigits (u / 10)).head? with
          | none => rw [List.head?_eq_none_iff] at hd; exact absurd hd (decDigits_ne_nil _)
          | some b => rw [hd] at h2; simpa using h2
theorem decVal_decDigits (u : Nat) : decVal (decDigits u) = u := by
  induction u using Nat.strongRecOn with
  | _ u ih =>
    rw [decDigits]
    split
    · rename_i h
      simp only [decVal, List.foldl_cons, List.foldl_nil]
      rw [(isDig_ofNat h).2]; omega
    · rename_i h
      rw [decVal_snoc, ih (u / 10) (by omega), (isDig_ofNat (n := u % 10) (by omega)).2]
      omega
theorem itoa_decVal {s : Str} (h : areDigits s = true) : itoa ((decVal s : Nat) : Int) = s ↔ ¬ (1 < s.length ∧ s.head? = some 48) := by
  have e : itoa ((decVal s : Nat) : Int) = decDigits (decVal s) := by unfold itoa; rw [if_neg (by omega)]; simp
  rw [e]
  constructor
  · intro e2 hz
    have := decDigits_head (decVal s)
    rw [e2] at this
    exact this hz
  · exact decDigits_decVal s.length s (Nat.le_refl _) h

/-! ### elements -/
def isElemByte (c : UInt8) : Bool := decide (97 ≤ c.toNat ∧ c.toNat ≤ 122) || isDig c || c == 46 || c == 45 || c == 95
def elemSet : Str := [97, 98, 99, 100, 101, 102, 103, 104, 105, 106, 107, 108, 109, 110, 111, 112, 113, 114, 115, 116, 117, 118, 119, 120, 121, 122, 48, 49, 50, 51, 52, 53, 54, 55, 56, 57, 46, 45, 95]
theorem elemSet_ok : ∀ c : UInt8, elemSet.contains c = isElemByte c := by
  apply byte_cases
  decide +kernel
theorem dotSet_ok : ∀ c : UInt8, ([46] : Str).contains c = (c == 46) := by
  apply byte_cases
  decide +kernel
/-- mod.elem -/
def elemOk (s : Str) : Bool := !s.isEmpty && s.all isElemByte && !s.all (· == 46) && !contains s dots

/-- a suffix's digits -/
def sufD (s : Str) : Str := trimPrefix s [118]
def looksSuf (s : Str) : Bool := hasPrefix s [118] && areDigits (sufD s)
def isSuf (s : Str) : Bool := looksSuf s && decide ((numberOf (sufD s)).2 = 0 ∧ 2 ≤ (numberOf (sufD s)).1)
/-- mod.suffix: well -/
def sufWell (s : Str) : Bool := !looksSuf s || isSuf s
def sufNum (s : Str) : Nat := (numberOf (sufD s)).1

/-- mod.Path: the error's number -/
def pathErr (s : Str) : Nat :=
  let l := split s [47]
  if l.any (fun w => !elemOk w) then 1
  else if 5 < l.length ∨ l.any (fun w => decide (10 < w.length)) then 2
  else if 1 < l.length ∧ sufWell (l.getLast?.getD []) = false then 4 else 0
/-- mod.Split -/
def modSplit (s : Str) : Str × Nat :=
  if pathErr s ≠ 0 then ([], 0)
  else
    let l := lastIndex s [47]
    if l < 0 then (s, 0)
    else if isSuf (s.drop (l.toNat + 1)) then (s.take l.toNat, sufNum (s.drop (l.toNat + 1))) else (s, 0)
/-- mod.Check: the error's number -/
def modErr (p v : Str) : Nat :=
  if pathErr p ≠ 0 then pathErr p
  else if verErr v ≠ 0 then verErr v
  else if ((modSplit p).2 = 0 ∧ 1 < verNum v 0) ∨ (0 < (modSplit p).2 ∧ verNum v 0 ≠ (modSplit p).2) then 4 else 0
/-- mod.Text -/
def modText (p v : Str) : Str := if modErr p v = 0 then p ++ [64] ++ v else []
/-- mod.Read: path, version, the error's number -/
def modRead (s : Str) : Str × Str × Nat :=
  let l := split s [64]
  if l.length ≠ 2 then ([], [], 1)
  else
    let e := modErr (l.getD 0 []) (l.getD 1 [])
    if e ≠ 0 then ([], [], e) else (l.getD 0 [], l.getD 1 [], 0)

theorem pathErr_le (s : Str) : pathErr s ≤ 4 := by
  unfold pathErr
  simp only
  split
  · decide
  · split
    · decide
    · split <;> decide
end Go.Proofs.Pw
