/- Plain mathematics of versions as texts: what is read of a text that was written, and back. No program in sight. -/
import Derived.Test.YtfkimddlgopgbaaGreatDoorModMath
import Derived.Test.YtfkimddlgopgbaaGreatDoorVerOrd
import Derived.Lib.Join
namespace Go.Proofs.Pw
open Go.Lib

/-- a text cut at a byte, with what stands ahead of it -/
def cutAt (c : UInt8) : Str → Str → List Str
  | acc, [] => [acc]
  | acc, b :: l => if b = c then acc :: cutAt c [] l else cutAt c (acc ++ [b]) l

theorem cutAt_no (c : UInt8) : ∀ (l acc : Str), c ∉ l → cutAt c acc l = [acc ++ l]
  | [], acc, _ => by simp [cutAt]
  | b :: l, acc, h => by
    simp only [List.mem_cons, not_or] at h
    rw [cutAt, if_neg (fun e => h.1 e.symm), cutAt_no c l _ h.2]
    simp
theorem cutAt_hit (c : UInt8) : ∀ (a acc r : Str), c ∉ a → cutAt c acc (a ++ c :: r) = (acc ++ a) :: cutAt c [] r
  | [], acc, r, _ => by simp [cutAt]
  | b :: l, acc, r, h => by
    simp only [List.mem_cons, not_or] at h
    rw [List.cons_append, cutAt, if_neg (fun e => h.1 e.symm), cutAt_hit c l _ r h.2]
    simp
theorem mem_at {c : UInt8} {s : Str} (h : c ∈ s) : ∃ a b, s = a ++ c :: b ∧ c ∉ a := by
  induction s with
  | nil => cases h
  | cons x l ih =>
    by_cases e : c = x
    · subst e
      exact ⟨[], l, rfl, by simp⟩
    · have hm : c ∈ l := (List.mem_cons.1 h).resolve_left e
      obtain ⟨a, b, rfl, hn⟩ := ih hm
      exact ⟨x :: a, b, rfl, by simp [e, hn]⟩
theorem index_byte_at {c : UInt8} {a b : Str} (h : c ∉ a) : index (a ++ c :: b) [c] = a.length := by
  have := index_at (a := a) (b := b) (sub := [c]) (by simp) (by intro d hd; simp at hd; subst hd; exact h)
  simpa using this
theorem index_byte_no {c : UInt8} {s : Str} (h : c ∉ s) : index s [c] = -1 := index_no (by simp) (by intro d hd; simp at hd; subst hd; exact h)
theorem split_cutAt (c : UInt8) : ∀ (n : Nat) (s : Str), s.length ≤ n → split s [c] = cutAt c [] s
  | n, s, hn => by
    by_cases h : c ∈ s
    · obtain ⟨a, b, rfl, ha⟩ := mem_at h
      rw [cutAt_hit c a [] b ha, split_hit (by simp) (index_byte_at ha)]
      have e1 : (a ++ c :: b).take a.length = a := List.take_left
      have e2 : (a ++ c :: b).drop (a.length + [c].length) = b := by
        rw [show a.length + [c].length = (a ++ [c]).length by simp, show a ++ c :: b = (a ++ [c]) ++ b by simp, List.drop_left]
      rw [e1, e2]
      cases n with
      | zero => simp at hn
      | succ n => rw [split_cutAt c n b (by simp at hn; omega)]; rfl
    · rw [split_none (index_byte_no h), cutAt_no c s [] h]
      rfl
theorem split_eq (c : UInt8) (s : Str) : split s [c] = cutAt c [] s := split_cutAt c s.length s (Nat.le_refl _)
theorem cut_at {c : UInt8} {a b : Str} (h : c ∉ a) : cut (a ++ c :: b) [c] = (a, b, true) := by
  unfold cut
  rw [index_byte_at h, if_pos (by omega)]
  have e1 : (a ++ c :: b).take (a.length : Int).toNat = a := List.take_left
  have e2 : (a ++ c :: b).drop ((a.length : Int).toNat + [c].length) = b := by
    rw [show (a.length : Int).toNat + [c].length = (a ++ [c]).length by simp, show a ++ c :: b = (a ++ [c]) ++ b by simp, List.drop_left]
  rw [e1, e2]
theorem cut_no {c : UInt8} {s : Str} (h : c ∉ s) : cut s [c] = (s, [], false) := by
  unfold cut
  rw [index_byte_no h, if_neg (by omega)]

theorem join_two (x y : Str) (r : List Str) (sep : Str) : join (x :: y :: r) sep = x ++ sep ++ join (y :: r) sep := by
  rw [join_cons, join_cons]
  simp [joinTail, List.append_assoc]
theorem cutAt_ne (c : UInt8) : ∀ (l acc : Str), cutAt c acc l ≠ []
  | [], acc => by simp [cutAt]
  | b :: l, acc => by
    rw [cutAt]
    split
    · simp
    · exact cutAt_ne c l _
theorem join_cutAt (c : UInt8) : ∀ (l acc : Str), join (cutAt c acc l) [c] = acc ++ l
  | [], acc => by simp [cutAt, join_one]
  | b :: l, acc => by
    rw [cutAt]
    split
    · rename_i e
      subst e
      have hn := cutAt_ne b l []
      cases hc : cutAt b [] l with
      | nil => exact absurd hc hn
      | cons y r =>
        rw [join_two, ← hc, join_cutAt b l []]
        simp
    · rw [join_cutAt c l]
      simp
theorem join_split (c : UInt8) (s : Str) : join (split s [c]) [c] = s := by rw [split_eq, join_cutAt]; rfl
theorem split_ne (c : UInt8) (s : Str) : split s [c] ≠ [] := by rw [split_eq]; exact cutAt_ne c s []
theorem split_join (c : UInt8) : ∀ (l : List Str), l ≠ [] → (∀ x ∈ l, c ∉ x) → split (join l [c]) [c] = l
  | [], h, _ => absurd rfl h
  | [x], _, h => by rw [join_one, split_eq, cutAt_no c x [] (h x (by simp))]; rfl
  | x :: y :: r, _, h => by
    have ih := split_join c (y :: r) (by simp) (fun z hz => h z (List.mem_cons_of_mem _ hz))
    rw [split_eq] at ih ⊢
    rw [join_two, List.append_assoc, List.singleton_append, cutAt_hit c x [] _ (h x (by simp)), ih]
    rfl
theorem split_mem (c : UInt8) : ∀ (l acc : Str), c ∉ acc → ∀ x ∈ cutAt c acc l, c ∉ x
  | [], acc, h, x, hx => by simp [cutAt] at hx; subst hx; exact h
  | b :: l, acc, h, x, hx => by
    rw [cutAt] at hx
    split at hx
    · rcases List.mem_cons.1 hx with rfl | hx
      · exact h
      · exact split_mem c l [] (by simp) x hx
    · rename_i hb
      exact split_mem c l _ (by simp [h]; exact fun e => hb e.symm) x hx
theorem split_words (c : UInt8) (s : Str) : ∀ x ∈ split s [c], c ∉ x := by rw [split_eq]; exact split_mem c s [] (by simp)

/-! ### a version's text -/
def verFmtS (a b c : Str) (pre : List Str) : Str := 118 :: ((a ++ 46 :: (b ++ 46 :: c)) ++ (if pre = [] then [] else 45 :: join pre [46]))
def verFmt (a b c : Int) (pre : List Str) : Str := verFmtS (itoa a) (itoa b) (itoa c) pre
/-- ver.Text -/
def verText (a b c : Int) (pre : List Str) : Str := if verErr (verFmt a b c pre) = 0 ∧ verPre (verFmt a b c pre) = pre then verFmt a b c pre else []

theorem worseN_zero {a b : Nat} : worseN a b = 0 ↔ a = 0 ∧ b = 0 := by
  unfold worseN
  split <;> omega
theorem numErrs_zero : ∀ (l : List Str) (b : Nat), numErrs l b = 0 ↔ b = 0 ∧ ∀ w ∈ l, (numberOf w).2 = 0
  | [], b => by simp [numErrs]
  | w :: r, b => by
    have := numErrs_zero r (worseN b (numberOf w).2)
    show numErrs r (worseN b (numberOf w).2) = 0 ↔ _
    rw [this, worseN_zero]
    simp only [List.mem_cons, forall_eq_or_imp, and_assoc]
theorem partErrs_zero : ∀ (l : List Str) (b : Nat), partErrs l b = 0 ↔ b = 0 ∧ ∀ w ∈ l, partErr w = 0
  | [], b => by simp [partErrs]
  | w :: r, b => by
    have := partErrs_zero r (worseN b (partErr w))
    show partErrs r (worseN b (partErr w)) = 0 ↔ _
    rw [this, worseN_zero]
    simp only [List.mem_cons, forall_eq_or_imp, and_assoc]
theorem verErrs_zero (s : Str) : verErrs s = 0 ↔ (∀ w ∈ verWords s, (numberOf w).2 = 0) ∧ (∀ w ∈ verPres s, partErr w = 0) ∧ (verPres s).length ≤ 5 := by
  unfold verErrs
  simp only
  by_cases h : 5 < (verPres s).length
  · rw [if_pos h, worseN_zero]
    constructor
    · rintro ⟨_, h2⟩; omega
    · rintro ⟨_, _, h2⟩; omega
  · rw [if_neg h, partErrs_zero, numErrs_zero]
    constructor
    · rintro ⟨⟨_, h1⟩, h2⟩; exact ⟨h1, h2, by omega⟩
    · rintro ⟨h1, h2, _⟩; exact ⟨⟨rfl, h1⟩, h2⟩
theorem verErr_zero (s : Str) : verErr s = 0 ↔ hasPrefix s [118] = true ∧ (verWords s).length = 3 ∧ (∀ w ∈ verWords s, (numberOf w).2 = 0) ∧ (∀ w ∈ verPres s, partErr w = 0) ∧ (verPres s).length ≤ 5 := by
  unfold verErr
  by_cases h : hasPrefix s [118] = false ∨ (verWords s).length ≠ 3
  · rw [if_pos h]
    constructor
    · intro h2; omega
    · rintro ⟨h1, h2, _⟩
      rcases h with h | h
      · rw [h1] at h; cases h
      · exact absurd h2 h
  · rw [if_neg h, verErrs_zero]
    rw [not_or] at h
    have h1 : hasPrefix s [118] = true := by simpa using h.1
    have h2 : (verWords s).length = 3 := Decidable.of_not_not h.2
    simp [h1, h2]

theorem itoa_ofNat (n : Nat) : itoa (n : Int) = decDigits n := by unfold itoa; rw [if_neg (by omega)]; simp
theorem numberOf_itoa {s : Str} (h : (numberOf s).2 = 0) : itoa ((numberOf s).1 : Nat) = s := by
  obtain ⟨h1, h2, h3, _⟩ := numberOf_err h
  rw [h3]
  exact (itoa_decVal h1).2 h2
theorem hasPrefix_v {s : Str} (h : hasPrefix s [118] = true) : s = 118 :: trimPrefix s [118] := by
  unfold trimPrefix
  rw [if_pos h]
  unfold hasPrefix at h
  obtain ⟨t, rfl⟩ := List.isPrefixOf_iff_prefix.1 h
  rfl
theorem list_three {l : List Str} (h : l.length = 3) : l = [l.getD 0 [], l.getD 1 [], l.getD 2 []] := by
  match l, h with
  | [a, b, c], _ => rfl

/-- what is right is written as it was -/
theorem ver_back {s : Str} (h : verErr s = 0) : verFmt (verNum s 0 : Nat) (verNum s 1 : Nat) (verNum s 2 : Nat) (verPre s) = s := by
  obtain ⟨h1, h2, h3, h4, h5⟩ := (verErr_zero s).1 h
  have hp : verPre s = verPres s := by unfold verPre; rw [if_pos h]
  have hn : ∀ i, i < 3 → itoa (verNum s i : Nat) = (verWords s).getD i [] := fun i hi => by
    unfold verNum
    rw [if_pos h]
    apply numberOf_itoa
    apply h3
    rw [List.getD_eq_getElem?_getD, List.getElem?_eq_getElem (by omega)]
    exact List.getElem_mem _
  unfold verFmt verFmtS
  rw [hn 0 (by omega), hn 1 (by omega), hn 2 (by omega), hp]
  have hw : join (verWords s) [46] = (verWords s).getD 0 [] ++ 46 :: ((verWords s).getD 1 [] ++ 46 :: (verWords s).getD 2 []) := by
    conv => lhs; rw [list_three h2]
    rw [join_two, join_two, join_one]
    simp
  rw [← hw]
  have hs := hasPrefix_v h1
  conv => rhs; rw [hs]
  congr 1
  unfold verWords verPres
  by_cases hd : (45 : UInt8) ∈ trimPrefix s [118]
  · obtain ⟨a, b, e, ha⟩ := mem_at hd
    rw [e, cut_at ha]
    simp only [↓reduceIte]
    rw [join_split, if_neg (split_ne _ _), join_split]
  · rw [cut_no hd]
    simp only [Bool.false_eq_true, ↓reduceIte, List.append_nil]
    rw [join_split]
theorem ver_inj {a b : Str} (ha : verErr a = 0) (hb : verErr b = 0) (hn : ∀ i, i < 3 → verNum a i = verNum b i) (hp : verPre a = verPre b) : a = b := by
  rw [← ver_back ha, ← ver_back hb, hn 0 (by omega), hn 1 (by omega), hn 2 (by omega), hp]
theorem verCmp_same {a b : Str} (ha : verErr a = 0) (hb : verErr b = 0) : verCmp a b = 0 ↔ a = b :=
  ⟨fun h => ver_inj ha hb (verCmp_zero h).1 (verCmp_zero h).2, fun e => by subst e; exact verCmp_ord.self a⟩

/-- what was written is read -/
theorem ver_head (h : Str) (hh : (45 : UInt8) ∉ h) (t : Str) (ht : t = [] ∨ ∃ r, t = 45 :: r) : verWords (118 :: (h ++ t)) = split h [46] := by
  unfold verWords
  have e : trimPrefix (118 :: (h ++ t)) [118] = h ++ t := rfl
  rw [e]
  rcases ht with rfl | ⟨r, rfl⟩
  · rw [List.append_nil, cut_no hh]
  · rw [cut_at hh]
theorem ver_pres (h : Str) (hh : (45 : UInt8) ∉ h) : verPres (118 :: (h ++ [])) = [] ∧ ∀ r, verPres (118 :: (h ++ 45 :: r)) = split r [46] := by
  unfold verPres
  have e : ∀ t, trimPrefix (118 :: (h ++ t)) [118] = h ++ t := fun _ => rfl
  refine ⟨?_, fun r => ?_⟩
  · rw [e, List.append_nil, cut_no hh]; rfl
  · rw [e, cut_at hh]; rfl
theorem dig_not {l : Str} (h : l.all isDig = true) : (45 : UInt8) ∉ l ∧ (46 : UInt8) ∉ l ∧ (32 : UInt8) ∉ l ∧ (64 : UInt8) ∉ l ∧ (10 : UInt8) ∉ l := by
  have g : ∀ c : UInt8, isDig c = false → c ∉ l := fun c hc hm => by
    have := List.all_eq_true.1 h c hm
    rw [hc] at this
    cases this
  exact ⟨g _ (by decide), g _ (by decide), g _ (by decide), g _ (by decide), g _ (by decide)⟩
theorem verErr_len {s : Str} (h : (verWords s).length ≠ 3) : verErr s ≠ 0 := fun e => h ((verErr_zero s).1 e).2.1
theorem verErr_num {s : Str} {w : Str} (h : w ∈ verWords s) (h2 : (numberOf w).2 ≠ 0) : verErr s ≠ 0 := fun e => h2 (((verErr_zero s).1 e).2.2.1 w h)

theorem tail_form (pre : List Str) : (if pre = [] then [] else 45 :: join pre [46]) = ([] : Str) ∨ ∃ r, (if pre = [] then [] else 45 :: join pre [46]) = (45 : UInt8) :: r := by
  by_cases h : pre = []
  · exact .inl (if_pos h)
  · exact .inr ⟨_, if_neg h⟩
theorem verFmtS_words {a b c : Str} (ha : a.all isDig = true) (hb : b.all isDig = true) (hc : c.all isDig = true) (pre : List Str) : verWords (verFmtS a b c pre) = [a, b, c] := by
  have da := dig_not ha
  have db := dig_not hb
  have dc := dig_not hc
  unfold verFmtS
  rw [ver_head _ (by simp [da.1, db.1, dc.1]) _ (tail_form pre), split_eq, cutAt_hit 46 a [] _ da.2.1, cutAt_hit 46 b [] _ db.2.1, cutAt_no 46 c [] dc.2.1]
  simp
theorem itoa_digits {n : Int} (h : 0 ≤ n) : (itoa n).all isDig = true ∧ areDigits (itoa n) = true ∧ decVal (itoa n) = n.toNat ∧ ¬ (1 < (itoa n).length ∧ (itoa n).head? = some 48) := by
  obtain ⟨k, rfl⟩ : ∃ k : Nat, n = k := ⟨n.toNat, by omega⟩
  rw [itoa_ofNat]
  exact ⟨decDigits_all k, decDigits_digits k, by rw [decVal_decDigits]; simp, decDigits_head k⟩
theorem itoa_neg {n : Int} (h : n < 0) : ∃ r, itoa n = 45 :: r := ⟨_, by unfold itoa; rw [if_pos h]⟩
theorem numberOf_big {n : Int} (h : 999999 < n) : (numberOf (itoa n)).2 ≠ 0 := by
  obtain ⟨_, h2, h3, h4⟩ := itoa_digits (show 0 ≤ n by omega)
  intro e
  obtain ⟨_, _, _, h5⟩ := numberOf_err e
  have := (decVal_small h2 h4).2 h5
  omega
/-- numbers that are none of a version's -/
theorem verFmt_bad {a b c : Int} (pre : List Str) (h : ¬ (0 ≤ a ∧ a ≤ 999999 ∧ 0 ≤ b ∧ b ≤ 999999 ∧ 0 ≤ c ∧ c ≤ 999999)) : verErr (verFmt a b c pre) ≠ 0 := by
  unfold verFmt
  by_cases ha : 0 ≤ a
  · have da := itoa_digits ha
    by_cases hb : 0 ≤ b
    · have db := itoa_digits hb
      by_cases hc : 0 ≤ c
      · have dc := itoa_digits hc
        have hw := verFmtS_words da.1 db.1 dc.1 pre
        by_cases h1 : 999999 < a
        · exact verErr_num (w := itoa a) (by rw [hw]; simp) (numberOf_big h1)
        · by_cases h2 : 999999 < b
          · exact verErr_num (w := itoa b) (by rw [hw]; simp) (numberOf_big h2)
          · exact verErr_num (w := itoa c) (by rw [hw]; simp) (numberOf_big (by omega))
      · obtain ⟨r, hr⟩ := itoa_neg (show c < 0 by omega)
        have na := dig_not da.1
        have nb := dig_not db.1
        have e : verFmtS (itoa a) (itoa b) (itoa c) pre = 118 :: ((itoa a ++ 46 :: (itoa b ++ [46])) ++ 45 :: (r ++ (if pre = [] then [] else 45 :: join pre [46]))) := by
          unfold verFmtS; rw [hr]; simp
        have hw : verWords (verFmtS (itoa a) (itoa b) (itoa c) pre) = [itoa a, itoa b, []] := by
          rw [e, ver_head _ (by simp [na.1, nb.1]) _ (.inr ⟨_, rfl⟩), split_eq, cutAt_hit 46 _ [] _ na.2.1, cutAt_hit 46 _ [] _ nb.2.1]
          simp [cutAt]
        exact verErr_num (w := []) (by rw [hw]; simp) (by decide)
    · obtain ⟨r, hr⟩ := itoa_neg (show b < 0 by omega)
      have na := dig_not da.1
      have e : verFmtS (itoa a) (itoa b) (itoa c) pre = 118 :: ((itoa a ++ [46]) ++ 45 :: (r ++ 46 :: itoa c ++ (if pre = [] then [] else 45 :: join pre [46]))) := by
        unfold verFmtS; rw [hr]; simp
      apply verErr_len
      rw [e, ver_head _ (by simp [na.1]) _ (.inr ⟨_, rfl⟩), split_eq, cutAt_hit 46 _ [] _ na.2.1]
      simp [cutAt]
  · obtain ⟨r, hr⟩ := itoa_neg (show a < 0 by omega)
    have e : verFmtS (itoa a) (itoa b) (itoa c) pre = 118 :: ([] ++ 45 :: (r ++ 46 :: (itoa b ++ 46 :: itoa c) ++ (if pre = [] then [] else 45 :: join pre [46]))) := by
      unfold verFmtS; rw [hr]; simp
    apply verErr_len
    rw [e, ver_head [] (by simp) _ (.inr ⟨_, rfl⟩), split_eq]
    simp [cutAt]
end Go.Proofs.Pw
