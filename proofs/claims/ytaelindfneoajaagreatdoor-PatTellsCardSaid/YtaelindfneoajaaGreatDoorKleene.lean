/- Patterns: matching piece by piece is matching place by place. No program in sight. -/
import Derived.Test.YtaelindfneoajaaGreatDoorMath
import Derived.Lib.Replace
import Derived.Lib.ReplaceLaws
import Derived.Lib.CountLaws
namespace Go.Proofs.Pw
open Go.Lib

/-- a pattern's steps; none: any text -/
def toks : Str → List (Option UInt8)
  | [] => []
  | c :: r => if hasPrefix (c :: r) dots then none :: toks (r.drop 2) else some c :: toks r
termination_by s => s.length
decreasing_by
  · simp only [List.length_drop, List.length_cons]; omega
  · simp only [List.length_cons]; omega

theorem toks_nil : toks [] = [] := by rw [toks]
theorem toks_hitc {c : UInt8} {r : Str} (h : hasPrefix (c :: r) dots = true) : toks (c :: r) = none :: toks (r.drop 2) := by rw [toks, if_pos h]
theorem toks_missc {c : UInt8} {r : Str} (h : hasPrefix (c :: r) dots = false) : toks (c :: r) = some c :: toks r := by
  rw [toks, if_neg (by rw [h]; decide)]

def Mt : List (Option UInt8) → Str → Prop
  | [], s => s = []
  | some c :: t, s => ∃ s', s = c :: s' ∧ Mt t s'
  | none :: t, s => ∃ u s', s = u ++ s' ∧ Mt t s'

theorem Mt_append (t' : List (Option UInt8)) : ∀ (t : List (Option UInt8)) (s : Str), Mt (t ++ t') s ↔ ∃ a b, s = a ++ b ∧ Mt t a ∧ Mt t' b
  | [], s => by
    constructor
    · intro h; exact ⟨[], s, rfl, rfl, h⟩
    · rintro ⟨a, b, rfl, h1, h2⟩
      have h1 : a = [] := h1
      subst h1; exact h2
  | some c :: t, s => by
    constructor
    · rintro ⟨s', rfl, h⟩
      obtain ⟨a, b, rfl, h1, h2⟩ := (Mt_append t' t s').1 h
      exact ⟨c :: a, b, rfl, ⟨a, rfl, h1⟩, h2⟩
    · rintro ⟨_, b, rfl, ⟨a, rfl, h1⟩, h2⟩
      exact ⟨a ++ b, rfl, (Mt_append t' t _).2 ⟨a, b, rfl, h1, h2⟩⟩
  | none :: t, s => by
    constructor
    · rintro ⟨u, s', rfl, h⟩
      obtain ⟨a, b, rfl, h1, h2⟩ := (Mt_append t' t s').1 h
      exact ⟨u ++ a, b, by simp, ⟨u, a, rfl, h1⟩, h2⟩
    · rintro ⟨_, b, rfl, ⟨u, a, rfl, h1⟩, h2⟩
      exact ⟨u, a ++ b, by simp, (Mt_append t' t _).2 ⟨a, b, rfl, h1, h2⟩⟩

theorem Mt_lits : ∀ (l s : Str), Mt (l.map some) s ↔ s = l
  | [], s => Iff.rfl
  | c :: l, s => by
    constructor
    · rintro ⟨s', rfl, h⟩
      rw [(Mt_lits l s').1 h]
    · rintro rfl
      exact ⟨l, rfl, (Mt_lits l l).2 rfl⟩

/-! ### what a place of the row says -/
theorem Mt_none (T : List (Option UInt8)) (s : Str) (k : Nat) : Mt (T ++ [none]) (s.take k) ↔ ∃ j, j ≤ k ∧ Mt T (s.take j) := by
  rw [Mt_append]
  constructor
  · rintro ⟨a, b, h, h1, _⟩
    have hl := congrArg List.length h
    rw [List.length_take, List.length_append] at hl
    refine ⟨a.length, by omega, ?_⟩
    have : s.take a.length = a := by
      have h2 : (s.take k).take a.length = a := by rw [h, List.take_left]
      rw [List.take_take, Nat.min_eq_left (by omega)] at h2
      exact h2
    rw [this]; exact h1
  · rintro ⟨j, hj, h⟩
    refine ⟨s.take j, (s.take k).drop j, ?_, h, _, [], (List.append_nil _).symm, rfl⟩
    have := List.take_append_drop j (s.take k)
    rw [List.take_take, Nat.min_eq_left hj] at this
    exact this.symm
theorem Mt_some_zero (T : List (Option UInt8)) (c : UInt8) (s : Str) : ¬ Mt (T ++ [some c]) (s.take 0) := by
  rw [Mt_append]
  rintro ⟨a, b, h, _, s', rfl, _⟩
  simp at h
theorem Mt_some (T : List (Option UInt8)) (c : UInt8) (s : Str) (k : Nat) (hk : k < s.length) : Mt (T ++ [some c]) (s.take (k + 1)) ↔ Mt T (s.take k) ∧ s[k] = c := by
  rw [Mt_append, List.take_succ_eq_append_getElem hk]
  constructor
  · rintro ⟨a, b, h, h1, s', rfl, h2⟩
    have h2 : s' = [] := h2
    subst h2
    have := List.append_inj' h rfl
    rw [this.1]
    exact ⟨h1, by have := this.2; simpa using this⟩
  · rintro ⟨h1, h2⟩
    exact ⟨s.take k, [s[k]], rfl, h1, [], by rw [h2], rfl⟩

/-! ### a text's first place in another one -/
theorem index_spec : ∀ (s q : Str) (k : Nat), index s q = k → s = s.take k ++ (q ++ s.drop (k + q.length))
  | [], q, k, h => by
    unfold index at h
    split at h
    · rename_i hq
      have : q = [] := by simpa using hq
      subst this
      have : k = 0 := by omega
      subst this; rfl
    · omega
  | b :: l, q, k, h => by
    unfold index at h
    split at h
    · rename_i hp
      have : k = 0 := by omega
      subst this
      obtain ⟨t, ht⟩ := List.isPrefixOf_iff_prefix.1 hp
      rw [← ht]; simp
    · split at h
      · omega
      · rename_i hm
        have hm' : index l q ≠ -1 := fun e => hm (beq_iff_eq.2 e)
        have hge := index_ge l q
        obtain ⟨j, rfl⟩ : ∃ j, k = j + 1 := ⟨k - 1, by omega⟩
        have := index_spec l q j (by omega)
        rw [show j + 1 + q.length = (j + q.length) + 1 by omega, List.take_succ_cons, List.drop_succ_cons, List.cons_append, ← this]

theorem index_le : ∀ (u q v : Str), 0 ≤ index (u ++ (q ++ v)) q ∧ index (u ++ (q ++ v)) q ≤ u.length
  | [], q, v => by
    have hp : q.isPrefixOf (q ++ v) = true := List.isPrefixOf_iff_prefix.2 ⟨v, rfl⟩
    rw [List.nil_append]
    cases hs : q ++ v with
    | nil =>
      obtain ⟨rfl, rfl⟩ := List.append_eq_nil_iff.1 hs
      exact ⟨by decide, by decide⟩
    | cons b l =>
      rw [hs] at hp
      unfold index
      rw [if_pos hp]
      exact ⟨Int.le_refl _, Int.le_refl _⟩
  | b :: u, q, v => by
    have ih := index_le u q v
    rw [List.cons_append]
    unfold index
    split
    · exact ⟨Int.le_refl _, by omega⟩
    · split
      · rename_i e
        have e := beq_iff_eq.1 e
        omega
      · rw [List.length_cons]; omega

/-! ### a pattern's steps and its pieces -/
theorem toks_none : ∀ (p : Str), index p dots = -1 → toks p = p.map some
  | [], _ => toks_nil
  | c :: r, h => by
    unfold index at h
    split at h
    · omega
    · rename_i hp
      have hge := index_ge r dots
      split at h
      · rename_i h1
        rw [toks_missc (by unfold hasPrefix; exact Bool.eq_false_iff.2 hp), toks_none r (beq_iff_eq.1 h1), List.map_cons]
      · rename_i h1
        have h1 : index r dots ≠ -1 := fun e => h1 (beq_iff_eq.2 e)
        omega
theorem toks_hit : ∀ (p : Str) (i : Nat), index p dots = i → toks p = (p.take i).map some ++ none :: toks (p.drop (i + 3))
  | [], i, h => by
    have : index [] dots = -1 := by decide
    omega
  | c :: r, i, h => by
    unfold index at h
    split at h
    · rename_i hp
      have : i = 0 := by omega
      subst this
      rw [toks_hitc (by unfold hasPrefix; exact hp)]; rfl
    · rename_i hp
      have hge := index_ge r dots
      split at h
      · omega
      · rename_i hm
        have hm' : index r dots ≠ -1 := fun e => hm (beq_iff_eq.2 e)
        obtain ⟨j, rfl⟩ : ∃ j, i = j + 1 := ⟨i - 1, by omega⟩
        rw [toks_missc (by unfold hasPrefix; exact Bool.eq_false_iff.2 hp), toks_hit r j (by omega)]; rfl

/-- pieces, each behind any text -/
def Ps : List Str → Str → Prop
  | [], s => s = []
  | q :: r, s => ∃ u s', s = u ++ (q ++ s') ∧ Ps r s'
theorem Ps_more (u v : Str) : ∀ (r : List Str), r ≠ [] → Ps r v → Ps r (u ++ v)
  | [], h, _ => absurd rfl h
  | q :: r, _, ⟨x, y, e, h⟩ => ⟨u ++ x, y, by rw [e, List.append_assoc], h⟩

theorem split_dne (p : Str) : ∃ h t, split p dots = h :: t := by
  rcases Int.lt_or_le (index p dots) 0 with h | h
  · exact ⟨p, [], split_none (by have := index_ge p dots; omega)⟩
  · obtain ⟨i, hi⟩ : ∃ i : Nat, index p dots = i := ⟨(index p dots).toNat, by omega⟩
    exact ⟨_, _, split_hit (by decide) hi⟩

theorem Mt_split : ∀ (n : Nat) (p : Str), p.length ≤ n → ∀ (s h : Str) (t : List Str), split p dots = h :: t → (Mt (toks p) s ↔ ∃ s', s = h ++ s' ∧ Ps t s') := by
  intro n
  induction n with
  | zero =>
    intro p hp s h t hs
    obtain rfl : p = [] := List.length_eq_zero_iff.1 (by omega)
    rw [split_none (by decide)] at hs
    obtain ⟨rfl, rfl⟩ := List.cons.inj hs
    rw [toks_nil]
    constructor
    · intro e; exact ⟨[], e, rfl⟩
    · rintro ⟨s', rfl, e⟩
      exact e
  | succ n ih =>
    intro p hp s h t hs
    rcases Int.lt_or_le (index p dots) 0 with hi | hi
    · have hi : index p dots = -1 := by have := index_ge p dots; omega
      rw [split_none hi] at hs
      obtain ⟨rfl, rfl⟩ := List.cons.inj hs
      rw [toks_none p hi, Mt_lits]
      constructor
      · intro e; exact ⟨[], by simp [e], rfl⟩
      · rintro ⟨s', rfl, e⟩
        have e : s' = [] := e
        simp [e]
    · obtain ⟨i, hi⟩ : ∃ i : Nat, index p dots = i := ⟨(index p dots).toNat, by omega⟩
      rw [split_hit (by decide) hi] at hs
      obtain ⟨rfl, rfl⟩ := List.cons.inj hs
      obtain ⟨h2, t2, e2⟩ := split_dne (p.drop (i + dots.length))
      have hpl : p.length ≠ 0 := by
        intro e
        obtain rfl := List.length_eq_zero_iff.1 e
        have : index [] dots = -1 := by decide
        omega
      have hih := fun s => ih (p.drop (i + dots.length)) (by rw [List.length_drop, show dots.length = 3 from rfl]; omega) s h2 t2 e2
      rw [show dots.length = 3 from rfl] at hih e2
      rw [toks_hit p i hi, Mt_append, show dots.length = 3 from rfl, e2]
      constructor
      · rintro ⟨a, b, rfl, h1, u, s', rfl, h3⟩
        obtain ⟨s2, rfl, h4⟩ := (hih s').1 h3
        rw [(Mt_lits _ _).1 h1]
        exact ⟨_, rfl, u, s2, rfl, h4⟩
      · rintro ⟨s', rfl, u, s2, rfl, h4⟩
        exact ⟨p.take i, _, rfl, (Mt_lits _ _).2 rfl, u, _, rfl, (hih _).2 ⟨s2, rfl, h4⟩⟩

theorem mids_iff : ∀ (r : List Str), r ≠ [] → ∀ s : Str, ((match mids r.dropLast s with | none => false | some t => hasSuffix t (r.getLast?.getD [])) = true ↔ Ps r s)
  | [], h, _ => absurd rfl h
  | [q], _, s => by
    simp only [List.dropLast_singleton, mids, List.getLast?_singleton, Option.getD_some]
    unfold hasSuffix
    rw [List.isSuffixOf_iff_suffix]
    constructor
    · rintro ⟨u, rfl⟩
      exact ⟨u, [], by simp, rfl⟩
    · rintro ⟨u, s', rfl, h⟩
      have h : s' = [] := h
      subst h
      exact ⟨u, by simp⟩
  | q :: q2 :: r, _, s => by
    have ih := mids_iff (q2 :: r) (by simp)
    rw [List.dropLast_cons_cons, List.getLast?_cons_cons, mids]
    by_cases hi : index s q < 0
    · rw [if_pos hi]
      constructor
      · intro h; cases h
      · rintro ⟨u, s', rfl, _⟩
        have := (index_le u q s').1
        omega
    · rw [if_neg hi, ih]
      obtain ⟨k, hk⟩ : ∃ k : Nat, index s q = k := ⟨(index s q).toNat, by omega⟩
      rw [hk, Int.toNat_natCast]
      constructor
      · intro h
        exact ⟨s.take k, _, index_spec s q k hk, h⟩
      · rintro ⟨u, s', rfl, h⟩
        have h1 := (index_le u q s').2
        have : (u ++ (q ++ s')).drop (k + q.length) = (u ++ q).drop (k + q.length) ++ s' := by
          rw [← List.append_assoc, List.drop_append_of_le_length (by rw [List.length_append]; omega)]
        rw [this]
        exact Ps_more _ _ _ (by simp) h

/-- piece by piece is place by place -/
theorem pmatches_iff (p s : Str) : pmatches (split p dots) s = true ↔ Mt (toks p) s := by
  obtain ⟨h, t, e⟩ := split_dne p
  rw [Mt_split p.length p (Nat.le_refl _) s h t e, e]
  unfold pmatches
  rw [Bool.and_eq_true]
  unfold hasPrefix
  rw [List.isPrefixOf_iff_prefix]
  constructor
  · rintro ⟨⟨s', rfl⟩, h2⟩
    rw [List.drop_left] at h2
    refine ⟨s', rfl, ?_⟩
    by_cases ht : t = []
    · subst ht
      show s' = []
      simpa using h2
    · rw [if_neg ht] at h2
      exact (mids_iff t ht s').1 h2
  · rintro ⟨s', rfl, h2⟩
    refine ⟨⟨s', rfl⟩, ?_⟩
    rw [List.drop_left]
    by_cases ht : t = []
    · subst ht
      have h2 : s' = [] := h2
      simp [h2]
    · rw [if_neg ht]
      exact (mids_iff t ht s').2 h2

/-! ### 'x' for any text -/
def xs (T : List (Option UInt8)) : Str := T.map (·.getD 120)
theorem repl_toks : ∀ (n : Nat) (p : Str), p.length ≤ n → replaceK dots [120] (count p dots) p = xs (toks p) := by
  intro n
  induction n with
  | zero =>
    intro p hp
    obtain rfl : p = [] := List.length_eq_zero_iff.1 (by omega)
    rw [count_miss (by decide), toks_nil]; rfl
  | succ n ih =>
    intro p hp
    rcases Int.lt_or_le (index p dots) 0 with hi | hi
    · have hi : index p dots = -1 := by have := index_ge p dots; omega
      rw [count_miss hi, toks_none p hi, replaceK]
      simp [xs, Function.comp_def]
    · obtain ⟨i, hi⟩ : ∃ i : Nat, index p dots = i := ⟨(index p dots).toNat, by omega⟩
      have hpl : p.length ≠ 0 := by
        intro e
        obtain rfl := List.length_eq_zero_iff.1 e
        have : index [] dots = -1 := by decide
        omega
      rw [count_hit (by decide) hi, Nat.add_comm 1, replaceK_hit _ _ _ _ i hi, toks_hit p i hi, show dots.length = 3 from rfl, ih _ (by rw [List.length_drop]; omega)]
      simp [xs, Function.comp_def]
theorem repl_all (p : Str) : replaceAll p dots [120] = xs (toks p) := by
  unfold replaceAll replace replaceNum
  rw [if_neg (by decide), if_pos (by left; decide)]
  exact repl_toks p.length p (Nat.le_refl _)
theorem toks_len : ∀ (n : Nat) (p : Str), p.length ≤ n → (toks p).length ≤ p.length := by
  intro n
  induction n with
  | zero =>
    intro p hp
    obtain rfl : p = [] := List.length_eq_zero_iff.1 (by omega)
    rw [toks_nil]; exact Nat.le_refl _
  | succ n ih =>
    intro p hp
    cases p with
    | nil => rw [toks_nil]; exact Nat.le_refl _
    | cons c r =>
      rw [List.length_cons] at hp ⊢
      cases h : hasPrefix (c :: r) dots with
      | true =>
        rw [toks_hitc h, List.length_cons]
        have := ih (r.drop 2) (by rw [List.length_drop]; omega)
        rw [List.length_drop] at this
        omega
      | false =>
        rw [toks_missc h, List.length_cons]
        have := ih r (by omega)
        omega
theorem xs_len (p : Str) : (xs (toks p)).length ≤ p.length := by
  unfold xs; rw [List.length_map]; exact toks_len p.length p (Nat.le_refl _)

/-- is there any text: at some place -/
theorem contains_iff (p : Str) : contains p dots = true ↔ ∃ k, k < p.length ∧ hasPrefix (p.drop k) dots = true := by
  unfold contains
  rw [decide_eq_true_iff]
  constructor
  · intro h
    obtain ⟨k, hk⟩ : ∃ k : Nat, index p dots = k := ⟨(index p dots).toNat, by omega⟩
    have e := index_spec p dots k hk
    have hl := congrArg List.length e
    simp only [List.length_append, List.length_take, List.length_drop, show dots.length = 3 from rfl] at hl
    refine ⟨k, by omega, ?_⟩
    unfold hasPrefix
    rw [List.isPrefixOf_iff_prefix]
    refine ⟨p.drop (k + dots.length), ?_⟩
    have h2 : p.drop k = (p.take k ++ (dots ++ p.drop (k + dots.length))).drop k := congrArg (List.drop k) e
    have h3 : (p.take k).length = k := by rw [List.length_take]; omega
    have h4 : (p.take k ++ (dots ++ p.drop (k + dots.length))).drop k = dots ++ p.drop (k + dots.length) := by
      conv => lhs; arg 1; rw [← h3]
      exact List.drop_left
    rw [h4] at h2
    exact h2.symm
  · rintro ⟨k, hk, h⟩
    unfold hasPrefix at h
    rw [List.isPrefixOf_iff_prefix] at h
    obtain ⟨v, hv⟩ := h
    have e : p = p.take k ++ (dots ++ v) := by rw [hv, List.take_append_drop]
    rw [e]
    exact (index_le _ _ _).1

/-- R.PatternError, pat.Check, given a path's error -/
def patErrOf (e : Nat) : Nat := if e = 4 then 0 else e
end Go.Proofs.Pw
