/- Plain laws of modules: what was written is read; the order. No program in sight. -/
import Derived.Test.YtfkimddlgopgbaaGreatDoorSortMath
import Derived.Test.YtfkimddlgopgbaaGreatDoorModMath
namespace Go.Proofs.Pw
open Go.Lib



def mdErr (m : Md) : Nat := modErr m.1 m.2
def mdText (m : Md) : Str := modText m.1 m.2

theorem mem_join (c x : UInt8) : ∀ l : List Str, x ∈ join l [c] → x = c ∨ ∃ w ∈ l, x ∈ w
  | [], h => by simp [join_nil] at h
  | [a], h => by
    have : join [a] [c] = a := join_one a [c]
    rw [this] at h
    exact .inr ⟨a, by simp, h⟩
  | a :: b :: r, h => by
    rw [join_two] at h
    simp only [List.mem_append, List.mem_cons, List.mem_nil_iff, or_false] at h
    rcases h with (h | h) | h
    · exact .inr ⟨a, by simp, h⟩
    · exact .inl h
    · rcases mem_join c x (b :: r) h with h | ⟨w, hw, h⟩
      · exact .inl h
      · exact .inr ⟨w, by simp at hw ⊢; right; exact hw, h⟩
theorem mem_split (c x : UInt8) (s : Str) (h : x ∈ s) : x = c ∨ ∃ w ∈ split s [c], x ∈ w := by
  rw [← join_split c s] at h
  exact mem_join c x _ h

theorem part_of_dig {c : UInt8} (h : isDig c = true) : isPartByte c = true := by unfold isPartByte; rw [h]; rfl
theorem ver_bytes {v : Str} (h : verErr v = 0) : ∀ c ∈ v, isPartByte c = true ∨ c = 46 := by
  obtain ⟨h1, _, h3, h4, _⟩ := (verErr_zero v).1 h
  have hv := hasPrefix_v h1
  have hnum : ∀ w ∈ verWords v, ∀ c ∈ w, isPartByte c = true := fun w hw c hc => by
    have := (numberOf_err (h3 w hw)).1
    unfold areDigits at this
    simp only [Bool.and_eq_true] at this
    exact part_of_dig (List.all_eq_true.1 this.2 c hc)
  have hpre : ∀ w ∈ verPres v, ∀ c ∈ w, isPartByte c = true := fun w hw c hc => List.all_eq_true.1 (partErr_zero (h4 w hw)).2.2.1 c hc
  have key : ∀ c ∈ trimPrefix v [118], isPartByte c = true ∨ c = 46 := by
    intro c hc
    unfold verWords at hnum
    unfold verPres at hpre
    by_cases hm : (45 : UInt8) ∈ trimPrefix v [118]
    · obtain ⟨a, b, e, ha⟩ := mem_at hm
      rw [e, cut_at ha] at hnum hpre
      simp only [if_true] at hnum hpre
      rw [e] at hc
      simp only [List.mem_append, List.mem_cons] at hc
      rcases hc with hc | rfl | hc
      · rcases mem_split 46 c a hc with h | ⟨w, hw, h⟩
        · exact .inr h
        · exact .inl (hnum w hw c h)
      · exact .inl (by decide)
      · rcases mem_split 46 c b hc with h | ⟨w, hw, h⟩
        · exact .inr h
        · exact .inl (hpre w hw c h)
    · rw [cut_no hm] at hnum
      rcases mem_split 46 c _ hc with h | ⟨w, hw, h⟩
      · exact .inr h
      · exact .inl (hnum w hw c h)
  intro c hc
  rw [hv] at hc
  rcases List.mem_cons.1 hc with rfl | hc
  · exact .inl (by decide)
  · exact key c hc
theorem path_bytes {p : Str} (h : pathErr p = 0) : ∀ c ∈ p, isElemByte c = true ∨ c = 47 := by
  intro c hc
  rcases mem_split 47 c p hc with h1 | ⟨w, hw, h1⟩
  · exact .inr h1
  · refine .inl ?_
    have hok : elemOk w = true := by
      cases he : elemOk w with
      | true => rfl
      | false =>
        exfalso
        unfold pathErr at h
        simp only at h
        rw [if_pos (List.any_eq_true.2 ⟨w, hw, by rw [he]; rfl⟩)] at h
        cases h
    unfold elemOk at hok
    simp only [Bool.and_eq_true] at hok
    exact List.all_eq_true.1 hok.1.1.2 c h1
theorem ver_no {v : Str} (h : verErr v = 0) (d : UInt8) (hd : isPartByte d = false) (h46 : d ≠ 46) : d ∉ v := fun hm => by
  rcases ver_bytes h d hm with e | e
  · rw [hd] at e; cases e
  · exact h46 e
theorem path_no {p : Str} (h : pathErr p = 0) (d : UInt8) (hd : isElemByte d = false) (h47 : d ≠ 47) : d ∉ p := fun hm => by
  rcases path_bytes h d hm with e | e
  · rw [hd] at e; cases e
  · exact h47 e

theorem modErr_zero {p v : Str} (h : modErr p v = 0) : pathErr p = 0 ∧ verErr v = 0 := by
  unfold modErr at h
  by_cases h1 : pathErr p = 0
  · refine ⟨h1, ?_⟩
    by_cases h2 : verErr v = 0
    · exact h2
    · rw [if_neg (by rw [h1]; simp), if_pos h2] at h
      exact h
  · rw [if_pos h1] at h
    exact absurd h h1
theorem modErr_le (p v : Str) : modErr p v ≤ 4 := by
  unfold modErr
  split
  · exact pathErr_le p
  · split
    · have := verErr_le v; omega
    · split <;> decide

theorem split_at {p v : Str} (hp : (64 : UInt8) ∉ p) (hv : (64 : UInt8) ∉ v) : split (p ++ [64] ++ v) [64] = [p, v] := by
  have := split_join 64 [p, v] (by simp) (by intro x hx; simp at hx; rcases hx with rfl | rfl <;> assumption)
  rw [join_two] at this
  have e : join [v] [64] = v := join_one v [64]
  rw [e] at this
  exact this
theorem read_text {p v : Str} (h : modErr p v = 0) : modRead (modText p v) = (p, v, 0) := by
  obtain ⟨h1, h2⟩ := modErr_zero h
  unfold modText modRead
  rw [if_pos h, split_at (path_no h1 64 (by decide) (by decide)) (ver_no h2 64 (by decide) (by decide))]
  simp only [List.length_cons, List.length_nil]
  rw [if_neg (by decide)]
  show (if modErr p v ≠ 0 then _ else _) = _
  rw [if_neg (by rw [h]; simp)]
  rfl
theorem text_read {s : Str} (h : (modRead s).2.2 = 0) : modText (modRead s).1 (modRead s).2.1 = s := by
  unfold modRead at h ⊢
  simp only at h ⊢
  by_cases h2 : (split s [64]).length = 2
  · rw [if_neg (by simp [h2])] at h ⊢
    obtain ⟨a, b, e⟩ : ∃ a b, split s [64] = [a, b] := by
      match hs : split s [64], h2 with
      | [a, b], _ => exact ⟨a, b, rfl⟩
    rw [e] at h ⊢
    simp only [List.getD_cons_zero, List.getD_cons_succ] at h ⊢
    by_cases h3 : modErr a b = 0
    · rw [if_neg (by simp [h3])]
      simp only
      unfold modText
      rw [if_pos h3]
      have := join_split 64 s
      rw [e, join_two] at this
      have e2 : join [b] [64] = b := join_one b [64]
      rw [e2] at this
      exact this
    · rw [if_pos h3] at h
      exact absurd h h3
  · rw [if_pos h2] at h
    cases h
theorem read_bad {s : Str} (h : (modRead s).2.2 ≠ 0) : (modRead s).1 = [] ∧ (modRead s).2.1 = [] := by
  unfold modRead at h ⊢
  simp only at h ⊢
  split
  · exact ⟨rfl, rfl⟩
  · rename_i h2
    rw [if_neg h2] at h
    split
    · exact ⟨rfl, rfl⟩
    · rename_i h3
      rw [if_neg h3] at h
      exact absurd rfl h
theorem modRead_le (s : Str) : (modRead s).2.2 ≤ 4 := by
  unfold modRead
  simp only
  split
  · decide
  · split
    · exact modErr_le _ _
    · exact Nat.zero_le _

/-! ### the order -/
def modAhead (a b : Md) : Bool := decide (compareBytes a.1 b.1 < 0) || (decide (a.1 = b.1) && verLess a.2 b.2)
def modCmp (a b : Md) : Int := orI (compareBytes a.1 b.1) (verCmp a.2 b.2)
theorem modCmp_ord : Ord3 modCmp := Ord3.or (compareBytes_ord.comap (fun m : Md => m.1)) (verCmp_ord.comap (fun m : Md => m.2))
theorem modCmp_zero {a b : Md} (ha : mdErr a = 0) (hb : mdErr b = 0) (h : modCmp a b = 0) : a = b := by
  obtain ⟨h1, h2⟩ := orI_eq.1 h
  exact Prod.ext (compareBytes_zero h1) ((verCmp_same (modErr_zero ha).2 (modErr_zero hb).2).1 h2)
theorem modAhead_iff {a b : Md} (ha : mdErr a = 0) (hb : mdErr b = 0) : modAhead a b = decide (modCmp a b < 0) := by
  unfold modAhead modCmp verLess
  rw [Bool.eq_iff_iff]
  simp only [Bool.or_eq_true, Bool.and_eq_true, decide_eq_true_eq, orI_lt]
  rw [compareBytes_zero_iff]
  constructor
  · rintro (h | ⟨h, _, _, h2⟩)
    · exact .inl h
    · exact .inr ⟨h, h2⟩
  · rintro (h | ⟨h, h2⟩)
    · exact .inl h
    · exact .inr ⟨h, (modErr_zero ha).2, (modErr_zero hb).2, h2⟩
theorem ahead_one {a b : Md} (ha : mdErr a = 0) (hb : mdErr b = 0) : ((modAhead a b != modAhead b a) = !decide (a = b)) := by
  rw [modAhead_iff ha hb, modAhead_iff hb ha]
  by_cases e : a = b
  · subst e
    simp
  · have h0 : modCmp a b ≠ 0 := fun h => e (modCmp_zero ha hb h)
    have := modCmp_ord.anti a b
    have := modCmp_ord.anti b a
    have h0' : modCmp b a ≠ 0 := fun h => h0 (modCmp_ord.zero h)
    rw [decide_eq_false e]
    by_cases h : modCmp a b < 0
    · rw [decide_eq_true h, decide_eq_false (by omega)]; rfl
    · rw [decide_eq_false h, decide_eq_true (by omega)]; rfl
theorem text_inj {a b : Md} (ha : mdErr a = 0) (hb : mdErr b = 0) : decide (a = b) = decide (mdText a = mdText b) := by
  rw [Bool.eq_iff_iff, decide_eq_true_eq, decide_eq_true_eq]
  constructor
  · intro h; rw [h]
  · intro h
    have h1 := read_text (p := a.1) (v := a.2) ha
    have h2 := read_text (p := b.1) (v := b.2) hb
    have h' : modText a.1 a.2 = modText b.1 b.2 := h
    rw [h', h2] at h1
    simp only [Prod.mk.injEq] at h1
    exact Prod.ext h1.1.symm h1.2.1.symm
end Go.Proofs.Pw
