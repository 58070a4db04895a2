/- Plain mathematics on texts: splitting at dots, the pieces of a pattern. No program in sight. -/
import Derived.Lib.SplitLaws
import Derived.Lib.Hide
namespace Go.Proofs.Pw
open Go.Lib

abbrev Str := List UInt8
/-- a module: its path, its version -/
abbrev Md := Str × Str

/-- what is left of a text behind pieces, each at its first place -/
def mids : List Str → Str → Option Str
  | [], s => some s
  | p :: r, s => if index s p < 0 then none else mids r (s.drop ((index s p).toNat + p.length))

/-- pat.matches -/
def pmatches : List Str → Str → Bool
  | [], _ => false
  | p :: r, s => hasPrefix s p &&
      (if r = [] then s.drop p.length == [] else
        match mids r.dropLast (s.drop p.length) with
        | none => false
        | some t => hasSuffix t (r.getLast?.getD []))

def dots : Str := [46, 46, 46]
def slashDots : Str := [47, 46, 46, 46]

/-- pat.Match -/
def pMatch (p s : Str) : Bool :=
  pmatches (split p dots) s || (hasSuffix p slashDots && pmatches (split (trimSuffix p slashDots) dots) s)

theorem split_none {s sub : Str} (h : index s sub = -1) : split s sub = [s] := by
  unfold split
  rw [count_miss h]
  rfl

theorem split_hit {s sub : Str} {i : Nat} (hs : sub ≠ []) (h : index s sub = i) :
    split s sub = s.take i :: split (s.drop (i + sub.length)) sub := by
  unfold split
  rw [count_hit hs h, Nat.add_comm 1, splitK]
  rw [if_neg (by rw [h]; simp), h]
  simp

theorem index_no {s sub : Str} (hs : sub ≠ []) (h : ∀ c, sub.head? = some c → c ∉ s) : index s sub = -1 := by
  cases sub with
  | nil => exact absurd rfl hs
  | cons c t =>
    have hc := h c rfl
    induction s with
    | nil => rfl
    | cons b l ih =>
      simp only [List.mem_cons, not_or] at hc
      unfold index
      rw [if_neg (by simp [List.isPrefixOf, hc.1]), ih (by intro d hd; simp at hd; subst hd; exact hc.2) hc.2]
      rfl

theorem index_at {a b sub : Str} (hs : sub ≠ []) (h : ∀ c, sub.head? = some c → c ∉ a) : index (a ++ sub ++ b) sub = a.length := by
  cases sub with
  | nil => exact absurd rfl hs
  | cons c t =>
    have hc := h c rfl
    refine index_first (by simp) (by simp [occAt]) ?_
    intro j hj
    simp only [occAt, List.append_assoc]
    rw [List.drop_append_of_le_length (Nat.le_of_lt hj), List.drop_eq_getElem_cons hj]
    simp only [List.cons_append, List.isPrefixOf]
    have : a[j] ≠ c := fun e => hc (e ▸ List.getElem_mem hj)
    simp [Ne.symm this]

theorem split_two {a b : Str} (ha : (46 : UInt8) ∉ a) (hb : (46 : UInt8) ∉ b) : split (a ++ dots ++ b) dots = [a, b] := by
  have h1 : index (a ++ dots ++ b) dots = a.length := index_at (by decide) (by intro c hc; simp [dots] at hc; subst hc; exact ha)
  rw [split_hit (by decide) h1]
  have h2 : (a ++ dots ++ b).drop (a.length + dots.length) = b := by
    rw [show a.length + dots.length = (a ++ dots).length by simp, List.drop_left]
  have h3 : (a ++ dots ++ b).take a.length = a := by rw [List.append_assoc, List.take_left]
  rw [h2, h3, split_none (index_no (by decide) (by intro c hc; simp [dots] at hc; subst hc; exact hb))]

theorem isSuffixOf_append (u b : Str) : hasSuffix (u ++ b) b = true := by
  unfold hasSuffix
  exact List.isSuffixOf_iff_suffix.2 ⟨u, rfl⟩
theorem isPrefixOf_append (u b : Str) : hasPrefix (b ++ u) b = true := by
  unfold hasPrefix
  exact List.isPrefixOf_iff_prefix.2 ⟨u, rfl⟩

theorem pmatches_two (a b u : Str) : pmatches [a, b] (a ++ u ++ b) = true := by
  simp only [pmatches, List.append_assoc, isPrefixOf_append, Bool.true_and, List.drop_left]
  simp [mids, isSuffixOf_append]

theorem pMatch_two {a b : Str} (u : Str) (ha : (46 : UInt8) ∉ a) (hb : (46 : UInt8) ∉ b) : pMatch (a ++ dots ++ b) (a ++ u ++ b) = true := by
  unfold pMatch
  rw [split_two ha hb, pmatches_two]
  rfl

theorem pMatch_any (s : Str) : pMatch dots s = true := by
  have := pMatch_two (a := []) (b := []) s (by simp) (by simp)
  simpa using this

theorem hasSuffix_contains {p sub d : Str} (h : hasSuffix p (d ++ sub) = true) : 0 ≤ index p sub := by
  unfold hasSuffix at h
  obtain ⟨t, ht⟩ := List.isSuffixOf_iff_suffix.1 h
  have hge := index_ge p sub
  rcases Int.lt_or_le (index p sub) 0 with hl | hl
  · exfalso
    have hm : index p sub = -1 := by omega
    clear hge hl h
    subst ht
    have key : ∀ (x : Str), index (x ++ sub) sub ≠ -1 := by
      intro x
      induction x with
      | nil => simp only [List.nil_append]; rw [index_self]; decide
      | cons b l ih =>
        simp only [List.cons_append]
        unfold index
        split
        · decide
        · rw [if_neg (by simpa using ih)]
          have := index_ge (l ++ sub) sub
          have := ih
          omega
    exact key (t ++ d) (by rw [List.append_assoc]; exact hm)
  · exact hl

theorem pMatch_plain {p : Str} (h : contains p dots = false) (s : Str) : pMatch p s = (s == p) := by
  have hi : index p dots = -1 := by
    have := index_ge p dots
    simp only [contains, decide_eq_false_iff_not] at h
    omega
  have hsuf : hasSuffix p slashDots = false := by
    cases e : hasSuffix p slashDots with
    | false => rfl
    | true =>
      have := hasSuffix_contains (d := [47]) (sub := dots) e
      omega
  unfold pMatch
  rw [split_none hi, hsuf]
  simp only [pmatches, ↓reduceIte, Bool.false_and, Bool.or_false]
  rw [Bool.eq_iff_iff]
  simp only [hasPrefix, Bool.and_eq_true, List.isPrefixOf_iff_prefix, beq_iff_eq]
  constructor
  · rintro ⟨⟨t, rfl⟩, h2⟩
    simp at h2
    simp [h2]
  · rintro rfl
    exact ⟨List.prefix_rfl, by simp⟩
def lstF (n : Nat) (L : Nat → ByteArray) : List Str := (List.range n).map fun j => (L j).data.toList
theorem lstF_length (n L) : (lstF n L).length = n := by simp [lstF]
theorem lstF_get (n L) (j : Nat) (h : j < n) : (lstF n L)[j]? = some (L j).data.toList := by simp [lstF, h]

theorem lstF_mids (n : Nat) (L) (k : Nat) (h : k < n - 2) : ((lstF n L).tail.dropLast).drop k = (L (1 + k)).data.toList :: ((lstF n L).tail.dropLast).drop (k + 1) := by
  have hl : k < ((lstF n L).tail.dropLast).length := by simp [lstF_length]; omega
  rw [List.drop_eq_getElem_cons hl]
  congr 1
  have : ((lstF n L).tail.dropLast)[k]? = some (L (1 + k)).data.toList := by
    rw [List.getElem?_dropLast, if_pos (by simp [lstF_length]; omega), List.getElem?_tail, lstF_get _ _ _ (by omega), Nat.add_comm]
  simpa [List.getElem?_eq_getElem hl] using this

theorem lstF_mids_end (n : Nat) (L) (h : 2 ≤ n) : ((lstF n L).tail.dropLast).drop (n - 2) = [] := by
  apply List.drop_eq_nil_of_le
  simp [lstF_length]; omega

theorem pmatches_lstF (n : Nat) (L) (s : Str) (h : 2 ≤ n) (hp : hasPrefix s (L 0).data.toList = true) :
    pmatches (lstF n L) s = match mids ((lstF n L).tail.dropLast) (trimPrefix s (L 0).data.toList) with
      | none => false
      | some t => hasSuffix t (L (n - 1)).data.toList := by
  have e : lstF n L = (L 0).data.toList :: (lstF n L).tail := by
    obtain ⟨m, rfl⟩ : ∃ m, n = m + 1 := ⟨n - 1, by omega⟩
    simp [lstF, List.range_succ_eq_map]
  have hne : (lstF n L).tail ≠ [] := by
    intro h0
    have := congrArg List.length h0
    simp [lstF_length] at this; omega
  have hlast : (lstF n L).tail.getLast?.getD [] = (L (n - 1)).data.toList := by
    rw [List.getLast?_eq_getElem?, List.getElem?_tail, List.length_tail, lstF_length, lstF_get _ _ _ (by omega)]
    simp only [Option.getD_some]
    congr 2
    congr 1
    omega
  have ht : trimPrefix s (L 0).data.toList = s.drop (L 0).data.toList.length := by unfold trimPrefix; rw [if_pos hp]
  generalize lstF n L = l at *
  rw [e, pmatches, hp, Bool.true_and, if_neg hne, ht]
  simp only [List.tail_cons, hlast]

theorem mids_hit {p : Str} {r : List Str} {s : Str} (h : ¬ index s p < 0) : mids (p :: r) s = mids r (s.drop ((index s p).toNat + p.length)) := by
  rw [mids, if_neg h]
theorem mids_miss {p : Str} {r : List Str} {s : Str} (h : index s p < 0) : mids (p :: r) s = none := by
  rw [mids, if_pos h]

theorem lstF_zero_not (n : Nat) (L) (s : Str) (h : 1 ≤ n) (hp : hasPrefix s (L 0).data.toList = false) : pmatches (lstF n L) s = false := by
  obtain ⟨m, rfl⟩ : ∃ m, n = m + 1 := ⟨n - 1, by omega⟩
  have e : lstF (m + 1) L = (L 0).data.toList :: (lstF (m + 1) L).tail := by simp [lstF, List.range_succ_eq_map]
  rw [e, pmatches, hp, Bool.false_and]
theorem lstF_one (L) (s : Str) (hp : hasPrefix s (L 0).data.toList = true) : pmatches (lstF 1 L) s = (trimPrefix s (L 0).data.toList == []) := by
  have ht : trimPrefix s (L 0).data.toList = s.drop (L 0).data.toList.length := by unfold trimPrefix; rw [if_pos hp]
  simp [lstF, pmatches, hp, ht]

/-- what strings.Split hands back, as a function of the place -/
def splitL (s sep : ByteArray) (j : Nat) : ByteArray := (splitB sep 0 (countB s sep) s).getD j ByteArray.empty
theorem splitL_lstF (s sep : ByteArray) (h1 : 1 ≤ sep.size) : lstF (countB s sep + 1) (splitL s sep) = split s.data.toList sep.data.toList := by
  unfold split
  rw [← splitB_data]
  have hl := splitB_all sep h1 0 _ s rfl
  apply List.ext_getElem
  · simp [lstF_length, hl]
  · intro i h1 h2
    simp only [lstF, List.getElem_map, List.getElem_range, splitL]
    simp only [List.length_map, hl] at h2
    rw [List.getD_eq_getElem?_getD, List.getElem?_eq_getElem (by omega), Option.getD_some]
end Go.Proofs.Pw
