/- VerOrder: what is sorted, counted, greatest. No program in sight. -/
import Derived.Test.YtaelindfneoajaaGreatDoorSortMath
import Derived.Test.YtaelindfneoajaaGreatDoorRefO
namespace Go.Proofs.Pw
open Go.Lib

def cntOf (x : Str) (l : List Str) : Nat := (l.filter fun y => decide (y = x)).length
theorem cntOf_snoc (x y : Str) (l : List Str) : cntOf x (l ++ [y]) = cntOf x l + if y = x then 1 else 0 := by
  unfold cntOf
  rw [List.filter_append, List.length_append]
  by_cases h : y = x
  · rw [if_pos h]; simp [h]
  · rw [if_neg h]; simp [h]
theorem cntOf_none {x : Str} {l : List Str} (h : x ∉ l) : cntOf x l = 0 := by
  unfold cntOf
  rw [List.length_eq_zero_iff, List.filter_eq_nil_iff]
  intro y hy
  simp only [decide_eq_true_eq]
  rintro rfl
  exact h hy
theorem cntOf_cons (x y : Str) (l : List Str) : cntOf x (y :: l) = (if y = x then 1 else 0) + cntOf x l := by
  unfold cntOf
  rw [List.filter_cons]
  by_cases h : y = x
  · simp [h]; omega
  · simp [h]
theorem cntOf_one {x : Str} : ∀ {l : List Str}, Rises verCmp l → x ∈ l → cntOf x l = 1
  | [], _, h => by simp at h
  | a :: r, hr, hx => by
    have h1 := List.pairwise_cons.1 hr
    rw [cntOf_cons]
    by_cases e : a = x
    · subst e
      have : a ∉ r := fun h => by
        have := h1.1 a h
        rw [verCmp_ord.self] at this
        omega
      rw [if_pos rfl, cntOf_none this]
    · rw [if_neg e]
      rcases List.mem_cons.1 hx with h | h
      · exact absurd h.symm e
      · rw [cntOf_one h1.2 h]

theorem rises_at {m : Nat} {M : Nat → ByteArray} (h : Rises verCmp (lstF m M)) {i k : Nat} (hik : i < k) (hk : k < m) : verCmp (M i).data.toList (M k).data.toList < 0 := by
  unfold Rises at h
  rw [List.pairwise_iff_getElem] at h
  have h1 := h i k (by rw [lstF_length]; omega) (by rw [lstF_length]; exact hk) hik
  have e : ∀ j (hj : j < m), (lstF m M)[j]'(by rw [lstF_length]; exact hj) = (M j).data.toList := fun j hj => by
    have := lstF_get m M j hj
    rw [List.getElem?_eq_getElem (by rw [lstF_length]; exact hj)] at this
    exact Option.some.inj this
  rw [e i (by omega), e k hk] at h1
  exact h1
theorem lstF_mem {m : Nat} {M : Nat → ByteArray} {x : Str} : x ∈ lstF m M ↔ ∃ j, j < m ∧ (M j).data.toList = x := by
  simp [lstF]

theorem less_table {m : Nat} {M : Nat → ByteArray} (h : Rises verCmp (lstF m M)) (hv : ∀ x ∈ lstF m M, verErr x = 0) {i k : Nat} (hi : i < m) (hk : k < m) : verLess (M i).data.toList (M k).data.toList = decide (i < k) := by
  have e1 := hv _ (lstF_mem.2 ⟨i, hi, rfl⟩)
  have e2 := hv _ (lstF_mem.2 ⟨k, hk, rfl⟩)
  unfold verLess
  rw [decide_eq_decide]
  constructor
  · rintro ⟨_, _, h3⟩
    rcases Nat.lt_trichotomy i k with h4 | h4 | h4
    · exact h4
    · subst h4
      rw [verCmp_ord.self] at h3
      omega
    · have := rises_at h h4 hi
      have := (verCmp_ord.anti _ _).1 this
      omega
  · intro h4
    exact ⟨e1, e2, rises_at h h4 hk⟩

/-- the greatest so far; none: empty -/
def TopOf (l : List Str) (t : Str) : Prop := ((∀ x ∈ l, verErr x ≠ 0) ∧ t = []) ∨ (t ∈ l ∧ verErr t = 0 ∧ ∀ x ∈ l, verErr x = 0 → verCmp x t ≤ 0)
theorem top_nil : TopOf [] [] := .inl ⟨by simp, rfl⟩
theorem verErr_nil : verErr [] ≠ 0 := by decide +kernel
theorem top_bad {l : List Str} {t s : Str} (h : TopOf l t) (hs : verErr s ≠ 0) : TopOf (l ++ [s]) t := by
  rcases h with ⟨h, rfl⟩ | ⟨h1, h2, h3⟩
  · refine .inl ⟨fun x hx => ?_, rfl⟩
    rcases List.mem_append.1 hx with h' | h'
    · exact h x h'
    · rw [List.mem_singleton.1 h']; exact hs
  · refine .inr ⟨by simp [h1], h2, fun x hx e => ?_⟩
    rcases List.mem_append.1 hx with h' | h'
    · exact h3 x h' e
    · rw [List.mem_singleton.1 h'] at e
      exact absurd e hs
theorem top_good {l : List Str} {t s : Str} (h : TopOf l t) (hs : verErr s = 0) : TopOf (l ++ [s]) (verMax t s) := by
  rcases h with ⟨h, rfl⟩ | ⟨h1, h2, h3⟩
  · have : verMax [] s = s := by
      unfold verMax
      rw [if_neg (fun h => h.2 hs), if_pos verErr_nil]
    rw [this]
    refine .inr ⟨by simp, hs, fun x hx e => ?_⟩
    rcases List.mem_append.1 hx with h' | h'
    · exact absurd e (h x h')
    · rw [List.mem_singleton.1 h', verCmp_ord.self]
      exact Int.le_refl _
  · unfold verMax
    rw [if_neg (fun h => h.2 hs), if_neg (fun h => h h2), if_neg (fun h => h hs)]
    split
    · rename_i hlt
      refine .inr ⟨by simp, hs, fun x hx e => ?_⟩
      rcases List.mem_append.1 hx with h' | h'
      · exact verCmp_ord.tr _ _ _ (h3 x h' e) (by omega)
      · rw [List.mem_singleton.1 h', verCmp_ord.self]
        exact Int.le_refl _
    · rename_i hge
      refine .inr ⟨by simp [h1], h2, fun x hx e => ?_⟩
      rcases List.mem_append.1 hx with h' | h'
      · exact h3 x h' e
      · rw [List.mem_singleton.1 h']
        have := verCmp_ord.anti t s
        have := verCmp_ord.anti s t
        omega
theorem top_none {l : List Str} {t : Str} (h : TopOf l t) (hs : vsort l = []) : t = [] := by
  rcases h with ⟨_, rfl⟩ | ⟨h1, h2, _⟩
  · rfl
  · have := (vsort_mem l t).2 ⟨h1, h2⟩
    rw [hs] at this
    simp at this
theorem top_last {l : List Str} {t : Str} (h : TopOf l t) {m : Nat} {M : Nat → ByteArray} (hs : vsort l = lstF m M) (hm : 0 < m) : (M (m - 1)).data.toList = t := by
  have hr := vsort_rises l
  have hlast := (vsort_mem l (M (m - 1)).data.toList).1 (by rw [hs]; exact lstF_mem.2 ⟨m - 1, by omega, rfl⟩)
  rw [hs] at hr
  rcases h with ⟨h, _⟩ | ⟨h1, h2, h3⟩
  · exact absurd hlast.2 (h _ hlast.1)
  · have ht := (vsort_mem l t).2 ⟨h1, h2⟩
    rw [hs] at ht
    obtain ⟨j, hj, rfl⟩ := lstF_mem.1 ht
    have hle := h3 _ hlast.1 hlast.2
    by_cases e : j = m - 1
    · rw [e]
    · have := rises_at hr (i := j) (k := m - 1) (by omega) (by omega)
      have := (verCmp_ord.anti _ _).1 this
      omega
theorem vsort_once {l : List Str} {x : Str} (h : x ∈ l) (hx : verErr x = 0) : cntOf x (vsort l) = 1 := cntOf_one (vsort_rises l) ((vsort_mem l x).2 ⟨h, hx⟩)
theorem vsort_right {l : List Str} : ∀ x ∈ vsort l, verErr x = 0 := fun x hx => ((vsort_mem l x).1 hx).2
end Go.Proofs.Pw
