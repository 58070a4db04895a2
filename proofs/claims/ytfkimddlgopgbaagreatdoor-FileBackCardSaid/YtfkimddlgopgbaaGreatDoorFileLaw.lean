/- FileBack: what was set is required; dropped it is not; all else stays. No program in sight. -/
import Derived.Test.YtfkimddlgopgbaaGreatDoorFileMath
namespace Go.Proofs.Pw
open Go.Lib

def hasP (p : Str) (m : Md) : Bool := decide (m.1 = p)
theorem findI_eq_none {α : Type} {p : α → Bool} {l : List α} : findI p l < 0 ↔ ∀ x ∈ l, p x = false := by
  unfold findI
  cases h : l.findIdx? p with
  | none =>
    rw [List.findIdx?_eq_none_iff] at h
    exact ⟨fun _ => h, fun _ => by decide⟩
  | some k =>
    rw [List.findIdx?_eq_some_iff_getElem] at h
    obtain ⟨hk, h1, _⟩ := h
    constructor
    · intro h; simp only at h; omega
    · intro h
      rw [h _ (List.getElem_mem hk)] at h1
      cases h1
theorem findI_spec {α : Type} {p : α → Bool} {l : List α} {k : Nat} (h : findI p l = k) : ∃ x, l[k]? = some x ∧ p x = true := by
  unfold findI at h
  cases hf : l.findIdx? p with
  | none => rw [hf] at h; simp only at h; omega
  | some j =>
    rw [hf] at h
    simp only at h
    obtain rfl : j = k := by omega
    rw [List.findIdx?_eq_some_iff_getElem] at hf
    obtain ⟨hk, h1, _⟩ := hf
    exact ⟨_, List.getElem?_eq_getElem hk, h1⟩

theorem lowAt_le (p : Str) : ∀ l : List Md, lowAt p l ≤ l.length
  | [] => Nat.le_refl _
  | a :: r => by
    unfold lowAt
    split
    · have := lowAt_le p r; simp; omega
    · simp
theorem lowAt_less (p : Str) : ∀ (l : List Md) (j : Nat) (x : Md), j < lowAt p l → l[j]? = some x → compareBytes x.1 p < 0
  | [], j, x, h, _ => absurd h (Nat.not_lt_zero _)
  | a :: r, j, x, h, hx => by
    unfold lowAt at h
    split at h
    · rename_i hlt
      cases j with
      | zero => simp at hx; subst hx; exact hlt
      | succ j => exact lowAt_less p r j x (by omega) (by simpa using hx)
    · exact absurd h (Nat.not_lt_zero _)
theorem lowAt_stop (p : Str) : ∀ (l : List Md) (x : Md), l[lowAt p l]? = some x → ¬ compareBytes x.1 p < 0
  | [], x, h => by simp at h
  | a :: r, x, h => by
    unfold lowAt at h
    split at h
    · exact lowAt_stop p r x (by simpa using h)
    · rename_i hn
      simp at h; subst h; exact hn

/-- the paths rise -/
def RiseP (l : List Md) : Prop := l.Pairwise fun a b => compareBytes a.1 b.1 < 0
theorem compareBytes_self (a : Str) : compareBytes a a = 0 := compareBytes_ord.self a
theorem cb_trans {a b c : Str} (h1 : compareBytes a b < 0) (h2 : compareBytes b c < 0) : compareBytes a c < 0 := by
  have h := compareBytes_ord
  have a1 := h.tr a b c (by omega) (by omega)
  rcases Int.lt_or_eq_of_le a1 with a2 | a2
  · exact a2
  · exfalso
    have a3 := h.zero a2
    have a4 := h.tr c a b (by omega) (by omega)
    have a5 := (h.anti b c).1 h2
    omega
theorem Right.rise {f : Fl} (h : Right f) : RiseP f.reqs := by
  have step : ∀ i, i + 1 < f.reqs.length → compareBytes (mdAt f.reqs i).1 (mdAt f.reqs (i + 1)).1 < 0 := by
    intro i hi
    have h1 := h.req (i + 1) hi
    unfold reqE at h1
    have h0 := h.mem.1 _ (mdAt_mem hi)
    rw [if_neg (by simp [h0])] at h1
    split at h1
    · cases h1
    · split at h1
      · cases h1
      · rename_i h2
        rw [Nat.add_sub_cancel] at h2
        have h3 : ¬ compareBytes (mdAt f.reqs (i + 1)).1 (mdAt f.reqs i).1 ≤ 0 := fun e => h2 ⟨Nat.succ_pos _, e⟩
        exact (compareBytes_ord.anti _ _).2 (by omega)
  have all : ∀ j i, i < j → j < f.reqs.length → compareBytes (mdAt f.reqs i).1 (mdAt f.reqs j).1 < 0 := by
    intro j
    induction j with
    | zero => intro i hi; exact absurd hi (Nat.not_lt_zero _)
    | succ j ih =>
      intro i hi hj
      by_cases e : i = j
      · subst e; exact step i hj
      · exact cb_trans (ih i (by omega) (by omega)) (step j hj)
  unfold RiseP
  rw [List.pairwise_iff_getElem]
  intro i j hi hj hij
  have e : ∀ k (hk : k < f.reqs.length), mdAt f.reqs k = f.reqs[k] := fun k hk => by
    have := mdAt_get hk
    rw [List.getElem?_eq_getElem hk] at this
    exact (Option.some.inj this).symm
  have := all j i hij hj
  rw [e i hi, e j hj] at this
  exact this
theorem RiseP.unique : ∀ {l : List Md}, RiseP l → ∀ {a b : Md}, a ∈ l → b ∈ l → a.1 = b.1 → a = b
  | [], _, _, _, h, _, _ => by simp at h
  | x :: r, h, a, b, ha, hb, e => by
    have h1 := List.pairwise_cons.1 h
    rcases List.mem_cons.1 ha with ea | ha' <;> rcases List.mem_cons.1 hb with eb | hb'
    · rw [ea, eb]
    · have := h1.1 b hb'
      rw [← ea, e, compareBytes_self] at this
      omega
    · have := h1.1 a ha'
      rw [← eb, e, compareBytes_self] at this
      omega
    · exact RiseP.unique h1.2 ha' hb' e

theorem setAt_cases (l : List Md) (m : Md) : (∃ x, l[lowAt m.1 l]? = some x ∧ x.1 = m.1 ∧ setAt l m = l.take (lowAt m.1 l) ++ m :: l.drop (lowAt m.1 l + 1)) ∨ ((∀ x, l[lowAt m.1 l]? = some x → x.1 ≠ m.1) ∧ setAt l m = l.take (lowAt m.1 l) ++ m :: l.drop (lowAt m.1 l)) := by
  unfold setAt
  cases h : l[lowAt m.1 l]? with
  | none => right; exact ⟨fun x hx => (by cases hx), by simp⟩
  | some x =>
    by_cases e : x.1 = m.1
    · left; exact ⟨x, rfl, e, by simp [e]⟩
    · right; exact ⟨fun y hy => (by cases hy; exact e), by simp [e]⟩
theorem take_less (p : Str) (l : List Md) {x : Md} (h : x ∈ l.take (lowAt p l)) : compareBytes x.1 p < 0 := by
  obtain ⟨j, hj⟩ := List.getElem?_of_mem h
  have hl := (List.getElem?_eq_some_iff.1 hj).1
  rw [List.length_take] at hl
  rw [List.getElem?_take, if_pos (by omega)] at hj
  exact lowAt_less p l j x (by omega) hj
theorem take_ne (p : Str) (l : List Md) {x : Md} (h : x ∈ l.take (lowAt p l)) : x.1 ≠ p := fun e => by
  have := take_less p l h
  rw [e, compareBytes_self] at this
  omega
/-- with the module behind the beginning -/
theorem set_find {l r : List Md} {m : Md} : findI (hasP m.1) (l.take (lowAt m.1 l) ++ m :: r) = lowAt m.1 l ∧ (l.take (lowAt m.1 l) ++ m :: r)[lowAt m.1 l]? = some m := by
  have hl : (l.take (lowAt m.1 l)).length = lowAt m.1 l := by rw [List.length_take]; have := lowAt_le m.1 l; omega
  have hg : (l.take (lowAt m.1 l) ++ m :: r)[lowAt m.1 l]? = some m := by
    rw [List.getElem?_append_right (by omega), hl, Nat.sub_self]; rfl
  refine ⟨findI_hit hg (by simp [hasP]) (fun j y hj hy => ?_), hg⟩
  rw [List.getElem?_append_left (by omega)] at hy
  exact decide_eq_false (take_ne m.1 l (List.mem_of_getElem? hy))
theorem setAt_find (l : List Md) (m : Md) : findI (hasP m.1) (setAt l m) = lowAt m.1 l ∧ (setAt l m)[lowAt m.1 l]? = some m := by
  rcases setAt_cases l m with ⟨x, _, _, e⟩ | ⟨_, e⟩ <;> (rw [e]; exact set_find)

theorem drop_ne {l : List Md} (h : RiseP l) (m : Md) (hne : ∀ x, l[lowAt m.1 l]? = some x → x.1 ≠ m.1) : ∀ x ∈ l, x.1 ≠ m.1 := by
  intro x hx e
  obtain ⟨j, hj⟩ := List.getElem?_of_mem hx
  have hjl := (List.getElem?_eq_some_iff.1 hj).1
  rcases Nat.lt_trichotomy j (lowAt m.1 l) with h1 | h1 | h1
  · have := lowAt_less m.1 l j x h1 hj
    rw [e, compareBytes_self] at this
    omega
  · subst h1
    exact hne x hj e
  · have hk : lowAt m.1 l < l.length := by omega
    have hs := lowAt_stop m.1 l _ (List.getElem?_eq_getElem hk)
    have := List.pairwise_iff_getElem.1 h (lowAt m.1 l) j hk hjl h1
    have e2 : l[j] = x := by rw [List.getElem?_eq_getElem hjl] at hj; exact Option.some.inj hj
    rw [e2, e] at this
    exact hs this
theorem setAt_len {l : List Md} (h : RiseP l) (m : Md) : (findI (hasP m.1) l < 0 → (setAt l m).length = l.length + 1) ∧ (0 ≤ findI (hasP m.1) l → (setAt l m).length = l.length) := by
  have hle := lowAt_le m.1 l
  rcases setAt_cases l m with ⟨x, hx, e1, e⟩ | ⟨hne, e⟩
  · have hk := (List.getElem?_eq_some_iff.1 hx).1
    constructor
    · intro hn
      have := findI_eq_none.1 hn x (List.mem_of_getElem? hx)
      unfold hasP at this
      rw [decide_eq_false_iff_not] at this
      exact absurd e1 this
    · intro _
      rw [e, List.length_append, List.length_cons, List.length_take, List.length_drop]
      omega
  · have hall := drop_ne h m hne
    constructor
    · intro _
      rw [e, List.length_append, List.length_cons, List.length_take, List.length_drop]
      omega
    · intro hp
      have : findI (hasP m.1) l < 0 := findI_eq_none.2 (fun x hx => decide_eq_false (hall x hx))
      omega
theorem setAt_filter (l : List Md) (m : Md) : (setAt l m).filter (fun x => !hasP m.1 x) = l.filter fun x => !hasP m.1 x := by
  rcases setAt_cases l m with ⟨x, hx, e1, e⟩ | ⟨_, e⟩
  · have hk := (List.getElem?_eq_some_iff.1 hx).1
    have hl : l = l.take (lowAt m.1 l) ++ x :: l.drop (lowAt m.1 l + 1) := by
      have e2 : l[lowAt m.1 l] = x := by rw [List.getElem?_eq_getElem hk] at hx; exact Option.some.inj hx
      rw [← e2, ← List.drop_eq_getElem_cons hk, List.take_append_drop]
    rw [e]
    conv => rhs; rw [hl]
    simp [List.filter_append, List.filter_cons, hasP, e1]
  · have hl : l.filter (fun x => !hasP m.1 x) = (l.take (lowAt m.1 l) ++ l.drop (lowAt m.1 l)).filter (fun x => !hasP m.1 x) := by rw [List.take_append_drop]
    rw [e, hl, List.filter_append, List.filter_append, List.filter_cons, if_neg (by simp [hasP])]
theorem filter_less {l : List Md} (h : RiseP l) {m : Md} (hm : m ∈ l) : (l.filter fun x => !hasP m.1 x).length + 1 = l.length := by
  induction l with
  | nil => simp at hm
  | cons a r ih =>
    have h1 := List.pairwise_cons.1 h
    rw [List.filter_cons]
    rcases List.mem_cons.1 hm with rfl | hm
    · have : (r.filter fun x => !hasP m.1 x) = r := by
        rw [List.filter_eq_self]
        intro x hx
        have := h1.1 x hx
        have hne : ¬ x.1 = m.1 := fun e => by rw [e, compareBytes_self] at this; omega
        simp [hasP, hne]
      rw [if_neg (by simp [hasP]), this, List.length_cons]
    · have h2 := h1.1 m hm
      have hne : ¬ a.1 = m.1 := fun e => by rw [e, compareBytes_self] at h2; omega
      rw [if_pos (by simp [hasP, hne]), List.length_cons, List.length_cons, ih h1.2 hm]
/-- all else stays -/
theorem stays {l : List Md} (h : RiseP l) (p : Str) {x : Md} (hx : x ∈ l) : (findI (hasP x.1) (l.filter fun y => !hasP p y) < 0 ↔ x.1 = p) ∧ ∀ k : Nat, findI (hasP x.1) (l.filter fun y => !hasP p y) = k → (l.filter fun y => !hasP p y)[k]? = some x := by
  constructor
  · rw [findI_eq_none]
    constructor
    · intro hn
      by_cases e : x.1 = p
      · exact e
      · have := hn x (List.mem_filter.2 ⟨hx, by simp [hasP, e]⟩)
        simp [hasP] at this
    · intro e y hy
      have := (List.mem_filter.1 hy).2
      unfold hasP at this ⊢
      rw [e]
      simpa using this
  · intro k hk
    obtain ⟨y, hy, hp⟩ := findI_spec hk
    have hyl := (List.mem_filter.1 (List.mem_of_getElem? hy)).1
    have e : y.1 = x.1 := by simpa [hasP] using hp
    rw [hy, h.unique hyl hx e]
end Go.Proofs.Pw
