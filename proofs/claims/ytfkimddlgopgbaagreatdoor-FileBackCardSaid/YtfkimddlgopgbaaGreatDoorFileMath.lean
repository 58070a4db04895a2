/- Plain mathematics of package file: what is wrong with a file, its text, what is read. No program in sight. -/
import Derived.Test.YtfkimddlgopgbaaGreatDoorModLaw
import Derived.Test.YtfkimddlgopgbaaGreatDoorMem
namespace Go.Proofs.Pw
open Go.Lib

structure Fl where
  path : Str
  reqs : List Md
  excl : List Md
def noFl : Fl := ⟨[], [], []⟩

/-- the first place with an error: its number, the place; none: 0, -1 -/
def firstE (g : Nat → Nat) : Nat → Nat × Int
  | 0 => (0, -1)
  | n + 1 => if (firstE g n).1 ≠ 0 then firstE g n else if g n ≠ 0 then (g n, (n : Int)) else (0, -1)
theorem firstE_none {g : Nat → Nat} : ∀ {n : Nat}, (∀ j, j < n → g j = 0) → firstE g n = (0, -1)
  | 0, _ => rfl
  | n + 1, h => by
    rw [firstE, firstE_none (n := n) (fun j hj => h j (by omega)), if_neg (by simp), if_neg (by simp [h n (by omega)])]
theorem firstE_hit {g : Nat → Nat} {k : Nat} (hg : g k ≠ 0) (h : ∀ j, j < k → g j = 0) : ∀ {n : Nat}, k < n → firstE g n = (g k, (k : Int))
  | 0, hk => absurd hk (Nat.not_lt_zero _)
  | n + 1, hk => by
    by_cases e : k = n
    · subst e
      rw [firstE, firstE_none h, if_neg (by simp), if_pos hg]
    · have := firstE_hit hg h (n := n) (by omega)
      rw [firstE, this, if_pos hg]
theorem firstE_zero {g : Nat → Nat} : ∀ {n : Nat}, (firstE g n).1 = 0 → ∀ j, j < n → g j = 0
  | 0, _, j, hj => absurd hj (Nat.not_lt_zero _)
  | n + 1, h, j, hj => by
    rw [firstE] at h
    by_cases h1 : (firstE g n).1 = 0
    · rw [if_neg (by simp [h1])] at h
      by_cases h2 : g n = 0
      · by_cases e : j = n
        · rw [e]; exact h2
        · exact firstE_zero h1 j (by omega)
      · rw [if_pos h2] at h
        exact absurd h h2
    · rw [if_pos h1] at h
      exact absurd h h1
theorem firstE_cong {g k : Nat → Nat} : ∀ {n : Nat}, (∀ j, j < n → g j = k j) → firstE g n = firstE k n
  | 0, _ => rfl
  | n + 1, h => by rw [firstE, firstE, firstE_cong (n := n) (fun j hj => h j (by omega)), h n (by omega)]

def mdAt (l : List Md) (i : Nat) : Md := l.getD i ([], [])
theorem mdAt_get {l : List Md} {i : Nat} (h : i < l.length) : l[i]? = some (mdAt l i) := by
  unfold mdAt
  rw [List.getD_eq_getElem?_getD, List.getElem?_eq_getElem h]; rfl
theorem mdAt_mem {l : List Md} {i : Nat} (h : i < l.length) : mdAt l i ∈ l := List.mem_of_getElem? (mdAt_get h)
theorem mdAt_mdF {n : Nat} {P V : Nat → ByteArray} {i : Nat} (h : i < n) : mdAt (mdF n P V) i = ((P i).data.toList, (V i).data.toList) := by
  unfold mdAt
  rw [List.getD_eq_getElem?_getD, mdF_get n P V i h]; rfl

def reqE (p : Str) (l : List Md) (i : Nat) : Nat :=
  if mdErr (mdAt l i) ≠ 0 then mdErr (mdAt l i) else if (mdAt l i).1 = p then 3 else if 0 < i ∧ compareBytes (mdAt l i).1 (mdAt l (i - 1)).1 ≤ 0 then 8 else 0
def excE (l : List Md) (i : Nat) : Nat :=
  if mdErr (mdAt l i) ≠ 0 then mdErr (mdAt l i) else if 0 < i ∧ modAhead (mdAt l (i - 1)) (mdAt l i) = false then 8 else 0
def claE (r x : List Md) (i : Nat) : Nat := if mdAt r i ∈ x then 9 else 0
def orE (a b : Nat × Int) : Nat × Int := if a.1 ≠ 0 then a else b
def fileErr (f : Fl) : Nat × Int :=
  if pathErr f.path ≠ 0 then (pathErr f.path, -1)
  else if 20 < f.reqs.length ∨ 20 < f.excl.length then (7, -1)
  else orE (firstE (reqE f.path f.reqs) f.reqs.length) (orE (firstE (excE f.excl) f.excl.length) (firstE (claE f.reqs f.excl) f.reqs.length))

theorem orE_zero {a b : Nat × Int} : (orE a b).1 = 0 ↔ a.1 = 0 ∧ b.1 = 0 := by
  unfold orE
  by_cases h : a.1 = 0
  · rw [if_neg (by simp [h])]; simp [h]
  · rw [if_pos h]; simp [h]
/-- what is right of a file that is right -/
structure Right (f : Fl) : Prop where
  path : pathErr f.path = 0
  reqs : f.reqs.length ≤ 20
  excl : f.excl.length ≤ 20
  req : ∀ i, i < f.reqs.length → reqE f.path f.reqs i = 0
  exc : ∀ i, i < f.excl.length → excE f.excl i = 0
  cla : ∀ i, i < f.reqs.length → claE f.reqs f.excl i = 0
theorem right_of {f : Fl} (h : (fileErr f).1 = 0) : Right f := by
  unfold fileErr at h
  by_cases h1 : pathErr f.path = 0
  · rw [if_neg (by simp [h1])] at h
    by_cases h2 : 20 < f.reqs.length ∨ 20 < f.excl.length
    · rw [if_pos h2] at h; cases h
    · rw [if_neg h2, orE_zero, orE_zero] at h
      exact ⟨h1, by omega, by omega, firstE_zero h.1, firstE_zero h.2.1, firstE_zero h.2.2⟩
  · rw [if_pos h1] at h
    exact absurd h h1
theorem of_right {f : Fl} (h : Right f) : fileErr f = (0, -1) := by
  unfold fileErr
  rw [if_neg (by simp [h.path]), if_neg (by have := h.reqs; have := h.excl; omega), firstE_none h.req, firstE_none h.exc, firstE_none h.cla]
  rfl
theorem Right.mem {f : Fl} (h : Right f) : (∀ m ∈ f.reqs, mdErr m = 0) ∧ ∀ m ∈ f.excl, mdErr m = 0 := by
  constructor
  · intro m hm
    obtain ⟨i, hi⟩ := List.getElem?_of_mem hm
    have hl := (List.getElem?_eq_some_iff.1 hi).1
    have h1 := h.req i hl
    rw [mdAt_get hl] at hi
    injection hi with hi
    unfold reqE at h1
    rw [hi] at h1
    by_cases h2 : mdErr m = 0
    · exact h2
    · rw [if_pos h2] at h1; exact h1
  · intro m hm
    obtain ⟨i, hi⟩ := List.getElem?_of_mem hm
    have hl := (List.getElem?_eq_some_iff.1 hi).1
    have h1 := h.exc i hl
    rw [mdAt_get hl] at hi
    injection hi with hi
    unfold excE at h1
    rw [hi] at h1
    by_cases h2 : mdErr m = 0
    · exact h2
    · rw [if_pos h2] at h1; exact h1
theorem fileErr_at {f : Fl} : (fileErr f).1 = 0 → (fileErr f).2 = -1 := fun h => by rw [of_right (right_of h)]

/-! ### the text -/
def modW : Str := [109, 111, 100, 117, 108, 101]
def reqW : Str := [114, 101, 113, 117, 105, 114, 101]
def excW : Str := [101, 120, 99, 108, 117, 100, 101]
def mline (w : Str) (m : Md) : Str := w ++ [32] ++ m.1 ++ [32] ++ m.2
def mlines (w : Str) (l : List Md) : Str := l.flatMap fun m => mline w m ++ [10]
def fileTxt (f : Fl) : Str := modW ++ [32] ++ f.path ++ [10] ++ mlines reqW f.reqs ++ mlines excW f.excl
def fileText (f : Fl) : Str := if (fileErr f).1 = 0 then fileTxt f else []
theorem mlines_nil (w : Str) : mlines w [] = [] := rfl
theorem mlines_cons (w : Str) (m : Md) (l : List Md) : mlines w (m :: l) = mline w m ++ [10] ++ mlines w l := rfl
theorem mlines_snoc (w : Str) (l : List Md) (m : Md) : mlines w (l ++ [m]) = mlines w l ++ (mline w m ++ [10]) := by
  unfold mlines; simp

/-! ### what is read -/
def lineF (f : Fl) (s : Str) (i : Nat) : Bool × Fl :=
  if i = 0 then (decide ((split s [32]).length = 2 ∧ (split s [32]).head? = some modW), { f with path := (split s [32]).getLast?.getD [] })
  else match split s [32] with
    | [a, b, c] => if a = reqW ∧ f.excl = [] then (true, { f with reqs := f.reqs ++ [(b, c)] }) else if a = excW then (true, { f with excl := f.excl ++ [(b, c)] }) else (false, f)
    | _ => (false, f)
def readF : Nat → Fl → Nat → Str → Fl × Option Nat
  | 0, f, _, _ => (f, none)
  | n + 1, f, i, s =>
    if s = [] ∧ i ≠ 0 then (f, none)
    else if (cut s [10]).2.2 = true ∧ (lineF f (cut s [10]).1 i).1 = true then readF n (lineF f (cut s [10]).1 i).2 (i + 1) (cut s [10]).2.1
    else (noFl, some i)
def fileRead (s : Str) : Fl × Nat × Int :=
  if 8000 < s.length then (noFl, 2, -1)
  else match readF (s.length + 1) noFl 0 s with
    | (_, some i) => (noFl, 1, (i : Int))
    | (f, none) => if (fileErr f).1 ≠ 0 then (noFl, (fileErr f).1, -1) else (f, 0, -1)

theorem split_sp {l : List Str} (hl : l ≠ []) (h : ∀ x ∈ l, (32 : UInt8) ∉ x) : split (join l [32]) [32] = l := split_join 32 l hl h
theorem mline_join (w : Str) (m : Md) : mline w m = join [w, m.1, m.2] [32] := by
  rw [join_two, join_two, show join [m.2] [32] = m.2 from join_one m.2 [32]]
  simp [mline]
theorem md_no {m : Md} (h : mdErr m = 0) (d : UInt8) (h1 : isElemByte d = false) (h2 : isPartByte d = false) (h3 : d ≠ 47) (h4 : d ≠ 46) : d ∉ m.1 ∧ d ∉ m.2 :=
  let ⟨a, b⟩ := modErr_zero h
  ⟨path_no a d h1 h3, ver_no b d h2 h4⟩
theorem split_mline {w : Str} {m : Md} (hw : (32 : UInt8) ∉ w) (h : mdErr m = 0) : split (mline w m) [32] = [w, m.1, m.2] := by
  rw [mline_join]
  obtain ⟨h1, h2⟩ := md_no h 32 (by decide) (by decide) (by decide) (by decide)
  exact split_sp (by simp) (by intro x hx; simp at hx; rcases hx with rfl | rfl | rfl <;> assumption)
theorem cut_mline {w : Str} {m : Md} (hw : (10 : UInt8) ∉ w) (h : mdErr m = 0) (t : Str) : cut (mline w m ++ [10] ++ t) [10] = (mline w m, t, true) := by
  obtain ⟨h1, h2⟩ := md_no h 10 (by decide) (by decide) (by decide) (by decide)
  have : (10 : UInt8) ∉ mline w m := by
    unfold mline
    simp only [List.mem_append, List.mem_singleton]
    rintro ((((h | h) | h) | h) | h)
    · exact hw h
    · cases h
    · exact h1 h
    · cases h
    · exact h2 h
  rw [List.append_assoc, List.singleton_append]
  exact cut_at this

theorem cut_rest {s : Str} (h : (cut s [10]).2.2 = true) : (cut s [10]).2.1.length < s.length := by
  by_cases hm : (10 : UInt8) ∈ s
  · obtain ⟨a, b, rfl, ha⟩ := mem_at hm
    rw [cut_at ha]
    simp; omega
  · rw [cut_no hm] at h; cases h
theorem readF_fuel : ∀ (n m : Nat) (f : Fl) (i : Nat) (s : Str), s.length < n → s.length < m → readF n f i s = readF m f i s
  | 0, _, _, _, _, h, _ => absurd h (Nat.not_lt_zero _)
  | _ + 1, 0, _, _, _, _, h => absurd h (Nat.not_lt_zero _)
  | n + 1, m + 1, f, i, s, h1, h2 => by
    rw [readF, readF]
    by_cases h3 : s = [] ∧ i ≠ 0
    · rw [if_pos h3, if_pos h3]
    · rw [if_neg h3, if_neg h3]
      by_cases h4 : (cut s [10]).2.2 = true ∧ (lineF f (cut s [10]).1 i).1 = true
      · have := cut_rest h4.1
        rw [if_pos h4, if_pos h4]
        exact readF_fuel n m _ _ _ (by omega) (by omega)
      · rw [if_neg h4, if_neg h4]

theorem mline_ne {w : Str} {m : Md} (t : Str) : mline w m ++ [10] ++ t ≠ [] := by simp
theorem readF_reqs : ∀ (l : List Md) (n : Nat) (f : Fl) (i : Nat) (t : Str), i ≠ 0 → f.excl = [] → (∀ m ∈ l, mdErr m = 0) → readF (n + l.length) f i (mlines reqW l ++ t) = readF n { f with reqs := f.reqs ++ l } (i + l.length) t
  | [], n, f, i, t, _, _, _ => by simp [mlines_nil]
  | m :: l, n, f, i, t, hi, he, h => by
    rw [mlines_cons, List.append_assoc, List.length_cons, ← Nat.add_assoc, readF, if_neg (fun h => mline_ne _ h.1), cut_mline (by decide) (h m (by simp))]
    have hl : lineF f (mline reqW m) i = (true, { f with reqs := f.reqs ++ [m] }) := by
      unfold lineF
      rw [if_neg hi, split_mline (by decide) (h m (by simp))]
      simp [he]
    rw [hl, if_pos ⟨rfl, rfl⟩]
    show readF (n + l.length) { f with reqs := f.reqs ++ [m] } (i + 1) (mlines reqW l ++ t) = _
    rw [readF_reqs l n { f with reqs := f.reqs ++ [m] } (i + 1) t (by omega) he (fun x hx => h x (by simp [hx]))]
    simp [Nat.add_assoc, Nat.add_comm 1]
theorem readF_excl : ∀ (l : List Md) (n : Nat) (f : Fl) (i : Nat) (t : Str), i ≠ 0 → (∀ m ∈ l, mdErr m = 0) → readF (n + l.length) f i (mlines excW l ++ t) = readF n { f with excl := f.excl ++ l } (i + l.length) t
  | [], n, f, i, t, _, _ => by simp [mlines_nil]
  | m :: l, n, f, i, t, hi, h => by
    rw [mlines_cons, List.append_assoc, List.length_cons, ← Nat.add_assoc, readF, if_neg (fun h => mline_ne _ h.1), cut_mline (by decide) (h m (by simp))]
    have hl : lineF f (mline excW m) i = (true, { f with excl := f.excl ++ [m] }) := by
      unfold lineF
      rw [if_neg hi, split_mline (by decide) (h m (by simp))]
      simp [show ¬ excW = reqW by decide]
    rw [hl, if_pos ⟨rfl, rfl⟩]
    show readF (n + l.length) { f with excl := f.excl ++ [m] } (i + 1) (mlines excW l ++ t) = _
    rw [readF_excl l n _ (i + 1) t (by omega) (fun x hx => h x (by simp [hx]))]
    simp [Nat.add_assoc, Nat.add_comm 1]
theorem mlines_len (w : Str) : ∀ l : List Md, l.length ≤ (mlines w l).length
  | [] => Nat.le_refl _
  | m :: l => by
    have := mlines_len w l
    rw [mlines_cons, List.length_append, List.length_append, List.length_cons]
    simp; omega

/-- what was written is read -/
theorem file_back {f : Fl} (h : (fileErr f).1 = 0) (h8 : (fileTxt f).length ≤ 8000) : fileRead (fileTxt f) = (f, 0, -1) := by
  have hr := right_of h
  have hp := path_no hr.path 32 (by decide) (by decide)
  have hp2 := path_no hr.path 10 (by decide) (by decide)
  have hfirst : cut (fileTxt f) [10] = (modW ++ [32] ++ f.path, mlines reqW f.reqs ++ mlines excW f.excl, true) := by
    have : (10 : UInt8) ∉ modW ++ [32] ++ f.path := by
      simp only [List.mem_append]
      rintro ((h | h) | h)
      · revert h; decide
      · revert h; decide
      · exact hp2 h
    have := cut_at (b := mlines reqW f.reqs ++ mlines excW f.excl) this
    rw [← this]
    unfold fileTxt
    simp
  have hsplit : split (modW ++ [32] ++ f.path) [32] = [modW, f.path] := by
    have hw : ∀ x ∈ [modW, f.path], (32 : UInt8) ∉ x := by
      intro x hx
      simp at hx
      rcases hx with rfl | rfl
      · decide
      · exact hp
    have := split_sp (l := [modW, f.path]) (by simp) hw
    rw [join_two, show join [f.path] [32] = f.path from join_one f.path [32]] at this
    exact this
  have hline : lineF noFl (modW ++ [32] ++ f.path) 0 = (true, { noFl with path := f.path }) := by
    unfold lineF
    rw [if_pos rfl, hsplit]
    simp
  have hread : ∀ k, readF (k + 1 + f.excl.length + f.reqs.length + 1) noFl 0 (fileTxt f) = (f, none) := by
    intro k
    rw [readF, if_neg (by simp), hfirst, hline, if_pos ⟨rfl, rfl⟩]
    show readF (k + 1 + f.excl.length + f.reqs.length) { noFl with path := f.path } (0 + 1) (mlines reqW f.reqs ++ mlines excW f.excl) = _
    rw [readF_reqs f.reqs _ _ _ _ (by decide) rfl hr.mem.1]
    have := readF_excl f.excl (k + 1) { path := f.path, reqs := [] ++ f.reqs, excl := [] } (0 + 1 + f.reqs.length) [] (by omega) hr.mem.2
    rw [List.append_nil] at this
    show readF (k + 1 + f.excl.length) { path := f.path, reqs := [] ++ f.reqs, excl := [] } (0 + 1 + f.reqs.length) (mlines excW f.excl) = _
    rw [this, readF, if_pos ⟨rfl, by omega⟩]
    simp
  unfold fileRead
  rw [if_neg (by omega)]
  have hf := readF_fuel ((fileTxt f).length + 1) ((fileTxt f).length + 1 + f.excl.length + f.reqs.length + 1) noFl 0 (fileTxt f) (by omega) (by omega)
  rw [hf, hread]
  simp only
  rw [if_neg (by simp [h])]

/-! ### set, drop -/
def lowAt (p : Str) : List Md → Nat
  | [] => 0
  | a :: r => if compareBytes a.1 p < 0 then lowAt p r + 1 else 0
def setAt (l : List Md) (m : Md) : List Md :=
  if (l[lowAt m.1 l]?.map (·.1)) = some m.1 then l.take (lowAt m.1 l) ++ m :: l.drop (lowAt m.1 l + 1) else l.take (lowAt m.1 l) ++ m :: l.drop (lowAt m.1 l)
def fileSet (f : Fl) (m : Md) : Fl × Nat :=
  if (fileErr f).1 ≠ 0 then (noFl, (fileErr f).1)
  else if (fileErr { f with reqs := setAt f.reqs m }).1 ≠ 0 then (noFl, (fileErr { f with reqs := setAt f.reqs m }).1)
  else ({ f with reqs := setAt f.reqs m }, 0)
def fileDrop (f : Fl) (p : Str) : Fl × Nat :=
  if (fileErr f).1 ≠ 0 then (noFl, (fileErr f).1)
  else if findI (fun m : Md => decide (m.1 = p)) f.reqs < 0 then (noFl, 5)
  else ({ f with reqs := f.reqs.filter fun m => !decide (m.1 = p) }, 0)
end Go.Proofs.Pw
