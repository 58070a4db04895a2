/- Ge: walks and plain laws, joined: VerTxt SortMath ModLaw World Mem FileMath. Conditions: at each theorem. -/
import Derived.Test.YtmnojbbcaboagaaGreatDoorGea
import Derived.Lib.Join
import Derived.Lib.SlicesCompact
import Derived.Test.YtmnojbbcaboagaaGreatDoorProg
import Derived.WalkKit
import Derived.WalkSmall
import Derived.Lib.LaidTab
import Derived.Lib.ItoaNum
import Derived.WalkLawsBesides
import Derived.WalkSpells
import Derived.Laws.StructEq
import Derived.RegionTactic
import Derived.BigRegion

namespace Go.Proofs.Pw
open Go.Lib hiding intOf
def cutAt (c : UInt8) : Str → Str → List Str
  | acc, [] => [acc]
  | acc, b :: l => if b = c then acc :: cutAt c [] l else cutAt c (acc ++ [b]) l
theorem cutAt_no (c : UInt8) : ∀ (l acc : Str), c ∉ l → cutAt c acc l = [acc ++ l]
  | [], acc, _ => by simp [cutAt]
  | b :: l, acc, h => by
    simp only [List.mem_cons, not_or] at h
    rw [cutAt, if_neg (fun e => h.1 e.symm), cutAt_no c l _ h.2]
    simp
theorem cutAt_hit (c : UInt8) : ∀ (a acc r : Str), c ∉ a → cutAt c acc (a ++ c :: r) = (acc ++ a) :: cutAt c [] r
  | [], acc, r, _ => by simp [cutAt]
  | b :: l, acc, r, h => by
    simp only [List.mem_cons, not_or] at h
    rw [List.cons_append, cutAt, if_neg (fun e => h.1 e.symm), cutAt_hit c l _ r h.2]
    simp
theorem mem_at {c : UInt8} {s : Str} (h : c ∈ s) : ∃ a b, s = a ++ c :: b ∧ c ∉ a := by
  induction s with
  | nil => cases h
  | cons x l ih =>
    by_cases e : c = x
    · subst e
      exact ⟨[], l, rfl, by simp⟩
    · have hm : c ∈ l := (List.mem_cons.1 h).resolve_left e
      obtain ⟨a, b, rfl, hn⟩ := ih hm
      exact ⟨x :: a, b, rfl, by simp [e, hn]⟩
theorem index_byte_at {c : UInt8} {a b : Str} (h : c ∉ a) : index (a ++ c :: b) [c] = a.length := by
  have := index_at (a := a) (b := b) (sub := [c]) (by simp) (by intro d hd; simp at hd; subst hd; exact h)
  simpa using this
theorem index_byte_no {c : UInt8} {s : Str} (h : c ∉ s) : index s [c] = -1 := index_no (by simp) (by intro d hd; simp at hd; subst hd; exact h)
theorem split_cutAt (c : UInt8) : ∀ (n : Nat) (s : Str), s.length ≤ n → split s [c] = cutAt c [] s
  | n, s, hn => by
    by_cases h : c ∈ s
    · obtain ⟨a, b, rfl, ha⟩ := mem_at h
      rw [cutAt_hit c a [] b ha, split_hit (by simp) (index_byte_at ha)]
      have e1 : (a ++ c :: b).take a.length = a := List.take_left
      have e2 : (a ++ c :: b).drop (a.length + [c].length) = b := by
        rw [show a.length + [c].length = (a ++ [c]).length by simp, show a ++ c :: b = (a ++ [c]) ++ b by simp, List.drop_left]
      rw [e1, e2]
      cases n with
      | zero => simp at hn
      | succ n => rw [split_cutAt c n b (by simp at hn; omega)]; rfl
    · rw [split_none (index_byte_no h), cutAt_no c s [] h]
      rfl
theorem split_eq (c : UInt8) (s : Str) : split s [c] = cutAt c [] s := split_cutAt c s.length s (Nat.le_refl _)
theorem cut_at {c : UInt8} {a b : Str} (h : c ∉ a) : cut (a ++ c :: b) [c] = (a, b, true) := by
  unfold cut
  rw [index_byte_at h, if_pos (by omega)]
  have e1 : (a ++ c :: b).take (a.length : Int).toNat = a := List.take_left
  have e2 : (a ++ c :: b).drop ((a.length : Int).toNat + [c].length) = b := by
    rw [show (a.length : Int).toNat + [c].length = (a ++ [c]).length by simp, show a ++ c :: b = (a ++ [c]) ++ b by simp, List.drop_left]
  rw [e1, e2]
theorem cut_no {c : UInt8} {s : Str} (h : c ∉ s) : cut s [c] = (s, [], false) := by
  unfold cut
  rw [index_byte_no h, if_neg (by omega)]
theorem join_two (x y : Str) (r : List Str) (sep : Str) : join (x :: y :: r) sep = x ++ sep ++ join (y :: r) sep := by
  rw [join_cons, join_cons]
  simp [joinTail, List.append_assoc]
theorem cutAt_ne (c : UInt8) : ∀ (l acc : Str), cutAt c acc l ≠ []
  | [], acc => by simp [cutAt]
  | b :: l, acc => by
    rw [cutAt]
    split
    · simp
    · exact cutAt_ne c l _
theorem join_cutAt (c : UInt8) : ∀ (l acc : Str), join (cutAt c acc l) [c] = acc ++ l
  | [], acc => by simp [cutAt, join_one]
  | b :: l, acc => by
    rw [cutAt]
    split
    · rename_i e
      subst e
      have hn := cutAt_ne b l []
      cases hc : cutAt b [] l with
      | nil => exact absurd hc hn
      | cons y r =>
        rw [join_two, ← hc, join_cutAt b l []]
        simp
    · rw [join_cutAt c l]
      simp
theorem join_split (c : UInt8) (s : Str) : join (split s [c]) [c] = s := by rw [split_eq, join_cutAt]; rfl
theorem split_ne (c : UInt8) (s : Str) : split s [c] ≠ [] := by rw [split_eq]; exact cutAt_ne c s []
theorem split_join (c : UInt8) : ∀ (l : List Str), l ≠ [] → (∀ x ∈ l, c ∉ x) → split (join l [c]) [c] = l
  | [], h, _ => absurd rfl h
  | [x], _, h => by rw [join_one, split_eq, cutAt_no c x [] (h x (by simp))]; rfl
  | x :: y :: r, _, h => by
    have ih := split_join c (y :: r) (by simp) (fun z hz => h z (List.mem_cons_of_mem _ hz))
    rw [split_eq] at ih ⊢
    rw [join_two, List.append_assoc, List.singleton_append, cutAt_hit c x [] _ (h x (by simp)), ih]
    rfl
def verFmtS (a b c : Str) (pre : List Str) : Str := 118 :: ((a ++ 46 :: (b ++ 46 :: c)) ++ (if pre = [] then [] else 45 :: join pre [46]))
def verFmt (a b c : Int) (pre : List Str) : Str := verFmtS (itoa a) (itoa b) (itoa c) pre
theorem worseN_zero {a b : Nat} : worseN a b = 0 ↔ a = 0 ∧ b = 0 := by
  unfold worseN
  split <;> omega
theorem numErrs_zero : ∀ (l : List Str) (b : Nat), numErrs l b = 0 ↔ b = 0 ∧ ∀ w ∈ l, (numberOf w).2 = 0
  | [], b => by simp [numErrs]
  | w :: r, b => by
    have := numErrs_zero r (worseN b (numberOf w).2)
    show numErrs r (worseN b (numberOf w).2) = 0 ↔ _
    rw [this, worseN_zero]
    simp only [List.mem_cons, forall_eq_or_imp, and_assoc]
theorem partErrs_zero : ∀ (l : List Str) (b : Nat), partErrs l b = 0 ↔ b = 0 ∧ ∀ w ∈ l, partErr w = 0
  | [], b => by simp [partErrs]
  | w :: r, b => by
    have := partErrs_zero r (worseN b (partErr w))
    show partErrs r (worseN b (partErr w)) = 0 ↔ _
    rw [this, worseN_zero]
    simp only [List.mem_cons, forall_eq_or_imp, and_assoc]
theorem verErrs_zero (s : Str) : verErrs s = 0 ↔ (∀ w ∈ verWords s, (numberOf w).2 = 0) ∧ (∀ w ∈ verPres s, partErr w = 0) ∧ (verPres s).length ≤ 5 := by
  unfold verErrs
  simp only
  by_cases h : 5 < (verPres s).length
  · rw [if_pos h, worseN_zero]
    constructor
    · rintro ⟨_, h2⟩; omega
    · rintro ⟨_, _, h2⟩; omega
  · rw [if_neg h, partErrs_zero, numErrs_zero]
    constructor
    · rintro ⟨⟨_, h1⟩, h2⟩; exact ⟨h1, h2, by omega⟩
    · rintro ⟨h1, h2, _⟩; exact ⟨⟨rfl, h1⟩, h2⟩
theorem verErr_zero (s : Str) : verErr s = 0 ↔ hasPrefix s [118] = true ∧ (verWords s).length = 3 ∧ (∀ w ∈ verWords s, (numberOf w).2 = 0) ∧ (∀ w ∈ verPres s, partErr w = 0) ∧ (verPres s).length ≤ 5 := by
  unfold verErr
  by_cases h : hasPrefix s [118] = false ∨ (verWords s).length ≠ 3
  · rw [if_pos h]
    constructor
    · intro h2; omega
    · rintro ⟨h1, h2, _⟩
      rcases h with h | h
      · rw [h1] at h; cases h
      · exact absurd h2 h
  · rw [if_neg h, verErrs_zero]
    rw [not_or] at h
    have h1 : hasPrefix s [118] = true := by simpa using h.1
    have h2 : (verWords s).length = 3 := Decidable.of_not_not h.2
    simp [h1, h2]
theorem numberOf_itoa {s : Str} (h : (numberOf s).2 = 0) : itoa ((numberOf s).1 : Nat) = s := by
  obtain ⟨h1, h2, h3, _⟩ := numberOf_err h
  rw [h3]
  exact (itoa_decVal h1).2 h2
theorem hasPrefix_v {s : Str} (h : hasPrefix s [118] = true) : s = 118 :: trimPrefix s [118] := by
  unfold trimPrefix
  rw [if_pos h]
  unfold hasPrefix at h
  obtain ⟨t, rfl⟩ := List.isPrefixOf_iff_prefix.1 h
  rfl
theorem list_three {l : List Str} (h : l.length = 3) : l = [l.getD 0 [], l.getD 1 [], l.getD 2 []] := by
  match l, h with
  | [a, b, c], _ => rfl
theorem ver_back {s : Str} (h : verErr s = 0) : verFmt (verNum s 0 : Nat) (verNum s 1 : Nat) (verNum s 2 : Nat) (verPre s) = s := by
  obtain ⟨h1, h2, h3, h4, h5⟩ := (verErr_zero s).1 h
  have hp : verPre s = verPres s := by unfold verPre; rw [if_pos h]
  have hn : ∀ i, i < 3 → itoa (verNum s i : Nat) = (verWords s).getD i [] := fun i hi => by
    unfold verNum
    rw [if_pos h]
    apply numberOf_itoa
    apply h3
    rw [List.getD_eq_getElem?_getD, List.getElem?_eq_getElem (by omega)]
    exact List.getElem_mem _
  unfold verFmt verFmtS
  rw [hn 0 (by omega), hn 1 (by omega), hn 2 (by omega), hp]
  have hw : join (verWords s) [46] = (verWords s).getD 0 [] ++ 46 :: ((verWords s).getD 1 [] ++ 46 :: (verWords s).getD 2 []) := by
    conv => lhs; rw [list_three h2]
    rw [join_two, join_two, join_one]
    simp
  rw [← hw]
  have hs := hasPrefix_v h1
  conv => rhs; rw [hs]
  congr 1
  unfold verWords verPres
  by_cases hd : (45 : UInt8) ∈ trimPrefix s [118]
  · obtain ⟨a, b, e, ha⟩ := mem_at hd
    rw [e, cut_at ha]
    simp only [↓reduceIte]
    rw [join_split, if_neg (split_ne _ _), join_split]
  · rw [cut_no hd]
    simp only [Bool.false_eq_true, ↓reduceIte, List.append_nil]
    rw [join_split]
theorem ver_inj {a b : Str} (ha : verErr a = 0) (hb : verErr b = 0) (hn : ∀ i, i < 3 → verNum a i = verNum b i) (hp : verPre a = verPre b) : a = b := by
  rw [← ver_back ha, ← ver_back hb, hn 0 (by omega), hn 1 (by omega), hn 2 (by omega), hp]
theorem verCmp_same {a b : Str} (ha : verErr a = 0) (hb : verErr b = 0) : verCmp a b = 0 ↔ a = b :=
  ⟨fun h => ver_inj ha hb (verCmp_zero h).1 (verCmp_zero h).2, fun e => by subst e; exact verCmp_ord.self a⟩
end Go.Proofs.Pw

namespace Go.Proofs.Pw
open Go.Lib hiding intOf
section
variable {α : Type} {f : α → α → Int}
def Rises (f : α → α → Int) (l : List α) : Prop := l.Pairwise fun a b => f a b < 0
theorem rises_ext (hf : Ord3 f) : ∀ {l m : List α}, Rises f l → Rises f m → (∀ x, x ∈ l ↔ x ∈ m) → l = m
  | [], [], _, _, _ => rfl
  | [], b :: t, _, _, h => by have := (h b).2 (by simp); simp at this
  | a :: r, [], _, _, h => by have := (h a).1 (by simp); simp at this
  | a :: r, b :: t, hl, hm, h => by
    have h1 := List.pairwise_cons.1 hl
    have h2 := List.pairwise_cons.1 hm
    have hab : a = b := by
      rcases List.mem_cons.1 ((h a).1 (by simp)) with e | e
      · exact e
      · rcases List.mem_cons.1 ((h b).2 (by simp)) with e' | e'
        · exact e'.symm
        · have x1 := h1.1 b e'
          have x2 := h2.1 a e
          have := (hf.anti a b).1 x1
          omega
    subst hab
    congr 1
    apply rises_ext hf h1.2 h2.2
    intro x
    constructor
    · intro hx
      rcases List.mem_cons.1 ((h x).1 (by simp [hx])) with e | e
      · subst e
        have := h1.1 x hx
        rw [hf.self] at this
        omega
      · exact e
    · intro hx
      rcases List.mem_cons.1 ((h x).2 (by simp [hx])) with e | e
      · subst e
        have := h2.1 x hx
        rw [hf.self] at this
        omega
      · exact e
variable [DecidableEq α]
def insU (f : α → α → Int) (s : α) : List α → List α
  | [] => [s]
  | a :: r => if f a s < 0 then a :: insU f s r else if a = s then a :: r else s :: a :: r
theorem insU_mem (f : α → α → Int) (s x : α) : ∀ l : List α, x ∈ insU f s l ↔ x = s ∨ x ∈ l
  | [] => by simp [insU]
  | a :: r => by
    unfold insU
    split
    · rw [List.mem_cons, insU_mem f s x r, List.mem_cons]
      constructor
      · rintro (h | h | h) <;> simp [h]
      · rintro (h | h | h) <;> simp [h]
    · split
      · rename_i e
        subst e
        simp
      · simp
theorem insU_rises (hf : Ord3 f) (s : α) : ∀ l : List α, (∀ a ∈ l, f a s = 0 → a = s) → Rises f l → Rises f (insU f s l)
  | [], _, _ => by simp [insU, Rises]
  | a :: r, hz, h => by
    have h1 := List.pairwise_cons.1 h
    unfold insU
    split
    · rename_i hlt
      refine List.pairwise_cons.2 ⟨fun x hx => ?_, insU_rises hf s r (fun b hb => hz b (by simp [hb])) h1.2⟩
      rcases (insU_mem f s x r).1 hx with rfl | hx
      · exact hlt
      · exact h1.1 x hx
    · rename_i hge
      split
      · exact h
      · rename_i hne
        have hsa : f s a < 0 := by
          have h0 : f a s ≠ 0 := fun e => hne (hz a (by simp) e)
          have := hf.anti s a
          omega
        refine List.pairwise_cons.2 ⟨fun x hx => ?_, h⟩
        rcases List.mem_cons.1 hx with rfl | hx
        · exact hsa
        · have hax := h1.1 x hx
          have t := hf.tr s a x (by omega) (by omega)
          rcases Int.lt_or_eq_of_le t with t | t
          · exact t
          · exfalso
            have hxs := hf.zero t
            have h1' := hf.tr a x s (by omega) (by omega)
            have h2' := (hf.anti s a).1 hsa
            omega
def insAll (f : α → α → Int) (l : List α) : List α := l.foldl (fun o s => insU f s o) []
theorem insFold_mem (f : α → α → Int) (x : α) : ∀ (l o : List α), x ∈ l.foldl (fun o s => insU f s o) o ↔ x ∈ l ∨ x ∈ o
  | [], o => by simp
  | s :: r, o => by
    rw [List.foldl_cons, insFold_mem f x r, insU_mem, List.mem_cons]
    constructor
    · rintro (h | h | h) <;> simp [h]
    · rintro ((h | h) | h) <;> simp [h]
theorem insAll_mem (f : α → α → Int) (l : List α) (x : α) : x ∈ insAll f l ↔ x ∈ l := by
  unfold insAll; rw [insFold_mem]; simp
theorem insFold_rises (hf : Ord3 f) (P : α → Prop) (hz : ∀ a b, P a → P b → f a b = 0 → a = b) : ∀ (l o : List α), (∀ a ∈ l, P a) → (∀ a ∈ o, P a) → Rises f o → Rises f (l.foldl (fun o s => insU f s o) o)
  | [], o, _, _, h => h
  | s :: r, o, hl, ho, h => by
    rw [List.foldl_cons]
    refine insFold_rises hf P hz r _ (fun a ha => hl a (by simp [ha])) (fun a ha => ?_) (insU_rises hf s o (fun a ha e => hz a s (ho a ha) (hl s (by simp)) e) h)
    rcases (insU_mem f s a o).1 ha with rfl | ha
    · exact hl a (by simp)
    · exact ho a ha
theorem insAll_rises (hf : Ord3 f) (P : α → Prop) (hz : ∀ a b, P a → P b → f a b = 0 → a = b) (l : List α) (hl : ∀ a ∈ l, P a) : Rises f (insAll f l) :=
  insFold_rises hf P hz l [] hl (by simp) List.Pairwise.nil
end
section
variable {α : Type} [Inhabited α] [DecidableEq α] {f : α → α → Int}
theorem compact_mem (d : Array α) (x : α) : x ∈ compactUpTo d d.size ↔ ∃ i, i < d.size ∧ d[i]! = x := by
  unfold compactUpTo
  simp only [List.mem_map, List.mem_filter, List.mem_range]
  constructor
  · rintro ⟨i, ⟨h1, _⟩, h2⟩
    exact ⟨i, h1, h2⟩
  · rintro ⟨i, h1, h2⟩
    induction i using Nat.strongRecOn with
    | _ i ih =>
      by_cases hk : keeps d i = true
      · exact ⟨i, ⟨h1, hk⟩, h2⟩
      · obtain ⟨j, rfl⟩ : ∃ j, i = j + 1 := by
          cases i with
          | zero => exact absurd (by simp [keeps]) hk
          | succ j => exact ⟨j, rfl⟩
        have he : d[j]! = x := by
          rw [← h2]
          by_cases e : d[j]! = d[j + 1]!
          · exact e
          · exact absurd (by simp [keeps]; exact fun h => e h.symm) hk
        exact ih j (by omega) (by omega) he
theorem compact_rises (hf : Ord3 f) (d : Array α) (hs : ∀ i j, i < j → j < d.size → f d[i]! d[j]! ≤ 0) (hz : ∀ i j, i < d.size → j < d.size → f d[i]! d[j]! = 0 → d[i]! = d[j]!) : Rises f (compactUpTo d d.size) := by
  unfold compactUpTo Rises
  rw [List.pairwise_map]
  apply List.Pairwise.imp_of_mem (R := fun a b => a < b) _ ((List.pairwise_lt_range).filter _)
  intro i j hi hj hij
  simp only [List.mem_filter, List.mem_range] at hi hj
  obtain ⟨k, rfl⟩ : ∃ k, j = k + 1 := ⟨j - 1, by omega⟩
  have hne : ¬ d[k]! = d[k + 1]! := by
    have := hj.2
    simp [keeps] at this
    exact fun e => this e.symm
  have h1 := hs k (k + 1) (by omega) hj.1
  have h2 : f d[k]! d[k + 1]! < 0 := by
    rcases Int.lt_or_eq_of_le h1 with h | h
    · exact h
    · exact absurd (hz k (k + 1) (by omega) hj.1 h) hne
  by_cases e : i = k
  · subst e; exact h2
  · have h3 := hs i k (by omega) (by omega)
    have h4 := hf.tr _ _ _ h3 h1
    rcases Int.lt_or_eq_of_le h4 with h | h
    · exact h
    · exfalso
      have h5 := hf.zero h
      have := hf.tr _ _ _ (by omega : f d[k + 1]! d[i]! ≤ 0) h3
      have := hf.anti d[k + 1]! d[k]!
      have := hf.anti d[k]! d[k + 1]!
      omega
end
def vsort (l : List Str) : List Str := insAll verCmp (l.filter fun s => decide (verErr s = 0))
theorem vsort_mem (l : List Str) (x : Str) : x ∈ vsort l ↔ x ∈ l ∧ verErr x = 0 := by
  unfold vsort; rw [insAll_mem]; simp
theorem vsort_rises (l : List Str) : Rises verCmp (vsort l) :=
  insAll_rises verCmp_ord (fun s => verErr s = 0) (fun a b ha hb e => (verCmp_same ha hb).1 e) _ (by simp)
end Go.Proofs.Pw

namespace Go.Proofs.Pw
open Go.Lib hiding intOf
def mdErr (m : Md) : Nat := modErr m.1 m.2
def mdText (m : Md) : Str := modText m.1 m.2
theorem mem_join (c x : UInt8) : ∀ l : List Str, x ∈ join l [c] → x = c ∨ ∃ w ∈ l, x ∈ w
  | [], h => by simp [join_nil] at h
  | [a], h => by
    have : join [a] [c] = a := join_one a [c]
    rw [this] at h
    exact .inr ⟨a, by simp, h⟩
  | a :: b :: r, h => by
    rw [join_two] at h
    simp only [List.mem_append, List.mem_cons, List.mem_nil_iff, or_false] at h
    rcases h with (h | h) | h
    · exact .inr ⟨a, by simp, h⟩
    · exact .inl h
    · rcases mem_join c x (b :: r) h with h | ⟨w, hw, h⟩
      · exact .inl h
      · exact .inr ⟨w, by simp at hw ⊢; right; exact hw, h⟩
theorem mem_split (c x : UInt8) (s : Str) (h : x ∈ s) : x = c ∨ ∃ w ∈ split s [c], x ∈ w := by
  rw [← join_split c s] at h
  exact mem_join c x _ h
theorem part_of_dig {c : UInt8} (h : isDig c = true) : isPartByte c = true := by unfold isPartByte; rw [h]; rfl
theorem ver_bytes {v : Str} (h : verErr v = 0) : ∀ c ∈ v, isPartByte c = true ∨ c = 46 := by
  obtain ⟨h1, _, h3, h4, _⟩ := (verErr_zero v).1 h
  have hv := hasPrefix_v h1
  have hnum : ∀ w ∈ verWords v, ∀ c ∈ w, isPartByte c = true := fun w hw c hc => by
    have := (numberOf_err (h3 w hw)).1
    unfold areDigits at this
    simp only [Bool.and_eq_true] at this
    exact part_of_dig (List.all_eq_true.1 this.2 c hc)
  have hpre : ∀ w ∈ verPres v, ∀ c ∈ w, isPartByte c = true := fun w hw c hc => List.all_eq_true.1 (partErr_zero (h4 w hw)).2.2.1 c hc
  have key : ∀ c ∈ trimPrefix v [118], isPartByte c = true ∨ c = 46 := by
    intro c hc
    unfold verWords at hnum
    unfold verPres at hpre
    by_cases hm : (45 : UInt8) ∈ trimPrefix v [118]
    · obtain ⟨a, b, e, ha⟩ := mem_at hm
      rw [e, cut_at ha] at hnum hpre
      simp only [if_true] at hnum hpre
      rw [e] at hc
      simp only [List.mem_append, List.mem_cons] at hc
      rcases hc with hc | rfl | hc
      · rcases mem_split 46 c a hc with h | ⟨w, hw, h⟩
        · exact .inr h
        · exact .inl (hnum w hw c h)
      · exact .inl (by decide)
      · rcases mem_split 46 c b hc with h | ⟨w, hw, h⟩
        · exact .inr h
        · exact .inl (hpre w hw c h)
    · rw [cut_no hm] at hnum
      rcases mem_split 46 c _ hc with h | ⟨w, hw, h⟩
      · exact .inr h
      · exact .inl (hnum w hw c h)
  intro c hc
  rw [hv] at hc
  rcases List.mem_cons.1 hc with rfl | hc
  · exact .inl (by decide)
  · exact key c hc
theorem path_bytes {p : Str} (h : pathErr p = 0) : ∀ c ∈ p, isElemByte c = true ∨ c = 47 := by
  intro c hc
  rcases mem_split 47 c p hc with h1 | ⟨w, hw, h1⟩
  · exact .inr h1
  · refine .inl ?_
    have hok : elemOk w = true := by
      cases he : elemOk w with
      | true => rfl
      | false =>
        exfalso
        unfold pathErr at h
        simp only at h
        rw [if_pos (List.any_eq_true.2 ⟨w, hw, by rw [he]; rfl⟩)] at h
        cases h
    unfold elemOk at hok
    simp only [Bool.and_eq_true] at hok
    exact List.all_eq_true.1 hok.1.1.2 c h1
theorem ver_no {v : Str} (h : verErr v = 0) (d : UInt8) (hd : isPartByte d = false) (h46 : d ≠ 46) : d ∉ v := fun hm => by
  rcases ver_bytes h d hm with e | e
  · rw [hd] at e; cases e
  · exact h46 e
theorem path_no {p : Str} (h : pathErr p = 0) (d : UInt8) (hd : isElemByte d = false) (h47 : d ≠ 47) : d ∉ p := fun hm => by
  rcases path_bytes h d hm with e | e
  · rw [hd] at e; cases e
  · exact h47 e
theorem modErr_zero {p v : Str} (h : modErr p v = 0) : pathErr p = 0 ∧ verErr v = 0 := by
  unfold modErr at h
  by_cases h1 : pathErr p = 0
  · refine ⟨h1, ?_⟩
    by_cases h2 : verErr v = 0
    · exact h2
    · rw [if_neg (by rw [h1]; simp), if_pos h2] at h
      exact h
  · rw [if_pos h1] at h
    exact absurd h h1
theorem split_at {p v : Str} (hp : (64 : UInt8) ∉ p) (hv : (64 : UInt8) ∉ v) : split (p ++ [64] ++ v) [64] = [p, v] := by
  have := split_join 64 [p, v] (by simp) (by intro x hx; simp at hx; rcases hx with rfl | rfl <;> assumption)
  rw [join_two] at this
  have e : join [v] [64] = v := join_one v [64]
  rw [e] at this
  exact this
def modAhead (a b : Md) : Bool := decide (compareBytes a.1 b.1 < 0) || (decide (a.1 = b.1) && verLess a.2 b.2)
def modCmp (a b : Md) : Int := orI (compareBytes a.1 b.1) (verCmp a.2 b.2)
theorem modCmp_ord : Ord3 modCmp := Ord3.or (compareBytes_ord.comap (fun m : Md => m.1)) (verCmp_ord.comap (fun m : Md => m.2))
theorem modCmp_zero {a b : Md} (ha : mdErr a = 0) (hb : mdErr b = 0) (h : modCmp a b = 0) : a = b := by
  obtain ⟨h1, h2⟩ := orI_eq.1 h
  exact Prod.ext (compareBytes_zero h1) ((verCmp_same (modErr_zero ha).2 (modErr_zero hb).2).1 h2)
theorem modAhead_iff {a b : Md} (ha : mdErr a = 0) (hb : mdErr b = 0) : modAhead a b = decide (modCmp a b < 0) := by
  unfold modAhead modCmp verLess
  rw [Bool.eq_iff_iff]
  simp only [Bool.or_eq_true, Bool.and_eq_true, decide_eq_true_eq, orI_lt]
  rw [compareBytes_zero_iff]
  constructor
  · rintro (h | ⟨h, _, _, h2⟩)
    · exact .inl h
    · exact .inr ⟨h, h2⟩
  · rintro (h | ⟨h, h2⟩)
    · exact .inl h
    · exact .inr ⟨h, (modErr_zero ha).2, (modErr_zero hb).2, h2⟩
end Go.Proofs.Pw

namespace Go.Proofs.Pw
open Go.RowKit
structure EnvM (w : World) : Prop where
  maxLen : ∃ m, w.cell? ⟨11, 0, none⟩ = some (.int .i64 m)
theorem lt_of_cell {w : World} {a : Addr} {v : Value} (h : w.cell? a = some v) : a.block < w.heap.size := World.block_lt_of_cell? w a h
theorem Below.cell_some {w w' : World} (hb : Below w.heap.size w w') {a : Addr} {v : Value} (h : w.cell? a = some v) : w'.cell? a = some v :=
  (hb.cell (lt_of_cell h)).trans h
theorem EnvM.below {w w' : World} (h : EnvM w) (hb : Below w.heap.size w w') : EnvM w' := by
  obtain ⟨m, hm⟩ := h.maxLen
  exact ⟨m, Below.cell_some hb hm⟩
theorem below_step {w w1 w2 : World} (h : Below w.heap.size w w1) (h2 : Below w1.heap.size w1 w2) : Below w.heap.size w w2 := h.trans (h2.mono h.size)
theorem below_alloc (w : World) (o : Obj) : Below w.heap.size w (w.alloc o) := (Below.refl _ _).alloc (Nat.le_refl _) _
def errG : Nat → Nat
  | 1 => 1 | 2 => 6 | 3 => 3 | 4 => 5 | 5 => 7
  | 6 => 8 | 7 => 2 | 8 => 4 | 9 => 0 | _ => 9
structure EnvE (ks : List Nat) (A : Nat → Addr) (w : World) : Prop where
  var : ∀ k ∈ ks, w.cell? ⟨errG k, 0, none⟩ = some (.iface 328 (.pointer (some (A k))))
  row : ∀ k ∈ ks, ∃ c t, w.heap[(A k).block]? = some (.cells c t (0, 0))
  inj : ∀ j ∈ ks, ∀ k ∈ ks, A j = A k → j = k
theorem Below.cell_same {w w' : World} (hb : Below w.heap.size w w') {a : Addr} {v : Value} (h : w.cell? a = some v) : w'.cell? a = some v :=
  (hb.cell (World.block_lt_of_cell? w a h)).trans h
theorem Below.row_same {w w' : World} (hb : Below w.heap.size w w') {b : Nat} {o : Obj} (h : w.heap[b]? = some o) : w'.heap[b]? = some o :=
  (hb.block b (Array.getElem?_eq_some_iff.1 h).1).trans h
theorem EnvE.below {ks : List Nat} {A : Nat → Addr} {w w' : World} (h : EnvE ks A w) (hb : Below w.heap.size w w') : EnvE ks A w' :=
  ⟨fun k hk => Below.cell_same hb (h.var k hk), fun k hk => let ⟨c, t, hc⟩ := h.row k hk; ⟨c, t, Below.row_same hb hc⟩, h.inj⟩
theorem EnvE.sub {ks js : List Nat} {A : Nat → Addr} {w : World} (h : EnvE ks A w) (hs : ∀ k ∈ js, k ∈ ks) : EnvE js A w :=
  ⟨fun k hk => h.var k (hs k hk), fun k hk => h.row k (hs k hk), fun j hj k hk => h.inj j (hs j hj) k (hs k hk)⟩
def errV (A : Nat → Addr) (code : Nat) : Value := if code = 0 then .nilIface else .iface 328 (.pointer (some (A code)))
theorem errV_zero (A : Nat → Addr) : errV A 0 = .nilIface := rfl
theorem errV_pos (A : Nat → Addr) {c : Nat} (h : c ≠ 0) : errV A c = .iface 328 (.pointer (some (A c))) := if_neg h
def allErrs : List Nat := [1, 2, 3, 4, 5, 6, 7, 8, 9, 10]
theorem Below.drewN {B : Nat} {a w : World} (h : Below B a w) (n : Nat) : Below B a (w.drewN n) := below_drewN h n
structure EnvP (ks : List Nat) (A : Nat → Addr) (w : World) : Prop where
  m : EnvM w
  errs : EnvE ks A w
  has : 1 ∈ ks ∧ 2 ∈ ks
  range : ∃ te pe, w.cell? ⟨15, 0, none⟩ = some (.iface te pe)
  syn : ∃ te pe, w.cell? ⟨14, 0, none⟩ = some (.iface te pe)
  pow10 : Lib.TabIs Tryz.prog w "internal/strconv.uint64pow10" .u64 Lib.pow10Tab
theorem var?_below {P : Program} {w w' : World} {n : String} {cs : Array Value} (h : w.var? P n = some cs) (hb : Below w.heap.size w w') : w'.var? P n = some cs := by
  unfold World.var? at h ⊢
  cases hg : P.globalNamed n with
  | none => simp [hg] at h
  | some g =>
    simp only [hg, Option.bind_some] at h ⊢
    have hlt : g < w.heap.size := by
      rcases Nat.lt_or_ge g w.heap.size with h' | h'
      · exact h'
      · simp [Array.getElem?_eq_none h'] at h
    rw [hb.block g hlt]
    exact h
theorem EnvP.below {ks : List Nat} {A : Nat → Addr} {w w' : World} (h : EnvP ks A w) (hb : Below w.heap.size w w') : EnvP ks A w' :=
  { m := h.m.below hb, errs := h.errs.below hb, has := h.has
    range := let ⟨te, pe, e⟩ := h.range; ⟨te, pe, Below.cell_some hb e⟩
    syn := let ⟨te, pe, e⟩ := h.syn; ⟨te, pe, Below.cell_some hb e⟩
    pow10 := var?_below h.pow10 hb
  }
end Go.Proofs.Pw

namespace Go.Proofs.Pw
open Go.RowKit
open Go.Lib hiding intOf
def mdF (n : Nat) (P V : Nat → ByteArray) : List Md := (List.range n).map fun j => ((P j).data.toList, (V j).data.toList)
theorem mdF_length (n P V) : (mdF n P V).length = n := by simp [mdF]
theorem mdF_get (n P V) (j : Nat) (h : j < n) : (mdF n P V)[j]? = some ((P j).data.toList, (V j).data.toList) := by simp [mdF, h]
theorem mdF_take_succ (n P V) (k : Nat) (h : k < n) : (mdF n P V).take (k + 1) = (mdF n P V).take k ++ [((P k).data.toList, (V k).data.toList)] := by
  rw [List.take_add_one, mdF_get n P V k h]; rfl
theorem mdF_take_all (n P V) : (mdF n P V).take n = mdF n P V := List.take_of_length_le (by rw [mdF_length]; exact Nat.le_refl _)
theorem bytes_eq {a b : ByteArray} : a.data.toList = b.data.toList ↔ a = b := ⟨fun h => by
  apply ByteArray.ext; apply Array.ext'; exact h, fun h => by rw [h]⟩
def ModsAt (w : World) (v : Value) (l : List Md) : Prop :=
  ∃ a n cap P V, v = .slice a n cap ∧ l = mdF n P V ∧ n ≤ cap ∧ cap ≤ 9223372036854775807 ∧ ∀ j, j < n → ∃ b o, a = some ⟨b, o, none⟩ ∧ w.cell? ⟨b, o + j * 2, none⟩ = some (.string (P j)) ∧ w.cell? ⟨b, o + j * 2 + 1, none⟩ = some (.string (V j))
theorem ModsAt.below {w w' : World} {v : Value} {l : List Md} (h : ModsAt w v l) (hb : Below w.heap.size w w') : ModsAt w' v l := by
  obtain ⟨a, n, cap, P, V, h1, h2, h3, h4, h5⟩ := h
  exact ⟨a, n, cap, P, V, h1, h2, h3, h4, fun j hj => let ⟨b, o, e1, e2, e3⟩ := h5 j hj; ⟨b, o, e1, Below.cell_some hb e2, Below.cell_some hb e3⟩⟩
theorem ModsAt.nil (w : World) : ModsAt w (.slice none 0 0) [] := ⟨none, 0, 0, fun _ => ByteArray.empty, fun _ => ByteArray.empty, rfl, rfl, Nat.le_refl _, by decide, fun j hj => absurd hj (Nat.not_lt_zero _)⟩
def findI {α : Type} (p : α → Bool) (l : List α) : Int := match l.findIdx? p with | some k => (k : Int) | none => -1
theorem findI_hit {α : Type} {p : α → Bool} {l : List α} {k : Nat} {x : α} (hk : l[k]? = some x) (hp : p x = true) (h0 : ∀ j y, j < k → l[j]? = some y → p y = false) : findI p l = k := by
  have : l.findIdx? p = some k := by
    rw [List.findIdx?_eq_some_iff_getElem]
    obtain ⟨h, e⟩ := List.getElem?_eq_some_iff.1 hk
    refine ⟨h, by rw [e]; exact hp, fun j hj => ?_⟩
    have := h0 j l[j] hj (List.getElem?_eq_getElem _)
    simp [this]
  unfold findI
  rw [this]
theorem findI_none {α : Type} {p : α → Bool} {l : List α} (h : ∀ (j : Nat) (y : α), l[j]? = some y → p y = false) : findI p l = -1 := by
  have : l.findIdx? p = none := by
    rw [List.findIdx?_eq_none_iff]
    intro x hx
    obtain ⟨j, hj⟩ := List.getElem?_of_mem hx
    rw [h j x hj]
  unfold findI
  rw [this]
theorem Tryz.md_fields : Tryz.prog.underlying 47 = some (.struct (Tryz.prog.fieldsOf 47)) := by kernel_rfl
theorem Tryz.md_held : Tryz.prog.stoodInHeld 47 = false := by kernel_rfl
theorem Tryz.md_guard : Tryz.prog.eqGuardType Tryz.prog.depth 47 = false := by kernel_rfl
theorem md_equal (p v q u : ByteArray) (w : World) : (Op.equalIn 10000 47 (.agg #[.string p, .string v]) (.agg #[.string q, .string u])).run Tryz.prog w = .ok (decide (p = q ∧ v = u)) w := by
  have u3 := Tryz.underlying9
  have a3 := Tryz.isAgg9
  have z3 := Tryz.sizeOf9
  rw [show (10000 : Nat) = 9999 + 1 from rfl, run_equalIn_agg w 9999 47 _ _ Tryz.md_fields Tryz.md_held]
  simp only [Program.fieldsOf, Tryz.underlying47]
  go_simp
  have e1 : (p.toList = q.toList) ↔ p = q := by rw [ByteArray.toList_eq, ByteArray.toList_eq]; exact bytes_eq
  have e2 : (v.toList = u.toList) ↔ v = u := by rw [ByteArray.toList_eq, ByteArray.toList_eq]; exact bytes_eq
  by_cases h1 : p = q
  · by_cases h2 : v = u
    · simp [h1, h2]
    · have : ¬ v.toList = u.toList := fun h => h2 (e2.1 h)
      simp [h1, h2, this]
  · have : ¬ p.toList = q.toList := fun h => h1 (e1.1 h)
    simp [h1, this]
theorem md_eql (p v q u : ByteArray) (w : World) : (binOp .eql 47 (.agg #[.string p, .string v]) (.agg #[.string q, .string u])).run Tryz.prog w = .ok (.bool (decide (p = q ∧ v = u))) w := by
  rw [run_eql_struct, md_equal]; rfl
theorem md_neq (p v q u : ByteArray) (w : World) : (binOp .neq 47 (.agg #[.string p, .string v]) (.agg #[.string q, .string u])).run Tryz.prog w = .ok (.bool (!decide (p = q ∧ v = u))) w := by
  rw [run_neq_struct, md_equal]; rfl
theorem findPath_calls (v : Value) (l : List Md) (s : ByteArray) (w : World) (h : ModsAt w v l) :
    Calls Tryz.prog 18 #[v, .string s] w fun e w' => e = .returned (.int .i64 (findI (fun m : Md => decide (m.1 = s.data.toList)) l)) ∧ w = w' := by
  obtain ⟨a, n, cap, P, V, rfl, rfl, hn, hcap, hc⟩ := h
  replace hc := Lib.hid hc
  go_enter Tryz.func18, Tryz.ntmps18
  go_wp2_with fail
  go_loop [5] (fun i => ∃ k : Nat, k ≤ n ∧ i = .int .i64 k ∧ Hid (∀ j, j < k → (P j).data.toList ≠ s.data.toList)) (fun i => n - (intOf i).toNat)
  case atStart => exact ⟨0, Nat.zero_le _, rfl, Lib.hid (fun j hj => absurd hj (Nat.not_lt_zero _))⟩
  case round =>
    obtain ⟨k, hk, rfl, HA⟩ := hrel
    by_cases hlt : k < n
    · obtain ⟨b, o, rfl, d1, d2⟩ := hc.out k hlt
      by_cases he : (P k).data.toList = s.data.toList
      · have HF : Hid (findI (fun m : Md => decide (m.1 = s.data.toList)) (mdF n P V) = k) := Lib.hid (findI_hit (mdF_get n P V k hlt) (by simp [he]) (fun j y hj hy => by
          rw [mdF_get n P V j (by omega)] at hy
          cases hy
          exact decide_eq_false (HA.out j hj)))
        have he2 := bytes_eq.1 he
        rw [he2] at d1
        clear he he2
        go_wp2_with fail
        go_ret
        rw [HF.out]
        exact ⟨rfl, rfl⟩
      · have he1 : ((P k).toList == s.toList) = false := by rw [ByteArray.toList_eq, ByteArray.toList_eq]; exact beq_eq_false_iff_ne.2 he
        have he2 : P k ≠ s := fun e => he (by rw [e])
        have he3 : (P k).toList ≠ s.toList := by rw [ByteArray.toList_eq, ByteArray.toList_eq]; exact he
        have HN : Hid (∀ j, j < k + 1 → (P j).data.toList ≠ s.data.toList) := Lib.hid (fun j hj => by
          by_cases e : j = k
          · subst e; exact he
          · exact HA.out j (by omega))
        clear he
        go_wp2_with fail
        go_round
        case rel => exact ⟨k + 1, by omega, by go_num, HN⟩
        case measure => simp [intOf]; omega
    · obtain rfl : k = n := by omega
      have HF : Hid (findI (fun m : Md => decide (m.1 = s.data.toList)) (mdF k P V) = -1) := Lib.hid (findI_none (fun j y hy => by
        have hj : j < k := by have := (List.getElem?_eq_some_iff.1 hy).1; rwa [mdF_length] at this
        rw [mdF_get k P V j hj] at hy
        cases hy
        exact decide_eq_false (HA.out j hj)))
      go_wp2_with fail
      go_ret
      rw [HF.out]
      exact ⟨rfl, rfl⟩
end Go.Proofs.Pw

namespace Go.Proofs.Pw
open Go.Lib hiding intOf
structure Fl where
  path : Str
  reqs : List Md
  excl : List Md
def noFl : Fl := ⟨[], [], []⟩
def firstE (g : Nat → Nat) : Nat → Nat × Int
  | 0 => (0, -1)
  | n + 1 => if (firstE g n).1 ≠ 0 then firstE g n else if g n ≠ 0 then (g n, (n : Int)) else (0, -1)
theorem firstE_none {g : Nat → Nat} : ∀ {n : Nat}, (∀ j, j < n → g j = 0) → firstE g n = (0, -1)
  | 0, _ => rfl
  | n + 1, h => by
    rw [firstE, firstE_none (n := n) (fun j hj => h j (by omega)), if_neg (by simp), if_neg (by simp [h n (by omega)])]
theorem firstE_hit {g : Nat → Nat} {k : Nat} (hg : g k ≠ 0) (h : ∀ j, j < k → g j = 0) : ∀ {n : Nat}, k < n → firstE g n = (g k, (k : Int))
  | 0, hk => absurd hk (Nat.not_lt_zero _)
  | n + 1, hk => by
    by_cases e : k = n
    · subst e
      rw [firstE, firstE_none h, if_neg (by simp), if_pos hg]
    · have := firstE_hit hg h (n := n) (by omega)
      rw [firstE, this, if_pos hg]
theorem firstE_zero {g : Nat → Nat} : ∀ {n : Nat}, (firstE g n).1 = 0 → ∀ j, j < n → g j = 0
  | 0, _, j, hj => absurd hj (Nat.not_lt_zero _)
  | n + 1, h, j, hj => by
    rw [firstE] at h
    by_cases h1 : (firstE g n).1 = 0
    · rw [if_neg (by simp [h1])] at h
      by_cases h2 : g n = 0
      · by_cases e : j = n
        · rw [e]; exact h2
        · exact firstE_zero h1 j (by omega)
      · rw [if_pos h2] at h
        exact absurd h h2
    · rw [if_pos h1] at h
      exact absurd h h1
def mdAt (l : List Md) (i : Nat) : Md := l.getD i ([], [])
theorem mdAt_get {l : List Md} {i : Nat} (h : i < l.length) : l[i]? = some (mdAt l i) := by
  unfold mdAt
  rw [List.getD_eq_getElem?_getD, List.getElem?_eq_getElem h]; rfl
theorem mdAt_mem {l : List Md} {i : Nat} (h : i < l.length) : mdAt l i ∈ l := List.mem_of_getElem? (mdAt_get h)
theorem mdAt_mdF {n : Nat} {P V : Nat → ByteArray} {i : Nat} (h : i < n) : mdAt (mdF n P V) i = ((P i).data.toList, (V i).data.toList) := by
  unfold mdAt
  rw [List.getD_eq_getElem?_getD, mdF_get n P V i h]; rfl
def reqE (p : Str) (l : List Md) (i : Nat) : Nat :=
  if mdErr (mdAt l i) ≠ 0 then mdErr (mdAt l i) else if (mdAt l i).1 = p then 3 else if 0 < i ∧ compareBytes (mdAt l i).1 (mdAt l (i - 1)).1 ≤ 0 then 8 else 0
def excE (l : List Md) (i : Nat) : Nat :=
  if mdErr (mdAt l i) ≠ 0 then mdErr (mdAt l i) else if 0 < i ∧ modAhead (mdAt l (i - 1)) (mdAt l i) = false then 8 else 0
def claE (r x : List Md) (i : Nat) : Nat := if mdAt r i ∈ x then 9 else 0
def orE (a b : Nat × Int) : Nat × Int := if a.1 ≠ 0 then a else b
def fileErr (f : Fl) : Nat × Int :=
  if pathErr f.path ≠ 0 then (pathErr f.path, -1)
  else if 20 < f.reqs.length ∨ 20 < f.excl.length then (7, -1)
  else orE (firstE (reqE f.path f.reqs) f.reqs.length) (orE (firstE (excE f.excl) f.excl.length) (firstE (claE f.reqs f.excl) f.reqs.length))
theorem orE_zero {a b : Nat × Int} : (orE a b).1 = 0 ↔ a.1 = 0 ∧ b.1 = 0 := by
  unfold orE
  by_cases h : a.1 = 0
  · rw [if_neg (by simp [h])]; simp [h]
  · rw [if_pos h]; simp [h]
structure Right (f : Fl) : Prop where
  path : pathErr f.path = 0
  reqs : f.reqs.length ≤ 20
  excl : f.excl.length ≤ 20
  req : ∀ i, i < f.reqs.length → reqE f.path f.reqs i = 0
  exc : ∀ i, i < f.excl.length → excE f.excl i = 0
  cla : ∀ i, i < f.reqs.length → claE f.reqs f.excl i = 0
theorem right_of {f : Fl} (h : (fileErr f).1 = 0) : Right f := by
  unfold fileErr at h
  by_cases h1 : pathErr f.path = 0
  · rw [if_neg (by simp [h1])] at h
    by_cases h2 : 20 < f.reqs.length ∨ 20 < f.excl.length
    · rw [if_pos h2] at h; cases h
    · rw [if_neg h2, orE_zero, orE_zero] at h
      exact ⟨h1, by omega, by omega, firstE_zero h.1, firstE_zero h.2.1, firstE_zero h.2.2⟩
  · rw [if_pos h1] at h
    exact absurd h h1
theorem of_right {f : Fl} (h : Right f) : fileErr f = (0, -1) := by
  unfold fileErr
  rw [if_neg (by simp [h.path]), if_neg (by have := h.reqs; have := h.excl; omega), firstE_none h.req, firstE_none h.exc, firstE_none h.cla]
  rfl
theorem Right.mem {f : Fl} (h : Right f) : (∀ m ∈ f.reqs, mdErr m = 0) ∧ ∀ m ∈ f.excl, mdErr m = 0 := by
  constructor
  · intro m hm
    obtain ⟨i, hi⟩ := List.getElem?_of_mem hm
    have hl := (List.getElem?_eq_some_iff.1 hi).1
    have h1 := h.req i hl
    rw [mdAt_get hl] at hi
    injection hi with hi
    unfold reqE at h1
    rw [hi] at h1
    by_cases h2 : mdErr m = 0
    · exact h2
    · rw [if_pos h2] at h1; exact h1
  · intro m hm
    obtain ⟨i, hi⟩ := List.getElem?_of_mem hm
    have hl := (List.getElem?_eq_some_iff.1 hi).1
    have h1 := h.exc i hl
    rw [mdAt_get hl] at hi
    injection hi with hi
    unfold excE at h1
    rw [hi] at h1
    by_cases h2 : mdErr m = 0
    · exact h2
    · rw [if_pos h2] at h1; exact h1
end Go.Proofs.Pw
