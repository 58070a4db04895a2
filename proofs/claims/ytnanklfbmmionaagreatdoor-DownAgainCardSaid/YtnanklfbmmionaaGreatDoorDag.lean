/- Da: walks and plain laws, joined: MvsMath MvsMath2 LeastMath DnMath MarksMath DnBadMath Ent FindOf. Conditions: at each theorem. -/
import Derived.Test.YtnanklfbmmionaaGreatDoorDaf
import Derived.Test.YtnanklfbmmionaaGreatDoorDae

namespace Go.Proofs.Pw
open Go.Lib hiding intOf
def grow1 (out : List Md) (m : Md) : List Md := if out.getLast?.map (·.1) = some m.1 then out.dropLast ++ [m] else out ++ [m]
def greatest (l : List Md) : List Md := l.foldl grow1 []
theorem greatest_snoc (l : List Md) (m : Md) : greatest (l ++ [m]) = grow1 (greatest l) m := by simp [greatest]
def Climbs (l : List Md) : Prop := l.Pairwise fun a b => modCmp a b ≤ 0
theorem climbs_of_rises {l : List Md} (h : Rises modCmp l) : Climbs l := h.imp fun {a b} h => by omega
theorem modCmp_path {a b : Md} (h : modCmp a b ≤ 0) : compareBytes a.1 b.1 < 0 ∨ (a.1 = b.1 ∧ verCmp a.2 b.2 ≤ 0) := by
  unfold modCmp at h
  rw [orI_le] at h
  rcases h with h | ⟨h1, h2⟩
  · exact .inl h
  · exact .inr ⟨compareBytes_zero h1, h2⟩
theorem path_self (p : Str) : ¬ compareBytes p p < 0 := by rw [compareBytes_self]; decide
theorem last_some {α : Type} {l : List α} {y : α} (h : l.getLast? = some y) : ∃ hne : l ≠ [], l.getLast hne = y := by
  have hne : l ≠ [] := fun e => by rw [e] at h; cases h
  rw [List.getLast?_eq_some_getLast hne] at h
  exact ⟨hne, Option.some.inj h⟩
structure Great (l out : List Md) : Prop where
  rise : out.Pairwise fun a b => compareBytes a.1 b.1 < 0
  sub : ∀ m ∈ out, m ∈ l
  over : ∀ m ∈ l, ∃ x ∈ out, x.1 = m.1 ∧ verCmp m.2 x.2 ≤ 0
theorem great_nil : Great [] [] := ⟨by simp, by simp, by simp⟩
theorem great_snoc {l out : List Md} {m : Md} (h : Great l out) (hc : Climbs (l ++ [m])) : Great (l ++ [m]) (grow1 out m) := by
  have hle : ∀ x ∈ l, modCmp x m ≤ 0 := fun x hx => (List.pairwise_append.1 hc).2.2 x hx m (by simp)
  have hself : verCmp m.2 m.2 ≤ 0 := by rw [verCmp_ord.self]; decide
  unfold grow1
  by_cases hl : out.getLast?.map (·.1) = some m.1
  · rw [if_pos hl]
    obtain ⟨y, hy, e⟩ : ∃ y, out.getLast? = some y ∧ y.1 = m.1 := by
      cases h1 : out.getLast? with
      | none => rw [h1] at hl; cases hl
      | some y => rw [h1] at hl; exact ⟨y, rfl, by simpa using hl⟩
    obtain ⟨hne, hlast⟩ := last_some hy
    have hout : out = out.dropLast ++ [y] := by rw [← hlast]; exact (List.dropLast_concat_getLast hne).symm
    have hp := h.rise
    rw [hout, List.pairwise_append] at hp
    refine ⟨?_, fun x hx => ?_, fun x hx => ?_⟩
    · rw [List.pairwise_append]
      refine ⟨hp.1, by simp, fun a ha b hb => ?_⟩
      simp at hb
      subst hb
      rw [← e]
      exact hp.2.2 a ha y (by simp)
    · rcases List.mem_append.1 hx with h1 | h1
      · exact List.mem_append.2 (.inl (h.sub x (List.dropLast_subset _ h1)))
      · exact List.mem_append.2 (.inr h1)
    · rcases List.mem_append.1 hx with h1 | h1
      · obtain ⟨z, hz, e1, e2⟩ := h.over x h1
        rw [hout] at hz
        rcases List.mem_append.1 hz with h2 | h2
        · exact ⟨z, List.mem_append.2 (.inl h2), e1, e2⟩
        · simp at h2
          subst h2
          refine ⟨m, by simp, by rw [← e, e1], ?_⟩
          rcases modCmp_path (hle x h1) with h3 | h3
          · rw [← e1, e] at h3
            exact absurd h3 (path_self _)
          · exact h3.2
      · simp at h1
        subst h1
        exact ⟨x, by simp, rfl, hself⟩
  · rw [if_neg hl]
    have hlt : ∀ a ∈ out, compareBytes a.1 m.1 < 0 := by
      intro a ha
      rcases modCmp_path (hle a (h.sub a ha)) with h1 | ⟨h1, _⟩
      · exact h1
      · exfalso
        obtain ⟨y, hy⟩ : ∃ y, out.getLast? = some y := by
          cases h2 : out.getLast? with
          | none => rw [List.getLast?_eq_none_iff] at h2; subst h2; simp at ha
          | some y => exact ⟨y, rfl⟩
        obtain ⟨hne, hlast⟩ := last_some hy
        have hout : out = out.dropLast ++ [y] := by rw [← hlast]; exact (List.dropLast_concat_getLast hne).symm
        have hym : y.1 ≠ m.1 := fun e => hl (by rw [hy]; simp [e])
        have hyl : y ∈ l := h.sub y (by rw [hout]; simp)
        rw [hout] at ha
        rcases List.mem_append.1 ha with h2 | h2
        · have hp := h.rise
          rw [hout, List.pairwise_append] at hp
          have h3 := hp.2.2 a h2 y (by simp)
          rcases modCmp_path (hle y hyl) with h4 | h4
          · rw [h1] at h3
            have := (compareBytes_ord.anti _ _).1 h3
            omega
          · exact hym h4.1
        · simp at h2
          subst h2
          exact hym h1
    refine ⟨?_, fun x hx => ?_, fun x hx => ?_⟩
    · rw [List.pairwise_append]
      exact ⟨h.rise, by simp, fun a ha b hb => by simp at hb; subst hb; exact hlt a ha⟩
    · rcases List.mem_append.1 hx with h1 | h1
      · exact List.mem_append.2 (.inl (h.sub x h1))
      · exact List.mem_append.2 (.inr h1)
    · rcases List.mem_append.1 hx with h1 | h1
      · obtain ⟨z, hz, e1, e2⟩ := h.over x h1
        exact ⟨z, List.mem_append.2 (.inl hz), e1, e2⟩
      · simp at h1
        subst h1
        exact ⟨x, by simp, rfl, hself⟩
theorem great_fold : ∀ (r l out : List Md), Great l out → Climbs (l ++ r) → Great (l ++ r) (r.foldl grow1 out)
  | [], l, out, h, _ => by simpa using h
  | m :: r, l, out, h, hc => by
    have e : l ++ m :: r = (l ++ [m]) ++ r := by simp
    rw [e] at hc ⊢
    exact great_fold r (l ++ [m]) (grow1 out m) (great_snoc h (List.pairwise_append.1 hc).1) hc
theorem great_of {l : List Md} (h : Climbs l) : Great l (greatest l) := great_fold l [] [] great_nil (by simpa using h)
theorem Great.rises {l out : List Md} (h : Great l out) : Rises modCmp out := h.rise.imp fun {a b} h => by
  unfold modCmp
  rw [orI_lt]
  exact .inl h
theorem Great.one {l out : List Md} (h : Great l out) {a b : Md} (ha : a ∈ out) (hb : b ∈ out) (e : a.1 = b.1) : a = b := RiseP.unique h.rise ha hb e
theorem Great.mem {l out : List Md} (h : Great l out) (hr : ∀ m ∈ l, mdErr m = 0) (m : Md) : m ∈ out ↔ m ∈ l ∧ ∀ x ∈ l, x.1 = m.1 → verCmp x.2 m.2 ≤ 0 := by
  constructor
  · intro hm
    refine ⟨h.sub m hm, fun x hx e => ?_⟩
    obtain ⟨z, hz, e1, e2⟩ := h.over x hx
    rw [h.one hz hm (e1.trans e)] at e2
    exact e2
  · rintro ⟨hm, h1⟩
    obtain ⟨z, hz, e1, e2⟩ := h.over m hm
    have h2 := h1 z (h.sub z hz) e1
    have h3 : verCmp m.2 z.2 = 0 := by
      have := verCmp_ord.anti z.2 m.2
      have := verCmp_ord.anti m.2 z.2
      omega
    have : m = z := modCmp_zero (hr m hm) (hr z (h.sub z hz)) (by unfold modCmp; rw [orI_eq, e1, compareBytes_self]; exact ⟨rfl, h3⟩)
    rw [this]; exact hz
noncomputable def buildL (l : List En) (roots : List Md) : List Md := greatest (reachL l roots)
theorem RightG.great {l : List En} {roots : List Md} (h : RightG l roots) : Great (reachL l roots) (buildL l roots) := great_of (climbs_of_rises (reachL_rises h.idx roots))
def hasB (sel : List Md) (m : Md) : Bool := decide (0 ≤ findI (hasP m.1) sel) && !verLess (mdAt sel (findI (hasP m.1) sel).toNat).2 m.2
def underB (a b : List Md) : Bool := a.all (hasB b)
theorem hasB_iff {sel : List Md} {m : Md} : hasB sel m = true ↔ ∃ k : Nat, findI (hasP m.1) sel = k ∧ verLess (mdAt sel k).2 m.2 = false := by
  unfold hasB
  rw [Bool.and_eq_true, decide_eq_true_iff]
  constructor
  · rintro ⟨h1, h2⟩
    exact ⟨(findI (hasP m.1) sel).toNat, by omega, by simpa using h2⟩
  · rintro ⟨k, h1, h2⟩
    rw [h1]
    exact ⟨by omega, by simpa using h2⟩
theorem hasB_rise {sel : List Md} (h : RiseP sel) {m : Md} : hasB sel m = true ↔ ∃ x ∈ sel, x.1 = m.1 ∧ verLess x.2 m.2 = false := by
  rw [hasB_iff]
  constructor
  · rintro ⟨k, h1, h2⟩
    obtain ⟨x, hx, hp⟩ := findI_spec h1
    have hl := (List.getElem?_eq_some_iff.1 hx).1
    rw [mdAt_get hl] at hx
    rw [Option.some.inj hx] at h2
    exact ⟨x, by rw [← Option.some.inj hx]; exact mdAt_mem hl, of_decide_eq_true hp, h2⟩
  · rintro ⟨x, hx, e, h2⟩
    have h0 : ¬ findI (hasP m.1) sel < 0 := fun hn => by
      have := findI_eq_none.1 hn x hx
      unfold hasP at this
      rw [decide_eq_false_iff_not] at this
      exact this e
    refine ⟨(findI (hasP m.1) sel).toNat, by omega, ?_⟩
    obtain ⟨y, hy, hp⟩ := findI_spec (show findI (hasP m.1) sel = ((findI (hasP m.1) sel).toNat : Nat) by omega)
    have hl := (List.getElem?_eq_some_iff.1 hy).1
    have hym := List.mem_of_getElem? hy
    rw [mdAt_get hl] at hy
    rw [Option.some.inj hy, h.unique hym hx ((of_decide_eq_true hp).trans e.symm)]
    exact h2
end Go.Proofs.Pw

namespace Go.Proofs.Pw
open Go.Lib hiding intOf
theorem verLess_of_le {a b : Str} (h : verCmp b a ≤ 0) : verLess a b = false := by
  unfold verLess
  refine decide_eq_false (fun h1 => ?_)
  have := (verCmp_ord.anti a b).1 h1.2.2
  omega
theorem Great.under {l out : List Md} (h : Great l out) : underB l out = true := by
  unfold underB
  rw [List.all_eq_true]
  intro m hm
  obtain ⟨x, hx, e1, e2⟩ := h.over m hm
  rw [hasB_rise h.rise]
  exact ⟨x, hx, e1, verLess_of_le e2⟩
theorem RightG.sub {l : List En} {A B : List Md} (hB : RightG l B) (h : ∀ m ∈ A, Reached l B m) : RightG l A := ⟨hB.idx, fun m hm => hB.entry (h m hm)⟩
end Go.Proofs.Pw

namespace Go.Proofs.Pw
open Go.Lib hiding intOf
end Go.Proofs.Pw

namespace Go.Proofs.Pw
open Go.Lib hiding intOf
def noneS : Str := [110, 111, 110, 101]
def cap1 (m : Md) : Nat := if pathErr m.1 ≠ 0 then pathErr m.1 else if m.2 = noneS then 0 else verErr m.2
def capE (caps : List Md) (i : Nat) : Nat :=
  if cap1 (mdAt caps i) ≠ 0 then cap1 (mdAt caps i) else if 0 < i ∧ compareBytes (mdAt caps i).1 (mdAt caps (i - 1)).1 ≤ 0 then 8 else 0
def capsErr (caps : List Md) : Nat × Int := firstE (capE caps) caps.length
def aboveB (caps : List Md) (m : Md) : Bool :=
  decide (0 ≤ findI (hasP m.1) caps) &&
    (decide ((mdAt caps (findI (hasP m.1) caps).toNat).2 = noneS) || verLess (mdAt caps (findI (hasP m.1) caps).toNat).2 m.2)
end Go.Proofs.Pw

namespace Go.Proofs.Pw
open Go.Lib hiding intOf
def setM (M : Nat → Bool) (k : Nat) : Nat → Bool := fun j => if j = k then true else M j
theorem setM_same (M : Nat → Bool) (k : Nat) : setM M k k = true := by simp [setM]
theorem setM_of {M : Nat → Bool} {j : Nat} (k : Nat) (h : M j = true) : setM M k j = true := by unfold setM; split <;> simp [*]
theorem setM_true {M : Nat → Bool} {j k : Nat} (h : setM M k j = true) : j = k ∨ M j = true := by
  unfold setM at h
  split at h
  · exact .inl ‹_›
  · exact .inr h
def leftM (n : Nat) (M : Nat → Bool) : Nat := (List.range n).countP fun j => !M j
theorem leftM_le {n : Nat} {M M' : Nat → Bool} (h : ∀ j, M j = true → M' j = true) : leftM n M' ≤ leftM n M :=
  List.countP_mono_left fun j _ hj => by
    cases hM : M j
    · rfl
    · rw [h j hM] at hj; exact hj
theorem leftM_set {n : Nat} {M : Nat → Bool} {k : Nat} (hk : k < n) (h : M k = false) : leftM n (setM M k) < leftM n M := by
  unfold leftM
  induction n with
  | zero => exact absurd hk (Nat.not_lt_zero _)
  | succ n ih =>
    rw [List.range_succ, List.countP_append, List.countP_append]
    by_cases e : k = n
    · subst e
      have h1 : List.countP (fun j => !setM M k j) [k] = 0 := by simp [setM]
      have h2 : List.countP (fun j => !M j) [k] = 1 := by simp [h]
      have h3 := leftM_le (n := k) (M := M) (M' := setM M k) (fun j hj => setM_of k hj)
      unfold leftM at h3
      omega
    · have h1 := ih (by omega)
      have h2 : List.countP (fun j => !setM M k j) [n] = List.countP (fun j => !M j) [n] := by
        have : setM M k n = M n := by unfold setM; rw [if_neg (fun h => e h.symm)]
        simp only [List.countP_cons, List.countP_nil, this]
      rw [h2]
      omega
def SoundM (l : List En) (roots : List Md) (M : Nat → Bool) : Prop := ∀ j, j < l.length → M j = true → Reached l roots (enAt l j).md
def ClosedM (l : List En) (M : Nat → Bool) (i : Nat) : Prop := M i = true → ∀ r ∈ (enAt l i).reqs, M (findE l r).toNat = true
theorem RightI.at_ {l : List En} (_h : RightI l) {m : Md} {e : En} (he : e ∈ l) (hm : e.md = m) : (findE l m).toNat < l.length ∧ findE l m = ((findE l m).toNat : Int) ∧ (enAt l (findE l m).toNat).md = m := by
  have h0 : ¬ findE l m < 0 := fun h => findE_lt.1 h e he hm
  obtain ⟨k, h1, h2, h3⟩ := findE_nat h0
  rw [h1]
  exact ⟨h2, rfl, h3⟩
theorem RightI.place {l : List En} (h : RightI l) {j : Nat} (hj : j < l.length) : findE l (enAt l j).md = (j : Int) := by
  obtain ⟨h1, h2, h3⟩ := h.at_ (enAt_mem hj) rfl
  rw [h2]
  have := rises_inj modCmp_ord (k := (·.md)) h.rise (enAt_mem h1) (enAt_mem hj) h3
  have hnd : ∀ (i k : Nat), i < l.length → k < l.length → i < k → (enAt l i).md ≠ (enAt l k).md := fun i k hi hk hik e => by
    have hp := List.pairwise_iff_getElem.1 h.rise i k (by simpa using hi) (by simpa using hk) hik
    rw [List.getElem_map, List.getElem_map, ← enAt_elem hi, ← enAt_elem hk, e, modCmp_ord.self] at hp
    exact absurd hp (by decide)
  rcases Nat.lt_trichotomy (findE l (enAt l j).md).toNat j with h5 | h5 | h5
  · exact absurd h3 (hnd _ _ h1 hj h5)
  · rw [h5]
  · exact absurd h3.symm (hnd _ _ hj h1 h5)
theorem soundM_root {l : List En} {roots : List Md} {M : Nat → Bool} (hG : RightG l roots) (h : SoundM l roots M) {m : Md} (hm : m ∈ roots) : SoundM l roots (setM M (findE l m).toNat) := fun j hj hM => by
  obtain ⟨e, he, h1⟩ := hG.at_ m hm
  rcases setM_true hM with rfl | h2
  · rw [(hG.idx.at_ he h1).2.2]; exact .root hm
  · exact h j hj h2
theorem soundM_req {l : List En} {roots : List Md} {M : Nat → Bool} (hG : RightG l roots) (h : SoundM l roots M) {i : Nat} (hi : i < l.length) (hM0 : M i = true) {r : Md} (hr : r ∈ (enAt l i).reqs) : SoundM l roots (setM M (findE l r).toNat) := fun j hj hM => by
  obtain ⟨e, he, h1⟩ := hG.idx.all _ (enAt_mem hi) r hr
  rcases setM_true hM with rfl | h2
  · rw [(hG.idx.at_ he h1).2.2]; exact .step (enAt_mem hi) (h i hi hM0) hr
  · exact h j hj h2
theorem marks_done {l : List En} {roots : List Md} {M : Nat → Bool} (hG : RightG l roots) (hs : SoundM l roots M) (hr : ∀ m ∈ roots, M (findE l m).toNat = true) (hc : ∀ i, i < l.length → ClosedM l M i) {j : Nat} (hj : j < l.length) : M j = true ↔ Reached l roots (enAt l j).md := by
  refine ⟨hs j hj, fun h => ?_⟩
  have key : ∀ {m : Md}, Reached l roots m → M (findE l m).toNat = true := by
    intro m hm
    induction hm with
    | root hm => exact hr _ hm
    | step he h1 h2 ih =>
      obtain ⟨i, hi, e⟩ := mem_enAt he
      subst e
      rw [hG.idx.place hi] at ih
      exact hc i hi ih _ h2
  have := key h
  rw [hG.idx.place hj] at this
  exact this
end Go.Proofs.Pw

namespace Go.Proofs.Pw
open Go.Lib hiding intOf
inductive BadP (l : List En) (caps : List Md) : Md → Prop
  | above {e : En} (he : e ∈ l) (h : aboveB caps e.md = true) : BadP l caps e.md
  | req {e : En} {r : Md} (he : e ∈ l) (hr : r ∈ e.reqs) (h : BadP l caps r) : BadP l caps e.md
def SoundB (l : List En) (caps : List Md) (M : Nat → Bool) : Prop := ∀ j, j < l.length → M j = true → BadP l caps (enAt l j).md
def anyB (l : List En) (M : Nat → Bool) (R : List Md) : Bool := R.any fun r => M (findE l r).toNat
def ClosedB (l : List En) (caps : List Md) (M : Nat → Bool) (i : Nat) : Prop := (aboveB caps (enAt l i).md || anyB l M (enAt l i).reqs) = true → M i = true
theorem soundB_set {l : List En} {caps : List Md} {M : Nat → Bool} (hR : RightI l) (h : SoundB l caps M) {i : Nat} (hi : i < l.length) (ht : (aboveB caps (enAt l i).md || anyB l M (enAt l i).reqs) = true) : SoundB l caps (setM M i) := fun j hj hM => by
  rcases setM_true hM with rfl | h2
  · rw [Bool.or_eq_true] at ht
    rcases ht with ht | ht
    · exact .above (enAt_mem hi) ht
    · obtain ⟨r, hr, h3⟩ := List.any_eq_true.1 ht
      obtain ⟨e, he, h1⟩ := hR.all _ (enAt_mem hi) r hr
      obtain ⟨h4, _, h5⟩ := hR.at_ he h1
      have := h _ h4 h3
      rw [h5] at this
      exact .req (enAt_mem hi) hr this
  · exact h j hj h2
theorem bad_done {l : List En} {caps : List Md} {M : Nat → Bool} (hR : RightI l) (hs : SoundB l caps M) (hc : ∀ i, i < l.length → ClosedB l caps M i) {j : Nat} (hj : j < l.length) : M j = true ↔ BadP l caps (enAt l j).md := by
  refine ⟨hs j hj, fun h => ?_⟩
  have key : ∀ {m : Md}, BadP l caps m → M (findE l m).toNat = true := by
    intro m hm
    induction hm with
    | above he h =>
      obtain ⟨i, hi, e⟩ := mem_enAt he
      subst e
      rw [hR.place hi]
      exact hc i hi (by rw [h, Bool.true_or])
    | req he hr h ih =>
      obtain ⟨i, hi, e⟩ := mem_enAt he
      subst e
      rw [hR.place hi]
      exact hc i hi (by rw [Bool.or_eq_true]; exact .inr (List.any_eq_true.2 ⟨_, hr, ih⟩))
  have := key h
  rw [hR.place hj] at this
  exact this
theorem badP_reached {l : List En} {caps : List Md} {e : En} (_he : e ∈ l) : BadP l caps e.md ↔ ∃ f ∈ l, Reached l [e.md] f.md ∧ aboveB caps f.md = true := by
  constructor
  · have key : ∀ {m : Md}, BadP l caps m → ∃ f ∈ l, Reached l [m] f.md ∧ aboveB caps f.md = true := by
      intro m h
      induction h with
      | @above e he h => exact ⟨e, he, .root (by simp), h⟩
      | @req e r he hr h ih =>
        obtain ⟨f, hf, h1, h2⟩ := ih
        refine ⟨f, hf, ?_, h2⟩
        have h3 : ∀ {x : Md}, Reached l [r] x → Reached l [e.md] x := by
          intro x hx
          induction hx with
          | root hx =>
            rw [List.mem_singleton] at hx
            subst hx
            exact .step he (.root (by simp)) hr
          | step h4 h5 h6 ih => exact .step h4 ih h6
        exact h3 h1
    exact key
  · rintro ⟨f, hf, h1, h2⟩
    have key : ∀ {x : Md}, Reached l [e.md] x → BadP l caps x → BadP l caps e.md := by
      intro x hx
      induction hx with
      | root hx => rw [List.mem_singleton] at hx; subst hx; exact id
      | step h4 h5 h6 ih => exact fun h => ih (.req h4 h6 h)
    exact key h1 (.above hf h2)
def badErr (l : List En) (caps : List Md) : Nat × Int := orE (idxErr l) (capsErr caps)
end Go.Proofs.Pw

namespace Go.Proofs.Pw
open Go.RowKit
open Go.Lib hiding intOf
structure EntC (w : World) (b o : Nat) (p v : ByteArray) (rv kv : Value) (bk : Bool) : Prop where
  c0 : w.cell? ⟨b, o, none⟩ = some (.string p)
  c1 : w.cell? ⟨b, o + 1, none⟩ = some (.string v)
  c2 : w.cell? ⟨b, o + 2, none⟩ = some rv
  c3 : w.cell? ⟨b, o + 3, none⟩ = some kv
  c4 : w.cell? ⟨b, o + 4, none⟩ = some (.bool bk)
theorem EntC.below {w w' : World} {b o : Nat} {p v : ByteArray} {rv kv : Value} {bk : Bool} (h : EntC w b o p v rv kv bk) (hb : Below w.heap.size w w') : EntC w' b o p v rv kv bk :=
  ⟨Below.cell_some hb h.c0, Below.cell_some hb h.c1, Below.cell_some hb h.c2, Below.cell_some hb h.c3, Below.cell_some hb h.c4⟩
structure EntsIn (w : World) (a : Option Addr) (n cap : Nat) (P V : Nat → ByteArray) (R : Nat → List Md) (K : Nat → List Str) (B : Nat → Bool) (Rv Kv : Nat → Value) : Prop where
  le : n ≤ cap
  cap : cap ≤ 9223372036854775807
  at_ : ∀ j, j < n → ∃ b o, a = some ⟨b, o, none⟩ ∧ EntC w b (o + j * 5) (P j) (V j) (Rv j) (Kv j) (B j)
  reqs : ∀ j, j < n → ModsAt w (Rv j) (R j)
  packs : ∀ j, j < n → StrsAt w (Kv j) (K j)
theorem EntsIn.below {w w' : World} {a n cap P V R K B Rv Kv} (h : EntsIn w a n cap P V R K B Rv Kv) (hb : Below w.heap.size w w') : EntsIn w' a n cap P V R K B Rv Kv :=
  ⟨h.le, h.cap, fun j hj => let ⟨b, o, e, c⟩ := h.at_ j hj; ⟨b, o, e, c.below hb⟩, fun j hj => (h.reqs j hj).below hb, fun j hj => (h.packs j hj).below hb⟩
def EntsAt (w : World) (v : Value) (l : List En) : Prop :=
  ∃ a n cap P V R K B Rv Kv, v = .slice a n cap ∧ l = enF n P V R K B ∧ EntsIn w a n cap P V R K B Rv Kv
theorem EntsAt.below {w w' : World} {v : Value} {l : List En} (h : EntsAt w v l) (hb : Below w.heap.size w w') : EntsAt w' v l := by
  obtain ⟨a, n, cap, P, V, R, K, B, Rv, Kv, h1, h2, h3⟩ := h
  exact ⟨a, n, cap, P, V, R, K, B, Rv, Kv, h1, h2, h3.below hb⟩
theorem EntsAt.nil (w : World) : EntsAt w (.slice none 0 0) [] :=
  ⟨none, 0, 0, fun _ => ByteArray.empty, fun _ => ByteArray.empty, fun _ => [], fun _ => [], fun _ => false, fun _ => .slice none 0 0, fun _ => .slice none 0 0, rfl, rfl, Nat.le_refl _, by decide, fun j hj => absurd hj (Nat.not_lt_zero _), fun j hj => absurd hj (Nat.not_lt_zero _), fun j hj => absurd hj (Nat.not_lt_zero _)⟩
structure ShortI (l : List En) : Prop where
  len : l.length ≤ 1000000
  mds : ∀ e ∈ l, e.md.1.length ≤ 1000000 ∧ e.md.2.length ≤ 1000000
  reqs : ∀ e ∈ l, Short e.reqs
  packs : ∀ e ∈ l, e.packs.length ≤ 1000000 ∧ ∀ s ∈ e.packs, s.length ≤ 1000000
theorem ShortI.at_ {n : Nat} {P V : Nat → ByteArray} {R : Nat → List Md} {K : Nat → List Str} {B : Nat → Bool} (h : ShortI (enF n P V R K B)) {j : Nat} (hj : j < n) :
    n ≤ 1000000 ∧ (P j).size ≤ 1000000 ∧ (V j).size ≤ 1000000 ∧ Short (R j) ∧ (K j).length ≤ 1000000 ∧ ∀ s ∈ K j, s.length ≤ 1000000 := by
  have hm := List.mem_of_getElem? (enF_get n P V R K B j hj)
  have h1 := h.len
  rw [enF_length] at h1
  refine ⟨h1, ?_, ?_, h.reqs _ hm, (h.packs _ hm).1, (h.packs _ hm).2⟩
  · rw [size_eq]; exact (h.mds _ hm).1
  · rw [size_eq]; exact (h.mds _ hm).2
end Go.Proofs.Pw

namespace Go.Proofs.Pw
open Go.RowKit
open Go.Lib hiding intOf
set_option maxHeartbeats 1000000 in
set_option maxRecDepth 100000 in
theorem findOf_in (a : Option Addr) (n cap : Nat) (P V : Nat → ByteArray) (R : Nat → List Md) (K : Nat → List Str) (B : Nat → Bool) (Rv Kv : Nat → Value) (p v : ByteArray) (w : World) (h : EntsIn w a n cap P V R K B Rv Kv) (hl : n ≤ 1000000) :
    Calls Tryz.prog 35 #[.slice a n cap, .agg #[.string p, .string v]] w fun e w' => e = .returned (.int .i64 (findE (enF n P V R K B) (p.data.toList, v.data.toList))) ∧ Below w.heap.size w w' := by
  have hB := below_alloc w (.cells #[.string p, .string v] 29)
  obtain ⟨z0, z1, _⟩ := box2_alloc w (.string p) (.string v) 29
  have H := Lib.hid (h.below hB)
  have hg := Tryz.md_guard
  clear h
  go_enter Tryz.func35, Tryz.ntmps35
  go_wp2_with fail
  generalize hw1 : w.alloc (.cells #[.string p, .string v] 29) = w1 at *
  clear hw1
  go_loopw [5] (fun i wr => ∃ k : Nat, k ≤ n ∧ i = .int .i64 k ∧ Below w1.heap.size w1 wr ∧ Hid (∀ j, j < k → ((P j).data.toList, (V j).data.toList) ≠ (p.data.toList, v.data.toList))) (fun i _ => n - (intOf i).toNat)
  case atStart => exact ⟨0, Nat.zero_le _, rfl, Below.refl _ _, Lib.hid (fun j hj => absurd hj (Nat.not_lt_zero _))⟩
  case round =>
    obtain ⟨k, hk, rfl, hBk, HA⟩ := hrel
    have hBw := below_step hB hBk
    by_cases hlt : k < n
    · have hkn : (k : Int) < (n : Int) := by omega
      obtain ⟨b1, o1, ea, hcell⟩ := H.out.at_ k hlt
      have c0 := Below.cell_some hBk hcell.c0
      have c1 := Below.cell_some hBk hcell.c1
      have y0 := Below.cell_some hBk z0
      have y1 := Below.cell_some hBk z1
      subst ea
      have he := md_eql (P k) (V k) p v
      by_cases hm : ((P k).data.toList, (V k).data.toList) = (p.data.toList, v.data.toList)
      · have hd : decide (P k = p ∧ V k = v) = true := decide_eq_true (bytes_pair.1 hm)
        simp only [hd] at he
        have HF : Hid (findE (enF n P V R K B) (p.data.toList, v.data.toList) = k) := Lib.hid (findI_hit (enF_get n P V R K B k hlt) (decide_eq_true hm) (fun j y hj hy => by
          rw [enF_get n P V R K B j (by omega)] at hy
          cases hy
          exact decide_eq_false (HA.out j hj)))
        clear hm hcell hd
        go_wp2_with fail
        have kqc0 := fun d os => cell_patch (d := d) (os := os) c0
        have kqc1 := fun d os => cell_patch (d := d) (os := os) c1
        have kqy0 := fun d os => cell_patch (d := d) (os := os) y0
        have kqy1 := fun d os => cell_patch (d := d) (os := os) y1
        refine wp_region_quiet_patch (by kernel_rfl) (by kernel_rfl) ?_
        repeat (go_big_quiet_step (fail))
        refine wpQuiet_nil ?_
        intro _ hw'
        obtain ⟨⟨dq, osq⟩, hw''⟩ := hw'
        subst hw''
        clear kqc0 kqc1 kqy0 kqy1
        have hb := below_patch wr dq osq
        replace hBw := below_step hBw hb
        clear hb
        generalize patch wr dq osq = wq1 at hBw ⊢
        go_wp2_with fail
        go_ret
        rw [HF.out]
        exact ⟨rfl, hBw⟩
      · have hd : decide (P k = p ∧ V k = v) = false := decide_eq_false (fun h => hm (bytes_pair.2 h))
        simp only [hd] at he
        have HN : Hid (∀ j, j < k + 1 → ((P j).data.toList, (V j).data.toList) ≠ (p.data.toList, v.data.toList)) := Lib.hid (fun j hj => by
          by_cases e : j = k
          · subst e; exact hm
          · exact HA.out j (by omega))
        clear hm hcell hd
        go_wp2_with fail
        have kqc0 := fun d os => cell_patch (d := d) (os := os) c0
        have kqc1 := fun d os => cell_patch (d := d) (os := os) c1
        have kqy0 := fun d os => cell_patch (d := d) (os := os) y0
        have kqy1 := fun d os => cell_patch (d := d) (os := os) y1
        refine wp_region_quiet_patch (by kernel_rfl) (by kernel_rfl) ?_
        repeat (go_big_quiet_step (fail))
        refine wpQuiet_nil ?_
        intro _ hw'
        obtain ⟨⟨dq, osq⟩, hw''⟩ := hw'
        subst hw''
        clear kqc0 kqc1 kqy0 kqy1
        have hb := below_patch wr dq osq
        replace hBk := below_step hBk hb
        clear hb
        generalize patch wr dq osq = wq1 at hBk ⊢
        go_wp2_with fail
        go_roundw
        case rel => exact ⟨k + 1, by omega, by go_num, hBk, HN⟩
        case measure => simp [intOf]; omega
    · obtain rfl : n = k := by omega
      have HF : Hid (findE (enF n P V R K B) (p.data.toList, v.data.toList) = -1) := Lib.hid (findI_none (fun j y hy => by
        have hj : j < n := by have := (List.getElem?_eq_some_iff.1 hy).1; rwa [enF_length] at this
        rw [enF_get n P V R K B j hj] at hy
        cases hy
        exact decide_eq_false (HA.out j hj)))
      go_wp2_with fail
      go_ret
      rw [HF.out]
      exact ⟨rfl, hBw⟩
end Go.Proofs.Pw
