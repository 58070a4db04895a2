/- Gq: walks and plain laws, joined: GrWayMath FarMath SlRev GrWay FarOf GrTells. Conditions: at each theorem. -/
import Derived.Test.YtnkcobdgaldkfaaGreatDoorMpd
import Derived.Test.YtnkcobdgaldkfaaGreatDoorMpa
import Derived.Shelf.SlicesQ.Reverse
import Derived.Test.YtnkcobdgaldkfaaGreatDoorMpe
import Derived.Test.YtnkcobdgaldkfaaGreatDoorMpc

/- Plain mathematics of package graph: ways. No program in sight. -/
namespace Go.Proofs.Pw
open Go.Lib hiding intOf

def byS (S : Came) (m : Md) : Md := ((S.find? fun p => decide (p.1 = m)).map (·.2)).getD noMd
def trailS (S : Came) : Nat → Md → List Md
  | 0, _ => []
  | n + 1, m => if m = noMd then [] else m :: trailS S n (byS S m)
def trail (S : Came) (m : Md) : List Md := trailS S (S.length + 1) m
theorem trail_none (S : Came) : trail S noMd = [] := by
  unfold trail
  rw [trailS, if_pos rfl]

theorem byS_at : ∀ {S : Came}, (S.map (·.1)).Nodup → ∀ {p : Md × Md}, p ∈ S → byS S p.1 = p.2
  | [], _, p, h => by simp at h
  | q :: r, h, p, hp => by
    rw [List.map_cons, List.nodup_cons] at h
    unfold byS
    rw [List.find?_cons]
    rcases List.mem_cons.1 hp with rfl | hp
    · simp
    · have hne : ¬ q.1 = p.1 := fun e => h.1 (e ▸ List.mem_map.2 ⟨p, hp, rfl⟩)
      rw [decide_eq_false hne]
      exact byS_at h.2 hp
theorem byS_not {S : Came} {m : Md} (h : m ∉ S.map (·.1)) : byS S m = noMd := by
  unfold byS
  have : S.find? (fun p => decide (p.1 = m)) = none := by
    rw [List.find?_eq_none]
    intro p hp
    simp only [decide_eq_true_eq]
    exact fun e => h (List.mem_map.2 ⟨p, hp, e⟩)
  rw [this]; rfl

/-- from a module back to a root: each is required by the next one -/
inductive Chain (l : List En) (roots : List Md) : List Md → Prop
  | one {m : Md} : m ∈ roots → Chain l roots [m]
  | cons {m p : Md} {t : List Md} : Chain l roots (p :: t) → m ∈ reqsOf l p → Chain l roots (m :: p :: t)

theorem mdErr_none : mdErr noMd ≠ 0 := by decide +kernel
theorem Walked.some {l : List En} {roots : List Md} {S : Came} {i : Nat} (hG : RightG l roots) (h : Walked l roots S i) {m : Md} (hm : m ∈ S.map (·.1)) : m ≠ noMd := fun e => by
  have := hG.right (h.all m hm)
  rw [e] at this
  exact mdErr_none this
theorem Walked.by_at {l : List En} {roots : List Md} {S : Came} {i : Nat} (h : Walked l roots S i) {k : Nat} (hk : k < S.length) :
    (byS S (atS S k) = noMd ∧ atS S k ∈ roots) ∨ ∃ j, j < k ∧ byS S (atS S k) = atS S j ∧ atS S k ∈ reqsOf l (atS S j) := by
  obtain ⟨f, hf⟩ := atS_get hk
  have e := byS_at h.nd (List.mem_of_getElem? hf)
  rw [show byS S (atS S k) = f from e]
  exact h.by_ k _ hf
theorem trailS_at {l : List En} {roots : List Md} {S : Came} {i : Nat} (hG : RightG l roots) (h : Walked l roots S i) : ∀ (k : Nat), k < S.length → ∀ n, k + 2 ≤ n → trailS S n (atS S k) = trailS S (k + 2) (atS S k) := by
  intro k
  induction k using Nat.strongRecOn with
  | _ k ih =>
    intro hk n hn
    have hne := h.some hG (atS_mem hk)
    obtain ⟨n, rfl⟩ : ∃ m, n = m + 1 := ⟨n - 1, by omega⟩
    rw [trailS, if_neg hne, show k + 2 = (k + 1) + 1 from rfl, trailS, if_neg hne]
    rcases h.by_at hk with ⟨e, _⟩ | ⟨j, hj, e, _⟩
    · rw [e]
      obtain ⟨n, rfl⟩ : ∃ m, n = m + 1 := ⟨n - 1, by omega⟩
      rw [trailS, if_pos rfl, trailS, if_pos rfl]
    · rw [e, ih j hj (by omega) n (by omega), ih j hj (by omega) (k + 1) (by omega)]
theorem trail_step {l : List En} {roots : List Md} {S : Came} {i : Nat} (hG : RightG l roots) (h : Walked l roots S i) {k : Nat} (hk : k < S.length) : trail S (atS S k) = atS S k :: trail S (byS S (atS S k)) := by
  have hne := h.some hG (atS_mem hk)
  unfold trail
  rw [trailS, if_neg hne]
  rcases h.by_at hk with ⟨e, _⟩ | ⟨j, hj, e, _⟩
  · rw [e, trailS, if_pos rfl]
    obtain ⟨n, hn⟩ : ∃ m, S.length = m + 1 := ⟨S.length - 1, by omega⟩
    rw [hn, trailS, if_pos rfl]
  · rw [e, trailS_at hG h j (by omega) S.length (by omega), trailS_at hG h j (by omega) (S.length + 1) (by omega)]
theorem trail_chain {l : List En} {roots : List Md} {S : Came} {i : Nat} (hG : RightG l roots) (h : Walked l roots S i) : ∀ (k : Nat), k < S.length → Chain l roots (trail S (atS S k)) ∧ (trail S (atS S k)).Nodup ∧ ∀ x ∈ trail S (atS S k), ∃ j, j ≤ k ∧ x = atS S j := by
  intro k
  induction k using Nat.strongRecOn with
  | _ k ih =>
    intro hk
    rw [trail_step hG h hk]
    rcases h.by_at hk with ⟨e, hr⟩ | ⟨j, hj, e, hr⟩
    · rw [e, trail_none]
      exact ⟨.one hr, by simp, fun x hx => ⟨k, Nat.le_refl _, by simpa using hx⟩⟩
    · rw [e]
      obtain ⟨h1, h2, h3⟩ := ih j hj (by omega)
      have hs := trail_step hG h (show j < S.length by omega)
      refine ⟨?_, ?_, fun x hx => ?_⟩
      · rw [hs] at h1 ⊢
        exact .cons h1 hr
      · rw [List.nodup_cons]
        refine ⟨fun hm => ?_, h2⟩
        obtain ⟨q, hq, e2⟩ := h3 _ hm
        obtain ⟨f1, hf1⟩ := atS_get hk
        obtain ⟨f2, hf2⟩ := atS_get (S := S) (i := q) (by omega)
        have g1 : (S.map (·.1))[k]? = some (atS S k) := by rw [List.getElem?_map, hf1]; rfl
        have g2 : (S.map (·.1))[q]? = some (atS S k) := by rw [List.getElem?_map, hf2, e2]; rfl
        have := (List.getElem?_inj (i := k) (j := q) (by simpa using hk) h.nd).1 (g1.trans g2.symm)
        omega
      · rcases List.mem_cons.1 hx with rfl | hx
        · exact ⟨k, Nat.le_refl _, rfl⟩
        · obtain ⟨q, hq, e2⟩ := h3 x hx
          exact ⟨q, by omega, e2⟩
theorem mem_atS {S : Came} {m : Md} (h : m ∈ S.map (·.1)) : ∃ k, k < S.length ∧ atS S k = m := by
  obtain ⟨p, hp, e⟩ := List.mem_map.1 h
  obtain ⟨k, hk⟩ := List.getElem?_of_mem hp
  refine ⟨k, (List.getElem?_eq_some_iff.1 hk).1, ?_⟩
  unfold atS
  rw [List.getD_eq_getElem?_getD, hk]
  exact e
/-- the way to a module: none where it is not reached -/
def wayTo (l : List En) (roots : List Md) (m : Md) : List Md := (trail (walkS l roots) m).reverse
end Go.Proofs.Pw

/- Plain mathematics of graph.Way and B.FarOf: the way that is walked is as short as may be; what layers tell. No program in sight. -/
namespace Go.Proofs.Pw
open Go.Lib hiding intOf

/-- a way of n modules from a root to m -/
inductive Dist (l : List En) (roots : List Md) : Nat → Md → Prop
  | root {m : Md} : m ∈ roots → Dist l roots 1 m
  | step {n : Nat} {p m : Md} : Dist l roots n p → m ∈ reqsOf l p → Dist l roots (n + 1) m
theorem Dist.pos {l : List En} {roots : List Md} {n : Nat} {m : Md} (h : Dist l roots n m) : 0 < n := by
  cases h <;> omega
theorem Dist.one {l : List En} {roots : List Md} {m : Md} (h : Dist l roots 1 m) : m ∈ roots := by
  cases h with
  | root h => exact h
  | step h _ => exact absurd h.pos (Nat.lt_irrefl 0)
theorem Dist.last {l : List En} {roots : List Md} {n : Nat} {m : Md} (h : Dist l roots (n + 1) m) (hn : 0 < n) : ∃ p, Dist l roots n p ∧ m ∈ reqsOf l p := by
  cases h with
  | root h => exact absurd hn (Nat.lt_irrefl 0)
  | step h hr => exact ⟨_, h, hr⟩
theorem Dist.reached {l : List En} {roots : List Md} (hG : RightG l roots) {n : Nat} {m : Md} (h : Dist l roots n m) : Reached l roots m := by
  induction h with
  | root h => exact .root h
  | step _ hr ih =>
    obtain ⟨e, he, e1⟩ := hG.entry ih
    rw [← e1, reqsOf_entry hG.idx he] at hr
    exact .step he (by rw [e1]; exact ih) hr
theorem chain_dist {l : List En} {roots : List Md} : ∀ {t : List Md}, Chain l roots t → ∀ m, t.head? = some m → Dist l roots t.length m
  | _, .one h, m, e => by simp at e; subst e; exact .root h
  | _, .cons hc hr, m, e => by
    simp at e
    subst e
    exact .step (chain_dist hc _ rfl) hr

/-- the walk goes in breadth: who came earlier came by one that came no later -/
structure Broad (l : List En) (roots : List Md) (S : Came) (i : Nat) (q : Nat → Nat) : Prop where
  by_ : ∀ k, k < S.length → ∃ f, S[k]? = some (atS S k, f) ∧ (q k = 0 → f = noMd) ∧ ∀ j, q k = j + 1 → j < k ∧ f = atS S j
  mono : ∀ k k', k ≤ k' → k' < S.length → q k ≤ q k'
  le : ∀ k, k < S.length → q k ≤ i
  start : ∀ m ∈ roots, ∃ k, k < S.length ∧ atS S k = m ∧ q k = 0
  done : ∀ j, j < i → j < S.length → ∀ r ∈ reqsOf l (atS S j), ∃ k, k < S.length ∧ atS S k = r ∧ q k ≤ j + 1
theorem comeAll_none (f : Md) : ∀ (l : List Md) (S : Came) (k : Nat) (p : Md × Md), (comeAll S f l)[k]? = some p → S.length ≤ k → p.2 = f := fun l S k p h hk => by
  rcases comeAll_new f l S k p h with h1 | ⟨_, h2, _⟩
  · have := (List.getElem?_eq_some_iff.1 h1).1; omega
  · exact h2
theorem broad_start {l : List En} {roots : List Md} : Broad l roots (comeAll [] noMd roots) 0 (fun _ => 0) := by
  refine ⟨fun k hk => ?_, fun _ _ _ _ => Nat.le_refl _, fun _ _ => Nat.le_refl _, fun m hm => ?_, fun j hj => absurd hj (Nat.not_lt_zero _)⟩
  · obtain ⟨f, hf⟩ := atS_get hk
    exact ⟨f, hf, fun _ => comeAll_none _ _ _ _ _ hf (Nat.zero_le _), fun j hj => by cases hj⟩
  · obtain ⟨k, hk, e⟩ := mem_atS ((comeAll_mem noMd m roots []).2 (.inr hm))
    exact ⟨k, hk, e, rfl⟩
theorem broad_step {l : List En} {roots : List Md} {S : Came} {i : Nat} {q : Nat → Nat} (h : Broad l roots S i q) (hi : i < S.length) :
    Broad l roots (stepS l S i) (i + 1) (fun k => if k < S.length then q k else i + 1) := by
  have hpre := comeAll_pre (atS S i) (reqsOf l (atS S i)) S
  have hlen : S.length ≤ (stepS l S i).length := hpre.length_le
  have hat : ∀ k, k < S.length → atS (stepS l S i) k = atS S k := fun k hk => atS_pre hpre hk
  refine ⟨fun k hk => ?_, fun k k' hkk hk' => ?_, fun k hk => ?_, fun m hm => ?_, fun j hj hjl r hr => ?_⟩
  · obtain ⟨f, hf⟩ := atS_get hk
    refine ⟨f, hf, ?_⟩
    rcases comeAll_new _ _ _ k _ hf with h1 | ⟨h1, h2, h3⟩
    · have hkS := (List.getElem?_eq_some_iff.1 h1).1
      obtain ⟨f', hf', h4, h5⟩ := h.by_ k hkS
      have e : f = f' := by
        have := h1.symm.trans hf'
        exact (Prod.mk.inj (Option.some.inj this)).2
      subst e
      simp only [if_pos hkS]
      refine ⟨h4, fun j hj => ?_⟩
      obtain ⟨h6, h7⟩ := h5 j hj
      exact ⟨h6, by rw [hat j (by omega)]; exact h7⟩
    · simp only [if_neg (Nat.not_lt.2 h1)]
      refine ⟨fun h => by omega, fun j hj => ?_⟩
      have e : j = i := by omega
      subst e
      exact ⟨by omega, by rw [hat j hi]; exact h2⟩
  · by_cases h1 : k' < S.length
    · simp only [if_pos h1, if_pos (show k < S.length by omega)]
      exact h.mono k k' hkk h1
    · simp only [if_neg h1]
      by_cases h2 : k < S.length
      · simp only [if_pos h2]
        exact Nat.le_succ_of_le (h.le k h2)
      · simp only [if_neg h2]
        exact Nat.le_refl _
  · by_cases h1 : k < S.length
    · simp only [if_pos h1]
      exact Nat.le_succ_of_le (h.le k h1)
    · simp only [if_neg h1]
      exact Nat.le_refl _
  · obtain ⟨k, hk, e, hq⟩ := h.start m hm
    exact ⟨k, by omega, by rw [hat k hk]; exact e, by simp only [if_pos hk]; exact hq⟩
  · have hjS : j < S.length := by omega
    rw [hat j hjS] at hr
    by_cases e : j = i
    · subst e
      obtain ⟨k, hk, e2⟩ := mem_atS ((comeAll_mem (atS S j) r (reqsOf l (atS S j)) S).2 (.inr hr))
      refine ⟨k, hk, e2, ?_⟩
      by_cases h1 : k < S.length
      · simp only [if_pos h1]
        exact Nat.le_succ_of_le (h.le k h1)
      · simp only [if_neg h1]
        exact Nat.le_refl _
    · obtain ⟨k, hk, e2, hq⟩ := h.done j (by omega) hjS r hr
      exact ⟨k, by omega, by rw [hat k hk]; exact e2, by simp only [if_pos hk]; exact hq⟩
theorem runS_broad {l : List En} {roots : List Md} (hG : RightG l roots) : ∀ (n : Nat) {S : Came} {i : Nat} {q : Nat → Nat}, Broad l roots S i q → Walked l roots S i → l.length ≤ n + i → ∃ q', Broad l roots (runS l n S i) (runS l n S i).length q'
  | 0, S, i, q, h, hW, hn => by
    have hl := hW.len hG
    show ∃ q', Broad l roots S S.length q'
    refine ⟨q, h.by_, h.mono, fun k hk => ?_, h.start, fun j _ hj => h.done j (by omega) hj⟩
    obtain ⟨f, _, _, h2⟩ := h.by_ k hk
    have : k < S.length := hk
    cases hq : q k with
    | zero => omega
    | succ j => have := (h2 j hq).1; omega
  | n + 1, S, i, q, h, hW, hn => by
    rw [runS]
    by_cases hi : i < S.length
    · rw [if_pos hi]
      exact runS_broad hG n (broad_step h hi) (walked_step hG hW hi) (by omega)
    · rw [if_neg hi]
      refine ⟨q, h.by_, h.mono, fun k hk => ?_, h.start, fun j hj hjl => h.done j (by omega) hjl⟩
      obtain ⟨f, _, _, h2⟩ := h.by_ k hk
      cases hq : q k with
      | zero => omega
      | succ j => have := (h2 j hq).1; omega
theorem walkS_broad {l : List En} {roots : List Md} (hG : RightG l roots) : ∃ q, Broad l roots (walkS l roots) (walkS l roots).length q := runS_broad hG _ broad_start walked_start (by omega)
theorem broad_len {l : List En} {roots : List Md} {S : Came} {i i' : Nat} {q : Nat → Nat} (hG : RightG l roots) (h : Broad l roots S i q) (hW : Walked l roots S i') {k : Nat} (hk : k < S.length) :
    (q k = 0 → (trail S (atS S k)).length = 1) ∧ ∀ j, q k = j + 1 → j < k ∧ (trail S (atS S k)).length = (trail S (atS S j)).length + 1 := by
  obtain ⟨f, hf, h1, h2⟩ := h.by_ k hk
  have e : byS S (atS S k) = f := byS_at hW.nd (List.mem_of_getElem? hf)
  rw [trail_step hG hW hk, e]
  refine ⟨fun hq => ?_, fun j hj => ?_⟩
  · rw [h1 hq, trail_none]; rfl
  · obtain ⟨h3, h4⟩ := h2 j hj
    rw [h4]
    exact ⟨h3, rfl⟩
theorem broad_mono {l : List En} {roots : List Md} {S : Came} {i i' : Nat} {q : Nat → Nat} (hG : RightG l roots) (h : Broad l roots S i q) (hW : Walked l roots S i') : ∀ (k' : Nat), k' < S.length → ∀ k, k ≤ k' → (trail S (atS S k)).length ≤ (trail S (atS S k')).length := by
  intro k'
  induction k' using Nat.strongRecOn with
  | _ k' ih =>
    intro hk' k hk
    have hm := h.mono k k' hk hk'
    obtain ⟨a1, a2⟩ := broad_len hG h hW (show k < S.length by omega)
    obtain ⟨b1, b2⟩ := broad_len hG h hW hk'
    cases hq : q k with
    | zero =>
      rw [a1 hq]
      cases hq' : q k' with
      | zero => rw [b1 hq']; exact Nat.le_refl _
      | succ j' => have := (b2 j' hq').2; omega
    | succ j =>
      cases hq' : q k' with
      | zero => omega
      | succ j' =>
        obtain ⟨_, e1⟩ := a2 j hq
        obtain ⟨h3, e2⟩ := b2 j' hq'
        have := ih j' h3 (by omega) j (by omega)
        omega
theorem broad_min {l : List En} {roots : List Md} {S : Came} {i' : Nat} {q : Nat → Nat} (hG : RightG l roots) (h : Broad l roots S S.length q) (hW : Walked l roots S i') {n : Nat} {m : Md} (hd : Dist l roots n m) : ∃ k, k < S.length ∧ atS S k = m ∧ (trail S m).length ≤ n := by
  induction hd with
  | root hm =>
    obtain ⟨k, hk, e, hq⟩ := h.start _ hm
    refine ⟨k, hk, e, ?_⟩
    rw [← e, (broad_len hG h hW hk).1 hq]
    exact Nat.le_refl _
  | step _ hr ih =>
    obtain ⟨j, hj, e, hl⟩ := ih
    rw [← e] at hr hl
    obtain ⟨k, hk, e2, hq⟩ := h.done j hj hj _ hr
    refine ⟨k, hk, e2, ?_⟩
    rw [← e2]
    obtain ⟨a1, a2⟩ := broad_len hG h hW hk
    cases hq' : q k with
    | zero => have := a1 hq'; omega
    | succ j' =>
      obtain ⟨_, e3⟩ := a2 j' hq'
      have := broad_mono hG h hW j hj j' (by omega)
      omega
/-- the way's length is the least -/
theorem way_min {l : List En} {roots : List Md} (hG : RightG l roots) {n : Nat} {m : Md} (hd : Dist l roots n m) : m ∈ (walkS l roots).map (·.1) ∧ (wayTo l roots m).length ≤ n := by
  obtain ⟨q, hq⟩ := walkS_broad hG
  obtain ⟨k, hk, e, hl⟩ := broad_min hG hq (walkS_walked hG) hd
  refine ⟨by rw [← e]; exact atS_mem hk, ?_⟩
  unfold wayTo
  rw [List.length_reverse]
  exact hl
theorem way_dist {l : List En} {roots : List Md} (hG : RightG l roots) {m : Md} (hm : m ∈ (walkS l roots).map (·.1)) : Dist l roots (wayTo l roots m).length m := by
  have hW := walkS_walked hG
  obtain ⟨k, hk, e⟩ := mem_atS hm
  obtain ⟨h1, _, _⟩ := trail_chain hG hW k hk
  unfold wayTo
  rw [List.length_reverse, ← e]
  refine chain_dist h1 _ ?_
  rw [trail_step hG hW hk]; rfl
theorem way_short {l : List En} {roots : List Md} (hG : RightG l roots) {m : Md} (hm : m ∈ (walkS l roots).map (·.1)) : (wayTo l roots m).length ≤ l.length := by
  have hW := walkS_walked hG
  obtain ⟨k, hk, e⟩ := mem_atS hm
  obtain ⟨_, h2, h3⟩ := trail_chain hG hW k hk
  unfold wayTo
  rw [List.length_reverse, ← e]
  have h1 := nodup_len _ ((walkS l roots).map (·.1)) h2 (fun x hx => by
    obtain ⟨j, hj, e2⟩ := h3 x hx
    rw [e2]; exact atS_mem (by omega))
  rw [List.length_map] at h1
  exact Nat.le_trans h1 (hW.len hG)

/-! ### layers -/
def setN (F : Nat → Nat) (k v : Nat) : Nat → Nat := fun j => if j = k then v else F j
theorem setN_same (F : Nat → Nat) (k v : Nat) : setN F k v k = v := by simp [setN]
theorem setN_other (F : Nat → Nat) {k j : Nat} (v : Nat) (h : j ≠ k) : setN F k v j = F j := by simp [setN, h]
theorem setN_pos {F : Nat → Nat} {k j v : Nat} (hv : v ≠ 0) (h : F j ≠ 0) : setN F k v j ≠ 0 := by unfold setN; split <;> assumption
/-- what is known within a round: who has a number has the least; who has none has no way of n or less -/
structure FarS (l : List En) (roots : List Md) (n : Nat) (F : Nat → Nat) : Prop where
  sound : ∀ j, j < l.length → F j ≠ 0 → Dist l roots (F j) (enAt l j).md
  least : ∀ j, j < l.length → F j ≠ 0 → ∀ n', Dist l roots n' (enAt l j).md → F j ≤ n'
  zero : ∀ j, j < l.length → F j = 0 → ∀ n', n' ≤ n → ¬ Dist l roots n' (enAt l j).md
/-- a place whose number is n: all that it requires has one -/
def DoneN (l : List En) (n : Nat) (F : Nat → Nat) (i : Nat) : Prop := F i = n → ∀ r ∈ (enAt l i).reqs, F (findE l r).toNat ≠ 0
theorem reqs_place {l : List En} (h : RightI l) {i : Nat} (hi : i < l.length) : reqsOf l (enAt l i).md = (enAt l i).reqs := by
  unfold reqsOf
  rw [h.place hi]
  rfl
theorem farS_set {l : List En} {roots : List Md} (hG : RightG l roots) {n : Nat} {F : Nat → Nat} (h : FarS l roots n F) {i : Nat} (hi : i < l.length) (hn : 0 < n) (hFi : F i = n) {r : Md} (hr : r ∈ (enAt l i).reqs) (h0 : F (findE l r).toNat = 0) : FarS l roots n (setN F (findE l r).toNat (n + 1)) := by
  obtain ⟨e, he, h1⟩ := hG.idx.all _ (enAt_mem hi) r hr
  obtain ⟨x1, x2, x3⟩ := hG.idx.at_ he h1
  generalize (findE l r).toNat = x at *
  refine ⟨fun j hj hF => ?_, fun j hj hF n' hd => ?_, fun j hj hF => ?_⟩
  · by_cases e : j = x
    · subst e
      rw [setN_same, x3]
      have := h.sound i hi (by omega)
      rw [hFi] at this
      exact .step this (by rw [reqs_place hG.idx hi]; exact hr)
    · rw [setN_other _ _ e] at hF ⊢
      exact h.sound j hj hF
  · by_cases e : j = x
    · subst e
      rw [setN_same]
      exact Nat.lt_of_not_le fun hle => h.zero j hj h0 n' hle hd
    · rw [setN_other _ _ e] at hF ⊢
      exact h.least j hj hF n' hd
  · by_cases e : j = x
    · subst e; rw [setN_same] at hF; cases hF
    · rw [setN_other _ _ e] at hF
      exact h.zero j hj hF
theorem doneN_set {l : List En} {n : Nat} {F : Nat → Nat} {i x : Nat} (h : DoneN l n F i) (h0 : F x = 0) : DoneN l n (setN F x (n + 1)) i := fun hF r hr => by
  by_cases e : i = x
  · subst e; rw [setN_same] at hF; omega
  · rw [setN_other _ _ e] at hF
    exact setN_pos (Nat.succ_ne_zero n) (h hF r hr)
theorem farS_next {l : List En} {roots : List Md} (hG : RightG l roots) {n : Nat} (hn : 0 < n) {F : Nat → Nat} (h : FarS l roots n F) (hD : ∀ i, i < l.length → DoneN l n F i) : FarS l roots (n + 1) F := by
  refine ⟨h.sound, h.least, fun j hj hF n' hn' hd => ?_⟩
  by_cases e : n' = n + 1
  · subst e
    obtain ⟨p, hp, hr⟩ := hd.last hn
    obtain ⟨e, he, e1⟩ := hG.entry (hp.reached hG)
    obtain ⟨i, hi, e2⟩ := mem_enAt he
    subst e2
    rw [← e1] at hp hr
    have hFi : F i ≠ 0 := fun h0 => h.zero i hi h0 n (Nat.le_refl _) hp
    have hle := h.least i hi hFi n hp
    by_cases hlt : F i < n
    · exact h.zero j hj hF (F i + 1) (by omega) (.step (h.sound i hi hFi) hr)
    · rw [reqs_place hG.idx hi] at hr
      have := hD i hi (by omega) _ hr
      rw [hG.idx.place hj] at this
      exact this hF
  · exact h.zero j hj hF n' (by omega) hd
/-- roots have 1 -/
structure FarR (l : List En) (roots : List Md) (F : Nat → Nat) : Prop where
  sound : ∀ j, j < l.length → F j ≠ 0 → F j = 1 ∧ (enAt l j).md ∈ roots
theorem farR_none (l : List En) (roots : List Md) : FarR l roots (fun _ => 0) := ⟨fun _ _ h => absurd rfl h⟩
theorem farR_set {l : List En} {roots : List Md} (hG : RightG l roots) {F : Nat → Nat} (h : FarR l roots F) {m : Md} (hm : m ∈ roots) : FarR l roots (setN F (findE l m).toNat 1) := ⟨fun j hj hF => by
  obtain ⟨e, he, h1⟩ := hG.at_ m hm
  obtain ⟨x1, x2, x3⟩ := hG.idx.at_ he h1
  generalize (findE l m).toNat = x at *
  by_cases e : j = x
  · subst e
    rw [setN_same, x3]
    exact ⟨rfl, hm⟩
  · rw [setN_other _ _ e] at hF ⊢
    exact h.sound j hj hF⟩
theorem farS_start {l : List En} {roots : List Md} (hG : RightG l roots) {F : Nat → Nat} (h : FarR l roots F) (hr : ∀ m ∈ roots, F (findE l m).toNat ≠ 0) : FarS l roots 1 F := by
  refine ⟨fun j hj hF => ?_, fun j hj hF n' hd => ?_, fun j hj hF n' hn' hd => ?_⟩
  · obtain ⟨h1, h2⟩ := h.sound j hj hF
    rw [h1]; exact .root h2
  · rw [(h.sound j hj hF).1]; exact hd.pos
  · have hp := hd.pos
    have e : n' = 1 := by omega
    subst e
    have h1 := hr _ hd.one
    rw [hG.idx.place hj] at h1
    exact h1 hF
/-- what the layers tell at the end -/
theorem far_end {l : List En} {roots : List Md} (hG : RightG l roots) {F : Nat → Nat} (h : FarS l roots (l.length + 1) F) {j : Nat} (hj : j < l.length) : ((enAt l j).md ∈ (walkS l roots).map (·.1) ↔ F j ≠ 0) ∧ (F j ≠ 0 → F j = (wayTo l roots (enAt l j).md).length) := by
  have h1 : F j ≠ 0 → (enAt l j).md ∈ (walkS l roots).map (·.1) := fun hF => (way_min hG (h.sound j hj hF)).1
  refine ⟨⟨fun hm hF => ?_, h1⟩, fun hF => ?_⟩
  · exact h.zero j hj hF _ (Nat.le_succ_of_le (way_short hG hm)) (way_dist hG hm)
  · have h2 := (way_min hG (h.sound j hj hF)).2
    have h3 := h.least j hj hF _ (way_dist hG (h1 hF))
    omega
end Go.Proofs.Pw

/- slices.Reverse at modules: the kit's contract laid by hand at this program's numbers. -/
namespace Go.Proofs.Pw
open Go.RowKit
open Go.Proofs Go.Sort
open Go.Lib hiding intOf

def laysRevR : Go.Shelf.Ren := ⟨fun | 35 => 74 | n => n,
  fun | 0 => 0 | 3 => 3 | 4 => 4 | 22 => 23 | 23 => 38 | n => n, fun n => n⟩
theorem laysRev : Go.Proofs.SlLaysE0.n35 Tryz.prog laysRevR := {
  mixed := by kernel_rfl
  f35 := ⟨Tryz.f74.name, by decide, Tryz.func74.trans (congrArg some (by kernel_rfl))⟩
  t0 := Tryz.underlying0
  a0 := Tryz.isAgg0
  z0 := Tryz.sizeOf0
  v0 := Tryz.zeroValue0
  t3 := Tryz.underlying3
  a3 := Tryz.isAgg3
  z3 := Tryz.sizeOf3
  v3 := Tryz.zeroValue3
  t4 := Tryz.underlying4
  a4 := Tryz.isAgg4
  z4 := Tryz.sizeOf4
  v4 := Tryz.zeroValue4
  t22 := Tryz.underlying23
  a22 := Tryz.isAgg23
  z22 := Tryz.sizeOf23
  v22 := Tryz.zeroValue23 }

set_option maxRecDepth 100000 in
theorem revM_calls (w0 w : World) (base : Nat) (x : Value) (L : List (ByteArray × ByteArray)) (hB : Below w0.heap.size w0 w) (hb : w0.heap.size ≤ base) (ho : w.ownsRow base 38 2 x L.length (mdVs L)) (hL : ∀ m ∈ L, OkM m) (hsz : L.length ≤ 1000000) :
    Calls Tryz.prog 74 #[x] w fun e w' => e = .returned (.tuple #[]) ∧ ModsAt w' x (mdTs L).reverse ∧ Below w0.heap.size w0 w' := by
  rcases ho.2 with ⟨rfl, h0⟩ | ⟨g, cap, cur, rfl, hbg, hg, hn, hm, hcs, ht⟩
  · have : L = [] := List.eq_nil_of_length_eq_zero h0
    subst this
    clear ho
    go_enter Tryz.func74, Tryz.ntmps74
    go_wp2_with fail
    refine wp_loop_rounds 1 ?_
    rw [rounds_succ]
    go_wp2_with fail
    go_end0
    exact ⟨rfl, ModsAt.nil _, hB⟩
  · obtain ⟨m, hd⟩ := map_subM L hL
    have hd' : (m.toArray).toList.map (·.1) = L := by simpa using hd
    have hH := holds_own (d := m.toArray) hd' ho
    have hms : m.toArray.size = L.length := by rw [← hd]; simp
    have hgw : g < w.heap.size := (Array.getElem?_eq_some_iff.1 hg).1
    have h := AnyQ.slices_Reverse laysRev 2 Tryz.isAgg38 Tryz.sizeOf38 encRM encRM_len encRM_one g 0 cap m.toArray w hH (by omega)
    rw [hms] at h
    refine h.mono ?_
    rintro e w' ⟨rfl, n, rfl⟩
    have hH2 : HoldsK encRM 2 (putRowK encRM 2 (Sort.ahead w n) g 0 m.toArray.reverse) g 0 m.toArray.reverse := holdsK_putRowK encRM 2 _ g 0 m.toArray _ hH (by simp)
    refine ⟨rfl, ?_, ?_⟩
    · have := modsAt_holds (cap := cap) hH2 (by simp at hms ⊢; omega) (by unfold maxLen at hm; exact hm)
      have e2 : m.toArray.reverse.toList.map tRM = (mdTs L).reverse := by
        rw [← hd]
        unfold mdTs
        simp [tRM]
      rw [e2, Array.size_reverse, hms] at this
      exact this
    · have h3 := below_sortWK hB (Nat.le_refl _) (show w0.heap.size ≤ g by omega) 0 n m.toArray.reverse #[]
      have : sortWorldK encRM 2 w g 0 n m.toArray.reverse #[] = putRowK encRM 2 (Sort.ahead w n) g 0 m.toArray.reverse := by simp [sortWorldK, grow]
      rw [this] at h3
      exact h3
end Go.Proofs.Pw

/- graph.Way. Conditions: texts of at most 1000000 bytes, lists of at most 1000000. -/
namespace Go.Proofs.Pw
open Go.RowKit
open Go.Lib hiding intOf

/-! ### no program in sight -/
theorem byS_map {S : List (MB × MB)} {k : MB} : byS (cameOf S) (mbT k) = mbT ((mapF S k).getD noMB) := by
  unfold byS mapF cameOf
  induction S with
  | nil => rfl
  | cons p S ih =>
    rw [List.map_cons, List.find?_cons, List.find?_cons]
    by_cases h : k = p.1
    · subst h
      simp
    · have h2 : ¬ (mbT p.1 = mbT k) := fun e => h (mbT_inj.1 e).symm
      simp only [decide_eq_false h, decide_eq_false h2]
      exact ih
def wayErr (l : List En) (roots : List Md) (m : Md) : Nat × Int := if (startErr l roots).1 ≠ 0 then startErr l roots else if m ∈ (walkS l roots).map (·.1) then (0, -1) else (5, -1)
def wayR (l : List En) (roots : List Md) (m : Md) : List Md := if (startErr l roots).1 = 0 ∧ m ∈ (walkS l roots).map (·.1) then wayTo l roots m else []
/-- what the loop holds: the module, ahead of which the way stands -/
theorem trail_at {l : List En} {roots : List Md} {S : List (MB × MB)} (hG : RightG l roots) (hW : Walked l roots (cameOf S) (cameOf S).length) {c : MB} (hc : c ∈ S.map (·.1)) :
    c ≠ noMB ∧ trail (cameOf S) (mbT c) = mbT c :: trail (cameOf S) (mbT ((mapF S c).getD noMB)) ∧ ((mapF S c).getD noMB = noMB ∨ (mapF S c).getD noMB ∈ S.map (·.1)) := by
  have hm := cameOf_mem.2 hc
  obtain ⟨k, hk, e⟩ := mem_atS hm
  have h1 := trail_step hG hW hk
  rw [e, byS_map] at h1
  refine ⟨fun h => hW.some hG hm (by rw [h]; rfl), h1, ?_⟩
  obtain ⟨f, hf⟩ := atS_get hk
  rw [e] at hf
  have h2 : byS (cameOf S) (mbT c) = f := byS_at hW.nd (List.mem_of_getElem? hf)
  rw [byS_map] at h2
  rcases hW.by_ k _ hf with ⟨h3, _⟩ | ⟨j, hj, h3, _⟩
  · left
    apply mbT_inj.1
    rw [h2]; exact h3
  · right
    have hjl : j < (cameOf S).length := by omega
    have : f ∈ (cameOf S).map (·.1) := by
      show f ∈ _
      have h4 : f = atS (cameOf S) j := h3
      rw [h4]; exact atS_mem hjl
    rw [← h2] at this
    exact cameOf_mem.1 this
theorem MapIs.setAny {w : World} {b c k : Nat} {S : List (MB × MB)} (h : MapIs w b S) (hc : b ≠ c) (u : Value) : MapIs (w.setCell ⟨c, k, none⟩ u) b S := by
  obtain ⟨es, clock, h1, he⟩ := h
  exact ⟨es, clock, (Go.Deep.blk_setCell_other _ _ _ _ hc).trans h1, he⟩
def lenWay (v : Value) : Nat := match v with | .slice _ n _ => n | _ => 0

set_option maxHeartbeats 8000000 in
set_option maxRecDepth 100000 in
theorem grWay_in (ks : List Nat) (A : Nat → Addr) (hks : IdxKs ks) (a : Option Addr) (n cap : Nat) (P V : Nat → ByteArray) (R : Nat → List Md) (K : Nat → List Str) (Bk : Nat → Bool) (Rv Kv : Nat → Value) (rv : Value) (roots : List Md) (p v : ByteArray) (w : World) (hE : EnvP ks A w) (h : EntsIn w a n cap P V R K Bk Rv Kv) (hs : ShortI (enF n P V R K Bk)) (hr : ModsAt w rv roots) (hl : roots.length ≤ 100000) :
    Calls Tryz.prog 28 #[.slice a n cap, rv, .agg #[.string p, .string v]] w fun e w' => (∃ x ev, e = .returned (.tuple #[x, ev]) ∧ FaultAt A w' ev (wayErr (enF n P V R K Bk) roots (p.data.toList, v.data.toList)) ∧ ModsAt w' x (wayR (enF n P V R K Bk) roots (p.data.toList, v.data.toList))) ∧ Below w.heap.size w w' := by
  obtain ⟨i0, hi0, hz0, hz1, hz2⟩ := info_parts Tryz.infoMod
  have hB := below_alloc w (.cells #[.string p, .string v] 38)
  have hz := box2_alloc w (.string p) (.string v) 38
  have hst := grStart_in ks A hks a n cap P V R K Bk Rv Kv rv roots (w.alloc (.cells #[.string p, .string v] 38)) (hE.below hB) (h.below hB) hs (hr.below hB) (by omega)
  have H := Lib.hid h
  have HS := Lib.hid hs
  have HE := Lib.hid hE
  obtain ⟨ar, rn, rc, _, _, rfl, _⟩ := id hr
  have HR := Lib.hid hr
  replace hst := Lib.hid hst
  clear h hs hE hr
  obtain ⟨z0, z1, zf⟩ := id hz
  go_enter Tryz.func28, Tryz.ntmps28
  go_wp2_with fail
  generalize hw0 : w.alloc (.cells #[.string p, .string v] 38) = w0 at *
  have hs0 : w.heap.size < w0.heap.size := by rw [← hw0]; simp
  clear hw0
  refine hst.out.mono ?_
  rintro e w1 ⟨⟨ev, rfl, hv⟩, hb⟩
  replace hz := hz.below hb
  replace hB := below_step hB hb
  have hs1 := hb.size
  clear hst hb z0 z1 zf
  rcases fault_form hv with ⟨h0, rfl⟩ | ⟨h0, ty, q, rfl⟩
  · have hG := rightG_of h0
    have hn : n ≤ 100 := by have := hG.idx.len; rwa [enF_length] at this
    have hRj : ∀ j, j < n → (R j).length ≤ 1000 := fun j hj => by
      have h2 := hG.idx.small (List.mem_of_getElem? (enF_get n P V R K Bk j hj))
      have h3 : (R j).length ≤ 20 := h2
      omega
    have hwk := grWalk_in a n cap P V R K Bk Rv Kv (.slice ar rn rc) roots w1 (H.out.below hB) (HR.out.below hB) hl (by omega) hRj hG
    have HG := Lib.hid hG
    have H0 := Lib.hid h0
    replace hwk := Lib.hid hwk
    clear hG h0 hv hRj hn
    obtain ⟨z0, z1, zf⟩ := id hz
    go_wp2_with fail
    refine hwk.out.mono ?_
    rintro e w2 ⟨⟨x, S, rfl, hGo, hS⟩, hb2⟩
    have hB2 := below_step hB hb2
    replace hz := hz.below hb2
    have hs2 := hb2.size
    obtain ⟨ax, nx, cx, rfl⟩ := own_form hGo.own
    have hlk := md_lookup hGo.map (p, v) true
    obtain ⟨z0, z1, zf⟩ := id hz
    clear hwk hb2
    by_cases hm : (p, v) ∈ S.map (·.1)
    · have hmm : ((p.data.toList, v.data.toList) : Md) ∈ (walkS (enF n P V R K Bk) roots).map (·.1) := by
        rw [← hS]; exact cameOf_mem.2 hm
      have HW1 : Hid (wayErr (enF n P V R K Bk) roots (p.data.toList, v.data.toList) = (0, -1)) := Lib.hid (by unfold wayErr; rw [if_neg (by simp [H0.out]), if_pos hmm])
      have HW2 : Hid (wayR (enF n P V R K Bk) roots (p.data.toList, v.data.toList) = (trail (cameOf S) (mbT (p, v))).reverse) := Lib.hid (by unfold wayR; rw [if_pos ⟨H0.out, hmm⟩]; unfold wayTo; rw [hS]; rfl)
      obtain ⟨f, hf⟩ := Option.isSome_iff_exists.1 (mapF_isSome.2 hm)
      simp only [hf, Option.getD_some, Option.isSome_some, if_true, mdV] at hlk
      have hW := walkS_walked HG.out
      rw [← hS] at hW
      have hok := came_ok HG.out HS.out hS
      have hb3 := below_alloc w2 (.cells #[.string f.1, .string f.2] 38)
      have hB3 := below_step hB2 hb3
      have hZ3 := Lib.hid (hz.below hb3)
      have hM3 := Lib.hid (hGo.map.below hb3)
      have hsz3 : w2.heap.size < (w2.alloc (.cells #[.string f.1, .string f.2] 38)).heap.size := by simp
      have hlen : (trail (cameOf S) (mbT (p, v))).length ≤ 1000000 := by
        obtain ⟨k, hk, e⟩ := mem_atS (cameOf_mem.2 hm)
        have h2 := (trail_chain HG.out hW k hk).2.1
        have h3 := (trail_chain HG.out hW k hk).2.2
        rw [e] at h2 h3
        have h4 := nodup_len (trail (cameOf S) (mbT (p, v))) ((cameOf S).map (·.1)) h2 (fun x hx => by
          obtain ⟨j, hj, e2⟩ := h3 x hx
          rw [e2]; exact atS_mem (by omega))
        have h5 := hW.len HG.out
        have h6 := HG.out.idx.len
        rw [List.length_map] at h4
        omega
      have HK := Lib.hid (And.intro hW (And.intro hok hm))
      have HLEN := Lib.hid hlen
      clear hW hok hGo hS hz hmm hf hm hb3 hlen
      go_wp2_with fail
      generalize w2.alloc (.cells #[.string f.1, .string f.2] 38) = w3 at *
      clear z0 z1 zf hlk
      go_loopw [13] (fun o wr => ∃ (c : MB) (L : List MB), Hid (Box2 wr w.heap.size (.string c.1) (.string c.2)) ∧ Hid (wr.ownsRow w3.heap.size 38 2 o L.length (mdVs L)) ∧ Hid (MapIs wr w1.heap.size S) ∧ Below w.heap.size w wr ∧ w3.heap.size ≤ wr.heap.size ∧ Hid (trail (cameOf S) (mbT (p, v)) = mdTs L ++ trail (cameOf S) (mbT c) ∧ (c = noMB ∨ c ∈ S.map (·.1)) ∧ ∀ m ∈ L, OkM m)) (fun o _ => (trail (cameOf S) (mbT (p, v))).length + 1 - lenWay o)
      case atStart => exact ⟨(p, v), [], hZ3, Lib.hid (World.ownsRow_nil _ _ _ _), hM3, hB3, Nat.le_refl _, Lib.hid ⟨rfl, .inr HK.out.2.2, fun m hm => by cases hm⟩⟩
      case round =>
        clear hZ3 hM3 hB3
        obtain ⟨c, L, hZ, hO, hM, hBr, hsr, hI⟩ := hrel
        obtain ⟨ao, no, co, _, _, eo, el, _⟩ := modsAt_own hO.out
        have hno : no = L.length := by have := congrArg List.length el; rw [mdF_length] at this; rw [← this]; simp [mdTs]
        subst eo hno
        clear el
        have htot : L.length + (trail (cameOf S) (mbT c)).length = (trail (cameOf S) (mbT (p, v))).length := by rw [hI.out.1]; simp [mdTs]
        have hLl : L.length ≤ 1000000 := by have := HLEN.out; omega
        obtain ⟨x0, x1, xf⟩ := id hZ.out
        have hg := Tryz.md_guard
        by_cases hc : c = noMB
        · have hq := md_neq c.1 c.2 ⟨#[]⟩ ⟨#[]⟩
          have hd : decide (c.1 = (⟨#[]⟩ : ByteArray) ∧ c.2 = (⟨#[]⟩ : ByteArray)) = true := decide_eq_true (by rw [hc]; exact ⟨rfl, rfl⟩)
          simp only [hd, Bool.not_true] at hq
          clear hd
          have hrv := revM_calls w wr w3.heap.size (.slice ao L.length co) L hBr (by have := hB2.size; omega) hO.out hI.out.2.2 hLl
          have HT : Hid (trail (cameOf S) (mbT (p, v)) = mdTs L) := Lib.hid (by rw [hI.out.1, hc, mbT_no, trail_none]; simp)
          replace hrv := Lib.hid hrv
          clear hc hI hO hM hZ htot
          go_wp2_with fail
          refine hrv.out.mono ?_
          rintro e w6 ⟨rfl, hMr, hB6⟩
          have HM := Lib.hid hMr
          clear hMr
          go_wp2_with fail
          go_ret2
          refine ⟨⟨_, _, rfl, ?_, ?_⟩, hB6⟩
          · rw [HW1.out]; exact .inl ⟨rfl, rfl, rfl⟩
          · rw [HW2.out, HT.out]; exact HM.out
        · have hck : c ∈ S.map (·.1) := hI.out.2.1.resolve_left hc
          obtain ⟨_, ht, hnx⟩ := trail_at HG.out HK.out.1 hck
          obtain ⟨c', hc'⟩ : ∃ c', (mapF S c).getD noMB = c' := ⟨_, rfl⟩
          rw [hc'] at ht hnx
          have hq := md_neq c.1 c.2 ⟨#[]⟩ ⟨#[]⟩
          have hd : decide (c.1 = (⟨#[]⟩ : ByteArray) ∧ c.2 = (⟨#[]⟩ : ByteArray)) = false := decide_eq_false (fun h => hc (Prod.ext h.1 h.2))
          simp only [hd, Bool.not_false] at hq
          clear hd
          have hlkF := fun W (h : MapIs W w1.heap.size S) => md_lookup h c false
          simp only [hc', mdV, Bool.false_eq_true, if_false] at hlkF
          have hwN : w.heap.size < wr.heap.size := lt_of_cell x0
          have hlt3 : L.length < (trail (cameOf S) (mbT (p, v))).length := by rw [ht] at htot; simp at htot; omega
          have hown := fun k (e : (Value.slice ao L.length co).ownBlock = some k) => (hO.out.lt k e).1
          have hnN : some w.heap.size ≠ (Value.slice ao L.length co).ownBlock := fun e => by have := hown _ e.symm; omega
          have hnB : some w1.heap.size ≠ (Value.slice ao L.length co).ownBlock := fun e => by have := hown _ e.symm; omega
          have hba := below_alloc wr (.cells #[.string c.1, .string c.2] 38)
          have hZa := hZ.out.below hba
          have hMa := hM.out.below hba
          have hBa : Below w.heap.size w (wr.alloc (.cells #[.string c.1, .string c.2] 38)) := hBr.alloc hBr.size _
          have hNla : w.heap.size < (wr.alloc (.cells #[.string c.1, .string c.2] 38)).heap.size := by simp; omega
          have HH := Lib.hid (And.intro hnN (And.intro hnB (And.intro hZa (And.intro hMa hBa))))
          have HI := Lib.hid (And.intro ht hnx)
          have HOk := Lib.hid (HK.out.2.1 c hck)
          replace hlkF := Lib.hid hlkF
          replace hown := Lib.hid hown
          clear hc hck ht hnx hc' hZ hM hBr htot hnN hnB hZa hMa hBa hba
          go_wp2_with (at_builtin; refine wpList_append_own _ rfl _ _ 23 rfl w3.heap.size 38 i0 (.agg #[.string ⟨#[]⟩, .string ⟨#[]⟩]) 2 32 Tryz.underlying23 hi0 hz0 hz1 hz2 rfl (by decide) _ _ _ rfl (hO.out.alloc _) ⟨wr.heap.size, 0, none⟩ 1 1 [.string c.1, .string c.2] rfl rfl (cell_two_new _ _ _ _) (by intro u hu; simp at hu; rcases hu with rfl | rfl <;> rfl) (by unfold maxLen; omega) (by omega) (by simp; omega) ?_; intro o' w4 hown4 hgrow4 _; rw [mdVs_snoc, show L.length + 1 = (L ++ [(c.1, c.2)]).length by simp] at hown4; obtain ⟨a4, n4, c4, P4, V4, e4, el4, _⟩ := modsAt_own hown4; subst e4; have y0 := hgrow4.cell HH.out.2.2.1.c0 HH.out.1; have y1 := hgrow4.cell HH.out.2.2.1.c1 HH.out.1; have yf := fun i => (hgrow4.frozen_far ⟨w.heap.size, i, none⟩ hNla HH.out.1).trans (HH.out.2.2.1.fr i); have hlk4 := hlkF.out w4 (HH.out.2.2.2.1.grown hgrow4 HH.out.2.1); clear x0 x1 xf)
          have hn4 : n4 = L.length + 1 := by have := congrArg List.length el4; rw [mdF_length] at this; rw [← this]; simp [mdTs]
          have hne := own_ne (b := w.heap.size) hown4 (by omega)
          have hgs := hgrow4.size
          go_roundw
          case rel =>
            refine ⟨c', L ++ [(c.1, c.2)], Lib.hid ⟨(set_off _ (by decide)).trans (set_same _ y0), set_same _ ((set_off _ (by decide)).trans y1), fun i => by simp [yf i]⟩, Lib.hid (ownsRow_set (ownsRow_set hown4 hne _) hne _), Lib.hid (((HH.out.2.2.2.1.grown hgrow4 HH.out.2.1).setAny (by omega) _).setAny (by omega) _), ?_, ?_, Lib.hid ⟨?_, HI.out.2, ?_⟩⟩
            · exact ((HH.out.2.2.2.2.grown hgrow4 (by omega) (fun q hq => by have := hown.out q hq; omega)).setCell (p := ⟨w.heap.size, 0, none⟩) (Nat.le_refl _) _).setCell (p := ⟨w.heap.size, 1, none⟩) (Nat.le_refl _) _
            · simp at hgs ⊢; omega
            · rw [hI.out.1, HI.out.1]
              simp [mdTs, mbT]
            · intro m hm
              rcases List.mem_append.1 hm with h | h
              · exact hI.out.2.2 m h
              · simp only [List.mem_singleton] at h
                rw [h]; exact HOk.out
          case measure =>
            subst hn4
            simp only [lenWay]
            omega
    · have hmm : ¬ ((p.data.toList, v.data.toList) : Md) ∈ (walkS (enF n P V R K Bk) roots).map (·.1) := by
        rw [← hS]; exact fun h => hm (cameOf_mem.1 h)
      have HW1 : Hid (wayErr (enF n P V R K Bk) roots (p.data.toList, v.data.toList) = (5, -1)) := Lib.hid (by unfold wayErr; rw [if_neg (by simp [H0.out]), if_neg hmm])
      have HW2 : Hid (wayR (enF n P V R K Bk) roots (p.data.toList, v.data.toList) = []) := Lib.hid (by unfold wayR; rw [if_neg (fun h => hmm h.2)])
      rw [mapF_none.2 hm] at hlk
      simp only [Option.getD_none, Option.isSome_none, if_true, mdV, noMB] at hlk
      have hb3 := below_alloc w2 (.cells #[.string ⟨#[]⟩, .string ⟨#[]⟩] 38)
      have hB3 := below_step hB2 hb3
      have g5 := (HE.out.below hB3).errs.var 5 hks.2.2.1
      simp only [errG] at g5
      clear hm hmm hGo hS hz
      go_wp2_with fail
      generalize w2.alloc (.cells #[.string ⟨#[]⟩, .string ⟨#[]⟩] 38) = w3 at *
      have kqg5 := fun d os => cell_patch (d := d) (os := os) g5
      refine wp_region_quiet_patch (by kernel_rfl) (by kernel_rfl) ?_
      repeat (go_big_quiet_step (fail))
      refine wpQuiet_nil ?_
      intro _ hw'
      obtain ⟨⟨dq, osq⟩, hw''⟩ := hw'
      subst hw''
      clear kqg5
      have hb := below_patch w3 dq osq
      replace hB3 := below_step hB3 hb
      clear hb
      generalize patch w3 dq osq = w4 at hB3 ⊢
      go_wp2_with fail
      go_ret2
      refine ⟨⟨_, _, rfl, ?_, ?_⟩, hB3⟩
      · rw [HW1.out]
        exact .inr (.inl ⟨(show (5 : Nat) ≠ 0 by decide), rfl, (errV_pos A (show (5 : Nat) ≠ 0 by decide)).symm⟩)
      · rw [HW2.out]; exact ModsAt.nil _
  · have HW1 : Hid (wayErr (enF n P V R K Bk) roots (p.data.toList, v.data.toList) = startErr (enF n P V R K Bk) roots) := Lib.hid (by unfold wayErr; rw [if_pos h0])
    have HW2 : Hid (wayR (enF n P V R K Bk) roots (p.data.toList, v.data.toList) = []) := Lib.hid (by unfold wayR; rw [if_neg (fun h => h0 h.1)])
    have HV := Lib.hid hv
    clear hv h0
    go_wp2_with fail
    go_ret2
    refine ⟨⟨_, _, rfl, ?_, ?_⟩, hB⟩
    · rw [HW1.out]; exact HV.out
    · rw [HW2.out]; exact ModsAt.nil _
end Go.Proofs.Pw

/- B.FarOf: how many modules stand on a way that is as short as may be, and the fault. Conditions: an index and roots that are short. -/
namespace Go.Proofs.Pw
open Go.RowKit
open Go.Lib hiding intOf

theorem Tryz.infoInt : (Tryz.prog.info? 3).map (fun i => (i.zero, i.size, i.bytes)) = some (some (.int .i64 0), 1, 8) := by kernel_rfl
/-- a row of numbers -/
def NumRow (w : World) (g n : Nat) (F : Nat → Nat) : Prop := w.rowIs g 3 n (fun j => .int .i64 (F j : Nat))
theorem NumRow.below {w w' : World} {g n : Nat} {F : Nat → Nat} (h : NumRow w g n F) (hb : Below w.heap.size w w') : NumRow w' g n F :=
  World.rowIs.of_block h (hb.block g (World.rowIs.lt h))
theorem NumRow.set {w : World} {g n : Nat} {F : Nat → Nat} (h : NumRow w g n F) (k v : Nat) : NumRow (w.setCell ⟨g, k, none⟩ (.int .i64 (v : Nat))) g n (setN F k v) :=
  (World.rowIs.set h k (.int .i64 (v : Nat))).congr fun j _ => by unfold setN; split <;> rfl
theorem NumRow.cell {w : World} {g n : Nat} {F : Nat → Nat} (h : NumRow w g n F) {k : Nat} (hk : k < n) : w.cell? ⟨g, k, none⟩ = some (.int .i64 (F k : Nat)) := World.rowIs.cell h hk
theorem NumRow.fz {w : World} {g n : Nat} {F : Nat → Nat} (h : NumRow w g n F) (k : Nat) : w.frozen? ⟨g, k, none⟩ = false := World.rowIs.frozen h k

/-- what the answers are, of roots that are right -/
theorem way_right {l : List En} {roots : List Md} (h0 : (startErr l roots).1 = 0) (m : Md) : (m ∈ (walkS l roots).map (·.1) → wayErr l roots m = (0, -1) ∧ wayR l roots m = wayTo l roots m) ∧ (m ∉ (walkS l roots).map (·.1) → wayErr l roots m = (5, -1) ∧ wayR l roots m = []) := by
  refine ⟨fun hm => ⟨?_, ?_⟩, fun hm => ⟨?_, ?_⟩⟩
  · unfold wayErr; rw [if_neg (by simp [h0]), if_pos hm]
  · unfold wayR; rw [if_pos ⟨h0, hm⟩]
  · unfold wayErr; rw [if_neg (by simp [h0]), if_neg hm]
  · unfold wayR; rw [if_neg (fun h => hm h.2)]

theorem box2_belowd2 {w w' : World} {b : Nat} {v0 v1 : Value} (h : Box2 w b v0 v1) (hb : Below w.drew.heap.size w.drew w') : Box2 w' b v0 v1 :=
  Box2.below (w := w.drew) ⟨h.c0, h.c1, h.fr⟩ hb

set_option maxHeartbeats 16000000 in
set_option maxRecDepth 100000 in
theorem farOf_in (a : Option Addr) (n cap : Nat) (P V : Nat → ByteArray) (R : Nat → List Md) (K : Nat → List Str) (B : Nat → Bool) (Rv Kv : Nat → Value) (rv : Value) (roots : List Md) (p v : ByteArray) (w : World) (h : EntsIn w a n cap P V R K B Rv Kv) (hr : ModsAt w rv roots) (hs : ShortI (enF n P V R K B)) (hl2 : roots.length ≤ 1000000) :
    Calls Tryz.prog 29 #[.slice a n cap, rv, .agg #[.string p, .string v]] w fun e w' => e = .returned (.tuple #[.int .i64 ((wayR (enF n P V R K B) roots (p.data.toList, v.data.toList)).length : Nat), fltV (wayErr (enF n P V R K B) roots (p.data.toList, v.data.toList))]) ∧ Below w.heap.size w w' := by
  obtain ⟨a2, m, cap2, Q, U, e1, e2, hmc, hcap2, hc2⟩ := id hr
  subst e1
  have hml : m ≤ 1000000 := by rw [e2, mdF_length] at hl2; exact hl2
  have hb1 := below_alloc w (.cells #[.string p, .string v] 38)
  have hb2 := below_alloc (w.alloc (.cells #[.string p, .string v] 38)) (.cells #[.int .i64 0, .int .i64 0] 49)
  have hB := below_step hb1 hb2
  have hp := (box2_alloc w (.string p) (.string v) 38).below hb2
  have hz := box2_alloc (w.alloc (.cells #[.string p, .string v] 38)) (.int .i64 0) (.int .i64 0) 49
  simp only [World.size_alloc] at hz
  have hre := fun (W : World) (hb : Below w.heap.size w W) => reachOf_in a n cap P V R K B Rv Kv (.slice a2 m cap2) roots W (h.below hb) (hr.below hb) hs hl2
  have hfo := fun (p v : ByteArray) (W : World) (hb : Below w.heap.size w W) => findOf_in a n cap P V R K B Rv Kv p v W (h.below hb) (by have := hs.len; rw [enF_length] at this; omega)
  have H := Lib.hid h
  have HSH := Lib.hid hs
  obtain ⟨l, hl⟩ : ∃ l, enF n P V R K B = l := ⟨_, rfl⟩
  have HEN : Hid (∀ j, j < n → enAt l j = ⟨((P j).data.toList, (V j).data.toList), R j, K j, B j⟩) := Lib.hid (fun j hj => by rw [← hl]; exact enAt_enF hj)
  have HLEN : Hid (l.length = n) := Lib.hid (by rw [← hl, enF_length])
  have HSL : Hid (∀ j, j < n → (R j).length ≤ 1000000) := Lib.hid (fun j hj => (HSH.out.at_ hj).2.2.2.1.1)
  simp only [hl] at hfo hre ⊢
  have HRM : Hid (roots = mdF m Q U) := Lib.hid e2
  have HWE : Hid ((startErr l roots).1 ≠ 0 → wayErr l roots (p.data.toList, v.data.toList) = startErr l roots ∧ wayR l roots (p.data.toList, v.data.toList) = []) := Lib.hid (fun h0 => ⟨by unfold wayErr; rw [if_pos h0], by unfold wayR; rw [if_neg (fun h => h0 h.1)]⟩)
  have HWR : Hid ((startErr l roots).1 = 0 → RightG l roots ∧ ∀ m, (m ∈ (walkS l roots).map (·.1) → wayErr l roots m = (0, -1) ∧ wayR l roots m = wayTo l roots m) ∧ (m ∉ (walkS l roots).map (·.1) → wayErr l roots m = (5, -1) ∧ wayR l roots m = [])) := Lib.hid (fun h0 => ⟨rightG_of h0, way_right h0⟩)
  generalize startErr l roots = SE at *
  obtain ⟨fc, fa⟩ := SE
  unfold fltV at hre
  simp only at hre HWE HWR
  replace hc2 := Lib.hid hc2
  replace hfo := Lib.hid hfo
  replace hre := Lib.hid hre
  clear h hs hr hl e2 hb1 hb2 hl2
  go_enter Tryz.func29, Tryz.ntmps29
  go_wp2_with fail
  generalize hw0 : (w.alloc (.cells #[.string p, .string v] 38)).alloc (.cells #[.int .i64 0, .int .i64 0] 49) = w0 at *
  clear hw0
  refine (hre.out _ hB).mono ?_
  rintro e w2 ⟨⟨x, rfl, hx⟩, hb⟩
  have hba := below_alloc w2 (.cells #[.int .i64 (fc : Nat), .int .i64 fa] 49)
  have hy := box2_alloc w2 (.int .i64 (fc : Nat)) (.int .i64 fa) 49
  have hs2 : w.heap.size + 1 < w2.heap.size := Nat.lt_of_lt_of_le (lt_of_cell hz.c0) hb.size
  replace hb := below_step hb hba
  replace hz := hz.below hb
  replace hp := hp.below hb
  replace hB := below_step hB hb
  obtain ⟨ax, nx, cx, _, _, rfl, -⟩ := id hx
  clear hb hba hre hx
  obtain ⟨x0, x1, xf⟩ := id hy
  have nx1 : w.heap.size + 1 ≠ w2.heap.size := by omega
  have nx2 : w2.heap.size ≠ w.heap.size + 1 := by omega
  by_cases h0 : fc = 0
  · subst h0
    obtain ⟨hG, hW⟩ := HWR.out rfl
    have hn : n ≤ 100 := by have := hG.idx.len; rwa [HLEN.out] at this
    have HG := Lib.hid hG
    have HW0 := Lib.hid hW
    have hmk := run_make_row' (P := Tryz.prog) 94 3 (.int .i64 0) 8 Tryz.underlying94 Tryz.infoInt rfl .i64 .i64 n (by omega) (by omega)
    obtain ⟨e3, he3⟩ : ∃ e3, e3 = findE l (p.data.toList, v.data.toList) := ⟨_, rfl⟩
    have hb3 := below_alloc (w2.alloc (.cells #[.int .i64 ((0 : Nat) : Int), .int .i64 fa] 49)) (.cells (madeCells #[.int .i64 0] n) 3)
    have hrow : NumRow ((w2.alloc (.cells #[.int .i64 ((0 : Nat) : Int), .int .i64 fa] 49)).alloc (.cells (madeCells #[.int .i64 0] n) 3)) (w2.heap.size + 1) n (fun _ => 0) := by
      have := World.rowIs_made (w2.alloc (.cells #[.int .i64 ((0 : Nat) : Int), .int .i64 fa] 49)) (.int .i64 0) n 3
      rw [World.size_alloc] at this
      exact this
    have hs3 : (w2.alloc (.cells #[.int .i64 ((0 : Nat) : Int), .int .i64 fa] 49)).heap.size = w2.heap.size + 1 := World.size_alloc _ _
    replace hs3 := Lib.hid hs3
    have HE3 := Lib.hid he3
    clear hG hW HWE HWR he3 hy nx1 nx2
    go_wp2_with fail
    clear hmk
    generalize hw3 : w2.alloc (.cells #[.int .i64 ((0 : Nat) : Int), .int .i64 fa] 49) = w3 at *
    generalize w3.alloc (.cells (madeCells #[.int .i64 0] n) 3) = w4 at *
    clear hw3 x0 x1 xf
    have HB := Lib.hid hB
    clear hB
    go_loopw [11] (fun x wr => ∃ (k : Nat) (F : Nat → Nat), k ≤ m ∧ x = .int .i64 k ∧ Hid (NumRow wr (w2.heap.size + 1) n F) ∧ Below w3.heap.size w3 wr ∧ Hid (FarR l roots F) ∧ Hid (∀ j, j < k → F (findE l ((Q j).data.toList, (U j).data.toList)).toNat ≠ 0)) (fun x _ => m - (intOf x).toNat)
    case atStart => exact ⟨0, _, Nat.zero_le _, rfl, Lib.hid hrow, hb3, Lib.hid (farR_none _ _), Lib.hid (fun j hj => absurd hj (Nat.not_lt_zero _))⟩
    case round =>
      obtain ⟨k, F, hk, rfl, HRow, hBr, HS, HA⟩ := hrel
      have hBk := below_step HB.out hBr
      by_cases hlt : k < m
      · have hkn : (k : Int) < (m : Int) := by omega
        obtain ⟨b1, o1, ea, c0, c1⟩ := hc2.out k hlt
        replace c0 := Below.cell_some hBk c0
        replace c1 := Below.cell_some hBk c1
        subst ea
        have hf := hfo.out (Q k) (U k) wr hBk
        have hmem : ((Q k).data.toList, (U k).data.toList) ∈ roots := by rw [HRM.out]; exact List.mem_of_getElem? (mdF_get m Q U k hlt)
        obtain ⟨e0, he0, he1⟩ := HG.out.at_ _ hmem
        have hat := HG.out.idx.at_ he0 he1
        rw [HLEN.out] at hat
        have HS' : Hid (FarR l roots (setN F (findE l ((Q k).data.toList, (U k).data.toList)).toNat 1)) := Lib.hid (farR_set HG.out HS.out hmem)
        have HA' : Hid (∀ j, j < k + 1 → setN F (findE l ((Q k).data.toList, (U k).data.toList)).toNat 1 (findE l ((Q j).data.toList, (U j).data.toList)).toNat ≠ 0) := Lib.hid (fun j hj => by
          by_cases e : j = k
          · subst e; rw [setN_same]; decide
          · exact setN_pos (by decide) (HA.out j (by omega)))
        obtain ⟨hat1, hat2, _⟩ := hat
        rw [hat2] at hf
        generalize (findE l ((Q k).data.toList, (U k).data.toList)).toNat = x at *
        have hxn : (x : Int) < (n : Int) := by omega
        replace hf := Lib.hid hf
        clear hat2 hmem he0 he1
        go_wp2_with fail
        refine hf.out.mono ?_
        rintro e w5 ⟨rfl, hb⟩
        have HRow2 := Lib.hid (HRow.out.below hb)
        have d0 := HRow2.out.cell hat1
        have df := HRow2.out.fz x
        replace hBr := below_step hBr hb
        have HRow3 : Hid (NumRow (w5.setCell ⟨w2.heap.size + 1, x, none⟩ (.int .i64 1)) (w2.heap.size + 1) n (setN F x 1)) := Lib.hid (HRow2.out.set x 1)
        have hB3 := hBr.setCell (p := ⟨w2.heap.size + 1, x, none⟩) (by rw [hs3.out]; exact Nat.le_refl _) (.int .i64 1)
        clear hb hf c0 c1 hBk
        go_wp2_with fail
        go_roundw
        case rel => exact ⟨k + 1, _, by omega, by go_num, HRow3, hB3, HS', HA'⟩
        case measure => simp [intOf]; omega
      · have HFS : Hid (FarS l roots 1 F) := Lib.hid (farS_start HG.out HS.out (fun r hr => by
          rw [HRM.out] at hr
          obtain ⟨j, hj⟩ := List.getElem?_of_mem hr
          have hjl := (List.getElem?_eq_some_iff.1 hj).1
          rw [mdF_length] at hjl
          rw [mdF_get m Q U j hjl] at hj
          rw [← Option.some.inj hj]
          exact HA.out j (by omega)))
        have hnk : ¬ (k : Int) < (m : Int) := by omega
        clear hlt hk HA HS hBk hrow hb3
        go_wp2_with fail
        clear hnk
        generalize wr = wl at *
        go_loopw [12, 13, 14, 15] (fun x _ _ _ wr => ∃ (N : Nat) (F : Nat → Nat), 0 < N ∧ N ≤ n + 1 ∧ x = .int .i64 N ∧ Hid (NumRow wr (w2.heap.size + 1) n F) ∧ Below w3.heap.size w3 wr ∧ Hid (FarS l roots N F)) (fun x _ _ _ _ => n + 1 - (intOf x).toNat)
        case atStart => exact ⟨1, F, by omega, by omega, rfl, HRow, hBr, HFS⟩
        case round =>
          clear HRow hBr HFS
          obtain ⟨N, F, hN0, hNn, rfl, HRow, hBr, HS⟩ := hrel
          have hwN := wrap_nat (N + 1) (by omega)
          by_cases hle : N ≤ n
          · have hlei : (N : Int) ≤ (n : Int) := by omega
            go_wp2_with fail
            generalize hwp : wr = wp at *
            clear hwp
            go_loopw [13, 14, 15] (fun x _ _ wr => ∃ (q : Nat) (F : Nat → Nat), q ≤ n ∧ x = .int .i64 q ∧ Hid (NumRow wr (w2.heap.size + 1) n F) ∧ Below w3.heap.size w3 wr ∧ Hid (FarS l roots N F) ∧ Hid (∀ j, j < q → DoneN l N F j)) (fun x _ _ _ => n - (intOf x).toNat)
            case atStart => exact ⟨0, F, Nat.zero_le _, rfl, HRow, hBr, HS, Lib.hid (fun j hj => absurd hj (Nat.not_lt_zero _))⟩
            case round =>
              clear HRow hBr HS
              obtain ⟨q, F, hq, rfl, HRow, hBr, HS, HD⟩ := hrel
              have hwq := wrap_nat (q + 1) (by omega)
              by_cases hlt : q < n
              · have hkn : (q : Int) < (n : Int) := by omega
                obtain ⟨b2, o2, ea, hcell⟩ := H.out.at_ q hlt
                obtain ⟨a1, n1, c1, P1, V1, e1, e2, _, _, hc1⟩ := H.out.reqs q hlt
                have hlen : n1 ≤ 1000000 := by
                  have := HSL.out q hlt
                  rw [e2, mdF_length] at this
                  exact this
                have HQ : Hid ((enAt l q).reqs = mdF n1 P1 V1) := Lib.hid (by rw [HEN.out q hlt, e2])
                rw [e1] at hcell
                have d2 := hcell.c2
                subst ea
                replace hc1 := Lib.hid hc1
                clear e1 e2 hcell
                go_wp2_with fail
                generalize hwo : wr = wo at *
                clear hwo
                go_loopw [14, 15] (fun x _ wr => ∃ (c : Nat) (F : Nat → Nat), c ≤ n1 ∧ x = .int .i64 c ∧ Hid (NumRow wr (w2.heap.size + 1) n F) ∧ Below w3.heap.size w3 wr ∧ Hid (FarS l roots N F) ∧ Hid (∀ j, j < q → DoneN l N F j) ∧ Hid (F q = N → ∀ j, j < c → F (findE l ((P1 j).data.toList, (V1 j).data.toList)).toNat ≠ 0)) (fun x _ _ => n1 - (intOf x).toNat)
                case atStart => exact ⟨0, F, Nat.zero_le _, rfl, HRow, hBr, HS, HD, Lib.hid (fun _ j hj => absurd hj (Nat.not_lt_zero _))⟩
                case round =>
                  clear HRow hBr HS HD
                  obtain ⟨c, F, hc, rfl, HRow, hBr, HS, HD, HC⟩ := hrel
                  have hBk := below_step HB.out hBr
                  have x2 := Below.cell_some hBk d2
                  have g0 := HRow.out.cell hlt
                  by_cases hFq : F q = N
                  · have HFq := Lib.hid hFq
                    rw [hFq] at g0
                    by_cases hlp : c < n1
                    · have hpn : (c : Int) < (n1 : Int) := by omega
                      obtain ⟨b4, o4, e3', y0, y1⟩ := hc1.out c hlp
                      subst e3'
                      replace y0 := Below.cell_some hBk y0
                      replace y1 := Below.cell_some hBk y1
                      have hf := hfo.out (P1 c) (V1 c) wr hBk
                      have hmem : ((P1 c).data.toList, (V1 c).data.toList) ∈ (enAt l q).reqs := by rw [HQ.out]; exact List.mem_of_getElem? (mdF_get n1 P1 V1 c hlp)
                      have hql : q < l.length := by rw [HLEN.out]; exact hlt
                      obtain ⟨e0, he0, he1⟩ := HG.out.idx.all _ (enAt_mem hql) _ hmem
                      have hat := HG.out.idx.at_ he0 he1
                      rw [HLEN.out] at hat
                      obtain ⟨hat1, hat2, _⟩ := hat
                      have HS1 : Hid (F (findE l ((P1 c).data.toList, (V1 c).data.toList)).toNat = 0 → FarS l roots N (setN F (findE l ((P1 c).data.toList, (V1 c).data.toList)).toNat (N + 1))) := Lib.hid (fun h0 => farS_set HG.out HS.out hql hN0 hFq hmem h0)
                      rw [hat2] at hf
                      obtain ⟨x, hx⟩ : ∃ x, (findE l ((P1 c).data.toList, (V1 c).data.toList)).toNat = x := ⟨_, rfl⟩
                      rw [hx] at hat1 hf HS1
                      have HX := Lib.hid hx
                      have hxn : (x : Int) < (n : Int) := by omega
                      have g1 := HRow.out.cell hat1
                      by_cases hFx : F x = 0
                      · rw [hFx] at g1
                        have HS' := Lib.hid (HS1.out hFx)
                        have HD' : Hid (∀ j, j < q → DoneN l N (setN F x (N + 1)) j) := Lib.hid (fun j hj => doneN_set (HD.out j hj) hFx)
                        have hne : q ≠ x := fun e => by subst e; omega
                        have HC' : Hid (setN F x (N + 1) q = N → ∀ j, j < c + 1 → setN F x (N + 1) (findE l ((P1 j).data.toList, (V1 j).data.toList)).toNat ≠ 0) := Lib.hid (fun _ j hj => by
                          by_cases e : j = c
                          · subst e; rw [HX.out, setN_same]; omega
                          · exact setN_pos (Nat.succ_ne_zero N) (HC.out HFq.out j (by omega)))
                        replace hf := Lib.hid hf
                        clear hFq hFx hx hat2 hmem he0 he1 HC HS HS1 hql hne
                        go_wp2_with fail
                        refine hf.out.mono ?_
                        rintro e w5 ⟨rfl, hb⟩
                        have HRow2 := Lib.hid (HRow.out.below hb)
                        replace g1 := Below.cell_some hb g1
                        have df := HRow2.out.fz x
                        replace hBr := below_step hBr hb
                        have HRow3 : Hid (NumRow (w5.setCell ⟨w2.heap.size + 1, x, none⟩ (.int .i64 ((N + 1 : Nat) : Int))) (w2.heap.size + 1) n (setN F x (N + 1))) := Lib.hid (HRow2.out.set x (N + 1))
                        rw [show ((N + 1 : Nat) : Int) = (N : Int) + 1 from rfl] at HRow3
                        have hB3 := hBr.setCell (p := ⟨w2.heap.size + 1, x, none⟩) (by rw [hs3.out]; exact Nat.le_refl _) (.int .i64 ((N : Int) + 1))
                        clear hb hf y0 y1 x2 g0 hBk
                        go_wp2_with fail
                        go_roundw
                        case rel => exact ⟨c + 1, _, by omega, by go_num, HRow3, hB3, HS', HD', HC'⟩
                        case measure => simp [intOf]; omega
                      · have hne : (((F x : Nat) : Int) == 0) = false := beq_eq_false_iff_ne.2 (by omega)
                        have HC' : Hid (F q = N → ∀ j, j < c + 1 → F (findE l ((P1 j).data.toList, (V1 j).data.toList)).toNat ≠ 0) := Lib.hid (fun h j hj => by
                          by_cases e : j = c
                          · subst e; rw [HX.out]; exact hFx
                          · exact HC.out h j (by omega))
                        replace hf := Lib.hid hf
                        clear hFq hFx hx hat2 hmem he0 he1 HC HS1 hql
                        go_wp2_with fail
                        refine hf.out.mono ?_
                        rintro e w5 ⟨rfl, hb⟩
                        have HRow2 := Lib.hid (HRow.out.below hb)
                        replace g1 := Below.cell_some hb g1
                        replace hBr := below_step hBr hb
                        clear hb hf y0 y1 x2 g0 hBk
                        go_wp2_with fail
                        go_roundw
                        case rel => exact ⟨c + 1, F, by omega, by go_num, HRow2, hBr, HS, HD, HC'⟩
                        case measure => simp [intOf]; omega
                    · have HD' : Hid (∀ j, j < q + 1 → DoneN l N F j) := Lib.hid (fun j hj => by
                        by_cases e : j = q
                        · subst e
                          intro _ r hr
                          rw [HQ.out] at hr
                          obtain ⟨i, hi⟩ := List.getElem?_of_mem hr
                          have hil := (List.getElem?_eq_some_iff.1 hi).1
                          rw [mdF_length] at hil
                          rw [mdF_get n1 P1 V1 i hil] at hi
                          rw [← Option.some.inj hi]
                          exact HC.out HFq.out i (by omega)
                        · exact HD.out j (by omega))
                      have hnp : ¬ (c : Int) < (n1 : Int) := by omega
                      clear hFq HC hlp hc HD hBk
                      go_wp2_with fail
                      go_roundw
                      case rel => exact ⟨q + 1, F, by omega, by go_num, HRow, hBr, HS, HD'⟩
                      case measure => simp [intOf]; omega
                  · have hne : (((F q : Nat) : Int) == (N : Int)) = false := beq_eq_false_iff_ne.2 (by omega)
                    have HD' : Hid (∀ j, j < q + 1 → DoneN l N F j) := Lib.hid (fun j hj => by
                      by_cases e : j = q
                      · subst e; exact fun h => absurd h hFq
                      · exact HD.out j (by omega))
                    clear hFq HC hc HD hBk x2
                    go_wp2_with fail
                    go_roundw
                    case rel => exact ⟨q + 1, F, by omega, by go_num, HRow, hBr, HS, HD'⟩
                    case measure => simp [intOf]; omega
              · have HS' : Hid (FarS l roots (N + 1) F) := Lib.hid (farS_next HG.out hN0 HS.out (fun i hi => HD.out i (by rw [HLEN.out] at hi; omega)))
                have hnq : ¬ (q : Int) < (n : Int) := by omega
                clear hlt hq HD HS
                go_wp2_with fail
                go_roundw
                case rel => exact ⟨N + 1, F, by omega, by omega, by go_num, HRow, hBr, HS'⟩
                case measure => simp [intOf]; omega
          · have hNe : N = l.length + 1 := by rw [HLEN.out]; omega
            have hnl : ¬ (N : Int) ≤ (n : Int) := by omega
            have HS' : Hid (FarS l roots (l.length + 1) F) := Lib.hid (by rw [← hNe]; exact HS.out)
            obtain ⟨z0, z1, zf⟩ := hz.below hBr
            obtain ⟨p0, p1, _⟩ := hp.below hBr
            have hBk := below_step HB.out hBr
            have hf := hfo.out p v wr hBk
            have HF3 : Hid (∀ w5, Below wr.heap.size wr w5 → Below w.heap.size w w5 ∧ Box2 w5 (w.heap.size + 1) (.int .i64 0) (.int .i64 0) ∧ NumRow w5 (w2.heap.size + 1) n F) := Lib.hid (fun w5 hb => ⟨below_step hBk hb, (hz.below hBr).below hb, HRow.out.below hb⟩)
            rw [← HE3.out] at hf
            clear hNe hle HS hBk
            by_cases hneg : e3 < 0
            · have HW : Hid (wayErr l roots (p.data.toList, v.data.toList) = (5, -1) ∧ wayR l roots (p.data.toList, v.data.toList) = []) := Lib.hid ((HW0.out _).2 (fun hm => by
                obtain ⟨e0, he0, he1⟩ := HG.out.entry ((walkS_mem HG.out _).1 hm)
                have := HE3.out ▸ hneg
                exact findE_lt.1 this e0 he0 he1))
              replace hf := Lib.hid hf
              go_wp2_with fail
              refine hf.out.mono ?_
              rintro e w5 ⟨rfl, hb⟩
              clear hf z0 z1 zf p0 p1
              have hB5 := (HF3.out _ hb).1
              have hz5 := (HF3.out _ hb).2.1
              clear hb
              have hba := fun W => refBare_calls 5 W
              unfold fltV at hba
              replace hba := Lib.hid hba
              go_wp2_with fail
              refine (hba.out _).mono ?_
              rintro e w8 ⟨rfl, hb⟩
              have hB8 := below_step hB5 hb
              obtain ⟨z0, z1, zf⟩ := hz5.below hb
              clear hb hba
              go_wp2_with fail
              refine bodyPost_ret (v := .tuple #[.int .i64 0, fltV (5, -1)]) (by simp [results, Tryz.results29, fltV, go_sem, *]) rfl ?_
              rw [HW.out.1, HW.out.2]
              exact ⟨rfl, (hB8.setCell (p := ⟨w.heap.size + 1, 0, none⟩) (by show w.heap.size ≤ w.heap.size + 1; omega) _).setCell (p := ⟨w.heap.size + 1, 1, none⟩) (by show w.heap.size ≤ w.heap.size + 1; omega) _⟩
            · obtain ⟨x, hx1, hx2, hx3⟩ := findE_nat (by rw [← HE3.out]; exact hneg)
              rw [← HE3.out] at hx1
              have hfe := far_end HG.out HS'.out hx2
              rw [hx3] at hfe
              rw [HLEN.out] at hx2
              subst hx1
              have hxn : (x : Int) < (n : Int) := by omega
              have hxn0 : ¬ (x : Int) < 0 := by omega
              by_cases hFx : F x = 0
              · have HW : Hid (wayErr l roots (p.data.toList, v.data.toList) = (5, -1) ∧ wayR l roots (p.data.toList, v.data.toList) = []) := Lib.hid ((HW0.out _).2 (fun hm => hfe.1.1 hm hFx))
                replace hf := Lib.hid hf
                clear hfe hx3 hneg
                go_wp2_with fail
                refine hf.out.mono ?_
                rintro e w5 ⟨rfl, hb⟩
                have g1 := (HF3.out _ hb).2.2.cell hx2
                rw [hFx] at g1
                clear hf z0 z1 zf p0 p1 hFx
                have hB5 := (HF3.out _ hb).1
                have hz5 := (HF3.out _ hb).2.1
                clear hb
                have hba := fun W => refBare_calls 5 W
                unfold fltV at hba
                replace hba := Lib.hid hba
                go_wp2_with fail
                refine (hba.out _).mono ?_
                rintro e w8 ⟨rfl, hb⟩
                have hB8 := below_step hB5 hb
                obtain ⟨z0, z1, zf⟩ := hz5.below hb
                clear hb hba
                go_wp2_with fail
                refine bodyPost_ret (v := .tuple #[.int .i64 0, fltV (5, -1)]) (by simp [results, Tryz.results29, fltV, go_sem, *]) rfl ?_
                rw [HW.out.1, HW.out.2]
                exact ⟨rfl, (hB8.setCell (p := ⟨w.heap.size + 1, 0, none⟩) (by show w.heap.size ≤ w.heap.size + 1; omega) _).setCell (p := ⟨w.heap.size + 1, 1, none⟩) (by show w.heap.size ≤ w.heap.size + 1; omega) _⟩
              · have HW : Hid (wayErr l roots (p.data.toList, v.data.toList) = (0, -1) ∧ wayR l roots (p.data.toList, v.data.toList) = wayTo l roots (p.data.toList, v.data.toList)) := Lib.hid ((HW0.out _).1 (hfe.1.2 hFx))
                have HWL : Hid (F x = (wayTo l roots (p.data.toList, v.data.toList)).length) := Lib.hid (hfe.2 hFx)
                have hne : (((F x : Nat) : Int) == 0) = false := beq_eq_false_iff_ne.2 (by omega)
                have hfi := fun W => refFine_calls W
                unfold fltV at hfi
                replace hf := Lib.hid hf
                replace hfi := Lib.hid hfi
                clear hfe hx3 hneg hFx
                go_wp2_with fail
                refine hf.out.mono ?_
                rintro e w5 ⟨rfl, hb⟩
                have g1 := (HF3.out _ hb).2.2.cell hx2
                have hB5 := (HF3.out _ hb).1
                have hz5 := (HF3.out _ hb).2.1
                have hrow5 := (HF3.out _ hb).2.2
                obtain ⟨z0, z1, zf⟩ := id hz5
                clear hf p0 p1
                go_wp2_with fail
                go_region_with (go_at_call 72; refine (hfi.out _).mono ?_; rintro e w6 ⟨rfl, hb6⟩; have hB6 := below_step hB5.drew hb6; have g1 := Below.cell_some (w := w5.drew) hb6 g1; obtain ⟨z0, z1, zf⟩ := box2_belowd2 hz5 hb6; replace hB6 := Lib.hid hB6)
                all_goals
                  go_wp2_with fail
                  refine bodyPost_ret (v := .tuple #[.int .i64 (F x : Nat), fltV (0, -1)]) (by simp [results, Tryz.results29, fltV, go_sem, *]) rfl ?_
                  rw [HW.out.1, HW.out.2, ← HWL.out]
                  exact ⟨rfl, (hB6.out.setCell (p := ⟨w.heap.size + 1, 0, none⟩) (by show w.heap.size ≤ w.heap.size + 1; omega) _).setCell (p := ⟨w.heap.size + 1, 1, none⟩) (by show w.heap.size ≤ w.heap.size + 1; omega) _⟩
  · have hc9 : (0 : Int) < (fc : Int) := by omega
    have hc8 : ((fc : Int) == 0) = false := beq_eq_false_iff_ne.2 (by omega)
    have HTR := Lib.hid (HWE.out h0)
    obtain ⟨z0, z1, zf⟩ := id hz
    clear h0 HWE HWR
    go_wp2_with fail
    generalize w2.alloc (.cells #[.int .i64 (fc : Nat), .int .i64 fa] 49) = w3 at *
    generalize w2.heap.size = bx at *
    go_region
    all_goals
      go_wp2_with fail
      refine bodyPost_ret (v := .tuple #[.int .i64 0, fltV (fc, fa)]) (by simp [results, Tryz.results29, fltV, go_sem, *]) rfl ?_
      rw [HTR.out.1, HTR.out.2]
      exact ⟨rfl, (hB.drew.setCell (p := ⟨w.heap.size + 1, 0, none⟩) (by show w.heap.size ≤ w.heap.size + 1; omega) _).setCell (p := ⟨w.heap.size + 1, 1, none⟩) (by show w.heap.size ≤ w.heap.size + 1; omega) _⟩
end Go.Proofs.Pw

/- GraphTells: its walk. -/
namespace Go.Proofs.Pw
open Go.RowKit
open Go.Lib hiding intOf

theorem wayErr_le (l : List En) (roots : List Md) (m : Md) : (wayErr l roots m).1 ≤ 10 := by
  unfold wayErr
  split
  · exact startErr_le l roots
  · split
    · exact (by decide : 0 ≤ 10)
    · exact (by decide : 5 ≤ 10)
/-- what is shared by the walks -/
structure GtArgs (ks : List Nat) (A : Nat → Addr) (la : Option Addr) (ln lc : Nat) (P V : Nat → ByteArray) (R : Nat → List Md) (K : Nat → List Str) (Bk : Nat → Bool) (Rv Kv : Nat → Value) (av : Value) (Am : List Md) (w : World) : Prop where
  idx : IdxKs ks
  env : EnvP ks A w
  envC : EnvC A w
  l : EntsIn w la ln lc P V R K Bk Rv Kv
  a : ModsAt w av Am

set_option maxHeartbeats 4000000 in
set_option maxRecDepth 100000 in
theorem grTells_long (ks : List Nat) (A : Nat → Addr) (la : Option Addr) (ln lc : Nat) (P V : Nat → ByteArray) (R : Nat → List Md) (K : Nat → List Str) (Bk : Nat → Bool) (Rv Kv : Nat → Value) (av : Value) (Am : List Md) (p v : ByteArray) (w : World) (H : GtArgs ks A la ln lc P V R K Bk Rv Kv av Am w)
    (hlong : longIdx (enF ln P V R K Bk) = true ∨ (longIdx (enF ln P V R K Bk) = false ∧ (longMods Am 15 = true ∨ (longMods Am 15 = false ∧ (70 < p.size ∨ (p.size ≤ 70 ∧ 60 < v.size)))))) :
    Calls Tryz.prog 5 #[.slice la ln lc, av, .agg #[.string p, .string v]] w fun e w' => e = .returned (.bool true) ∧ Below w.heap.size w w' := by
  obtain ⟨a1, n1, c1, _, _, rfl, _⟩ := id H.a
  have hB := below_alloc w (.cells #[.string p, .string v] 38)
  have hm := box2_alloc w (.string p) (.string v) 38
  have hre := reached_calls ks A H.idx _ (H.env.below hB)
  have hlx := fun (W : World) (hb : Below w.heap.size w W) => longIndex_in la ln lc P V R K Bk Rv Kv W (H.l.below hb)
  have hlm1 := fun (W : World) (hb : Below w.heap.size w W) => longMods_calls (.slice a1 n1 c1) Am 15 W (H.a.below hb)
  replace hre := Lib.hid hre
  replace hlx := Lib.hid hlx
  replace hlm1 := Lib.hid hlm1
  clear H
  rcases hlong with h1 | ⟨h1, h2 | ⟨h2, h3⟩⟩
  · rw [longII_yes h1] at hlx
    clear h1
    obtain ⟨z0, z1, zf⟩ := id hm
    go_enter Tryz.func5, Tryz.ntmps5
    go_wp2_with fail
    refine hre.out.mono ?_
    generalize w.alloc (.cells #[.string p, .string v] 38) = w0 at *
    rintro e w1 ⟨rfl, hb⟩
    replace hB := below_step hB hb
    replace hm := hm.below hb
    clear hb hre z0 z1 zf
    obtain ⟨z0, z1, zf⟩ := id hm
    go_wp2_with fail
    refine (hlx.out _ hB).mono ?_
    rintro e w' ⟨rfl, rfl⟩
    go_wp2_with fail
    go_ret
    exact ⟨rfl, hB⟩
  · rw [longII_no h1] at hlx
    rw [longI_yes h2] at hlm1
    clear h1 h2
    obtain ⟨z0, z1, zf⟩ := id hm
    go_enter Tryz.func5, Tryz.ntmps5
    go_wp2_with fail
    refine hre.out.mono ?_
    generalize w.alloc (.cells #[.string p, .string v] 38) = w0 at *
    rintro e w1 ⟨rfl, hb⟩
    replace hB := below_step hB hb
    replace hm := hm.below hb
    clear hb hre z0 z1 zf
    obtain ⟨z0, z1, zf⟩ := id hm
    go_wp2_with fail
    refine (hlx.out _ hB).mono ?_
    rintro e w' ⟨rfl, rfl⟩
    go_wp2_with fail
    refine (hlm1.out _ hB).mono ?_
    rintro e w' ⟨rfl, rfl⟩
    go_wp2_with fail
    go_ret
    exact ⟨rfl, hB⟩
  · rw [longII_no h1] at hlx
    rw [longI_no h2] at hlm1
    clear h1 h2
    rcases h3 with h4 | ⟨h4, h5⟩
    · have h4' : (70 : Int) < (p.size : Int) := by omega
      obtain ⟨z0, z1, zf⟩ := id hm
      go_enter Tryz.func5, Tryz.ntmps5
      go_wp2_with fail
      refine hre.out.mono ?_
      generalize w.alloc (.cells #[.string p, .string v] 38) = w0 at *
      rintro e w1 ⟨rfl, hb⟩
      replace hB := below_step hB hb
      replace hm := hm.below hb
      clear hb hre z0 z1 zf
      obtain ⟨z0, z1, zf⟩ := id hm
      go_wp2_with fail
      refine (hlx.out _ hB).mono ?_
      rintro e w' ⟨rfl, rfl⟩
      go_wp2_with fail
      refine (hlm1.out _ hB).mono ?_
      rintro e w' ⟨rfl, rfl⟩
      go_wp2_with fail
      go_ret
      exact ⟨rfl, hB⟩
    · have h4' : ¬ (70 : Int) < (p.size : Int) := by omega
      have h5' : (60 : Int) < (v.size : Int) := by omega
      obtain ⟨z0, z1, zf⟩ := id hm
      go_enter Tryz.func5, Tryz.ntmps5
      go_wp2_with fail
      refine hre.out.mono ?_
      generalize w.alloc (.cells #[.string p, .string v] 38) = w0 at *
      rintro e w1 ⟨rfl, hb⟩
      replace hB := below_step hB hb
      replace hm := hm.below hb
      clear hb hre z0 z1 zf
      obtain ⟨z0, z1, zf⟩ := id hm
      go_wp2_with fail
      refine (hlx.out _ hB).mono ?_
      rintro e w' ⟨rfl, rfl⟩
      go_wp2_with fail
      refine (hlm1.out _ hB).mono ?_
      rintro e w' ⟨rfl, rfl⟩
      go_wp2_with fail
      go_ret
      exact ⟨rfl, hB⟩

set_option maxHeartbeats 8000000 in
set_option maxRecDepth 100000 in
theorem grTells_main (ks : List Nat) (A : Nat → Addr) (la : Option Addr) (ln lc : Nat) (P V : Nat → ByteArray) (R : Nat → List Md) (K : Nat → List Str) (Bk : Nat → Bool) (Rv Kv : Nat → Value) (av : Value) (Am : List Md) (p v : ByteArray) (w : World) (H : GtArgs ks A la ln lc P V R K Bk Rv Kv av Am w)
    (h1 : longIdx (enF ln P V R K Bk) = false) (h2 : longMods Am 15 = false) (h3 : p.size ≤ 70) (h4 : v.size ≤ 60) :
    Calls Tryz.prog 5 #[.slice la ln lc, av, .agg #[.string p, .string v]] w fun e w' => e = .returned (.bool true) ∧ Below w.heap.size w w' := by
  obtain ⟨a1, n1, c1, _, _, rfl, _⟩ := id H.a
  have hB := below_alloc w (.cells #[.string p, .string v] 38)
  have hm := box2_alloc w (.string p) (.string v) 38
  have hre := reached_calls ks A H.idx _ (H.env.below hB)
  have hlx := fun (W : World) (hb : Below w.heap.size w W) => longIndex_in la ln lc P V R K Bk Rv Kv W (H.l.below hb)
  have hlm1 := fun (W : World) (hb : Below w.heap.size w W) => longMods_calls (.slice a1 n1 c1) Am 15 W (H.a.below hb)
  have hsi := longIdx_short h1
  have hsm := longIdx_small h1
  have hA1 := longMods_small h2
  have HH := Lib.hid H
  have HSI := Lib.hid hsi
  have h3' : ¬ (70 : Int) < (p.size : Int) := by omega
  have h4' : ¬ (60 : Int) < (v.size : Int) := by omega
  have hn101 : ln ≤ 101 := by have := hsm.1; rwa [enF_length] at this
  have how := fun (W : World) (hb : Below w.heap.size w W) => ownIndex_calls (.slice la ln lc) (enF ln P V R K Bk) W ⟨la, ln, lc, P, V, R, K, Bk, Rv, Kv, rfl, rfl, HH.out.l.below hb⟩ (by rw [enF_length]; omega) (fun e he => by
    have h4 := longEn_small (hsm.2 e he)
    have h5 := longMods_small h4.2.2.1
    exact ⟨by omega, by omega⟩)
  have hom1 := fun (W : World) (hb : Below w.heap.size w W) => ownMods_calls (.slice a1 n1 c1) Am W (HH.out.a.below hb) (by omega)
  have hrr := fun (W : World) (hb : Below w.heap.size w W) => reachOf_in la ln lc P V R K Bk Rv Kv (.slice a1 n1 c1) Am W (HH.out.l.below hb) (HH.out.a.below hb) hsi (by omega)
  have hfa := fun (W : World) (hb : Below w.heap.size w W) => farOf_in la ln lc P V R K Bk Rv Kv (.slice a1 n1 c1) Am p v W (HH.out.l.below hb) (HH.out.a.below hb) hsi (by omega)
  have hfo := fun (q u : ByteArray) (W : World) (hb : Below w.heap.size w W) => findOf_in la ln lc P V R K Bk Rv Kv q u W (HH.out.l.below hb) (by omega)
  have hE := fun (W : World) (hb : Below w.heap.size w W) => HH.out.env.below hb
  have hEC := fun (W : World) (hb : Below w.heap.size w W) => HH.out.envC.below hb
  have HL := Lib.hid HH.out.l
  have HEN : Hid (∀ j, j < ln → enAt (enF ln P V R K Bk) j = ⟨((P j).data.toList, (V j).data.toList), R j, K j, Bk j⟩) := Lib.hid (fun j hj => enAt_enF hj)
  have HLEN : Hid ((enF ln P V R K Bk).length = ln) := Lib.hid (enF_length _ _ _ _ _ _)
  rw [longII_no h1] at hlx
  rw [longI_no h2] at hlm1
  have hAl := hA1.1
  have HI := Lib.hid HH.out.idx
  generalize hl0 : enF ln P V R K Bk = l at *
  have lS := startErr_le l Am
  have lW := wayErr_le l Am (p.data.toList, v.data.toList)
  have hfS := fun (W : World) (ev : Value) (h1 : Below w.heap.size w W) (h2 : FaultAt A W ev (startErr l Am)) => faulted2_calls A ev _ W (hEC W h1) h2 lS
  have hfW := fun (W : World) (ev : Value) (h1 : Below w.heap.size w W) (h2 : FaultAt A W ev (wayErr l Am (p.data.toList, v.data.toList))) => faulted2_calls A ev _ W (hEC W h1) h2 lW
  have hrq : ∀ m ∈ reachR l Am, (reqsOf l m).length ≤ 20 ∧ (findE l m).toNat < l.length ∧ findE l m = ((findE l m).toNat : Int) := fun m hm => reach_reqs hm
  have hxl := reachR_len l Am
  unfold fltV at hrr hfa
  obtain ⟨SE, hSE⟩ : ∃ x, x = startErr l Am := ⟨_, rfl⟩
  obtain ⟨WE, hWE⟩ : ∃ x, x = wayErr l Am (p.data.toList, v.data.toList) := ⟨_, rfl⟩
  obtain ⟨WR, hWR⟩ : ∃ x, x = wayR l Am (p.data.toList, v.data.toList) := ⟨_, rfl⟩
  obtain ⟨X, hX⟩ : ∃ x, x = reachR l Am := ⟨_, rfl⟩
  simp only [← hSE, ← hX] at hrr hfS
  simp only [← hWE, ← hWR] at hfa hfW
  rw [← hX] at hrq hxl
  obtain ⟨sc, sa⟩ := SE
  obtain ⟨wc, wa⟩ := WE
  simp only at hrr hfa hfS hfW
  have HEQ := Lib.hid (And.intro hSE (And.intro hWE (And.intro hWR hX)))
  have HRQ := Lib.hid hrq
  have HXL := Lib.hid hxl
  replace hre := Lib.hid hre
  replace hlx := Lib.hid hlx
  replace hlm1 := Lib.hid hlm1
  replace how := Lib.hid how
  replace hom1 := Lib.hid hom1
  replace hE := Lib.hid hE
  replace hrr := Lib.hid hrr
  replace hfa := Lib.hid hfa
  replace hfo := Lib.hid hfo
  replace hfS := Lib.hid hfS
  replace hfW := Lib.hid hfW
  clear h1 h2 h3 h4 hsi hsm hA1 H hl0 hEC lS lW hSE hWE hWR hX hrq hxl
  obtain ⟨z0, z1, zf⟩ := id hm
  go_enter Tryz.func5, Tryz.ntmps5
  go_wp2_with fail
  refine hre.out.mono ?_
  generalize w.alloc (.cells #[.string p, .string v] 38) = w0 at *
  rintro e w1 ⟨rfl, hb⟩
  replace hB := below_step hB hb
  replace hm := hm.below hb
  clear hb hre z0 z1 zf
  obtain ⟨z0, z1, zf⟩ := id hm
  go_wp2_with fail
  refine (hlx.out _ hB).mono ?_
  rintro e w' ⟨rfl, rfl⟩
  go_wp2_with fail
  refine (hlm1.out _ hB).mono ?_
  rintro e w' ⟨rfl, rfl⟩
  clear hlx hlm1
  go_wp2_with fail
  refine (how.out _ hB).mono ?_
  rintro e w2 ⟨⟨ov, rfl, hOE⟩, hb⟩
  replace hB := below_step hB hb
  replace hm := hm.below hb
  obtain ⟨oa, on, oc, P', V', R', K', B', Rv', Kv', rfl, hOl, hO⟩ := hOE
  have HO := Lib.hid hO
  have HOL := Lib.hid hOl
  have hC := Below.refl w2.heap.size w2
  clear hO hOl hb how z0 z1 zf
  go_wp2_with fail
  refine (hom1.out _ hB).mono ?_
  rintro e w3 ⟨⟨v3, rfl, hM3, _⟩, hb⟩
  replace hB := below_step hB hb
  replace hC := below_step hC hb
  replace hm := hm.below hb
  obtain ⟨a3, n3, c3, _, _, rfl, _⟩ := id hM3
  have HM3 := Lib.hid hM3
  have hD := Below.refl w3.heap.size w3
  have hr4 := fun W (hb : Below w.heap.size w W) (hc : Below w2.heap.size w2 W) (hd : Below w3.heap.size w3 W) => grReach_in ks A HI.out oa on oc P' V' R' K' B' Rv' Kv' (.slice a3 n3 c3) Am W (hE.out W hb) (HO.out.below hc) (by rw [← HOL.out]; exact HSI.out) (HM3.out.below hd) (by omega)
  have hg4 := fun W (hb : Below w.heap.size w W) (hc : Below w2.heap.size w2 W) (hd : Below w3.heap.size w3 W) => grEdges_in ks A HI.out oa on oc P' V' R' K' B' Rv' Kv' (.slice a3 n3 c3) Am W (hE.out W hb) (HO.out.below hc) (by rw [← HOL.out]; exact HSI.out) (HM3.out.below hd) (by omega)
  have hw4 := fun W (hb : Below w.heap.size w W) (hc : Below w2.heap.size w2 W) (hd : Below w3.heap.size w3 W) => grWay_in ks A HI.out oa on oc P' V' R' K' B' Rv' Kv' (.slice a3 n3 c3) Am p v W (hE.out W hb) (HO.out.below hc) (by rw [← HOL.out]; exact HSI.out) (HM3.out.below hd) (by omega)
  simp only [← HOL.out, ← HEQ.out.1, ← HEQ.out.2.1, ← HEQ.out.2.2.1, ← HEQ.out.2.2.2] at hr4 hg4 hw4
  replace hr4 := Lib.hid hr4
  replace hg4 := Lib.hid hg4
  replace hw4 := Lib.hid hw4
  clear hb hM3 hom1
  go_wp2_with fail
  refine (hr4.out _ hB hC hD).mono ?_
  rintro e w4 ⟨⟨x4, ev4, rfl, hf4, hx4⟩, hb⟩
  replace hB := below_step hB hb
  replace hC := below_step hC hb
  replace hD := below_step hD hb
  replace hm := hm.below hb
  obtain ⟨a4, n4, c4, _, _, rfl, _⟩ := id hx4
  have HF4 := Lib.hid hf4
  have HX4 := Lib.hid hx4
  clear hb hr4 hf4 hx4
  go_wp2_with fail
  refine (hrr.out _ hB).mono ?_
  rintro e w5 ⟨⟨x5, rfl, hx5⟩, hb⟩
  have hba := below_alloc w5 (.cells #[.int .i64 (sc : Nat), .int .i64 sa] 49)
  have hz := box2_alloc w5 (.int .i64 (sc : Nat)) (.int .i64 sa) 49
  replace hD := below_step hD hb
  replace hC := below_step hC hb
  have hs5 := hD.size
  have hsb := (below_step hB hb).size
  replace hx5 := hx5.below hba
  replace hb := below_step hb hba
  replace hC := below_step hC hba
  replace hD := below_step hD hba
  replace hB := below_step hB hb
  replace hm := hm.below hb
  have hf4 := HF4.out.below hb
  have hx4 := HX4.out.below hb
  obtain ⟨a5, n5, c5, Q, U, rfl, eX, hmc, hcap2, hc5⟩ := id hx5
  have hxl5 : n5 ≤ 100 := by have := HXL.out; rwa [eX, mdF_length] at this
  have hft := hfS.out _ ev4 hB hf4
  have hsm := fun W (hW : Below (w5.alloc (.cells #[.int .i64 (sc : Nat), .int .i64 sa] 49)).heap.size (w5.alloc (.cells #[.int .i64 (sc : Nat), .int .i64 sa] 49)) W) => sameMods_calls _ _ _ _ W (hx4.below hW) (hx5.below hW)
  rw [decide_eq_true rfl] at hsm
  have HEX := Lib.hid eX
  replace hft := Lib.hid hft
  replace hsm := Lib.hid hsm
  replace hc5 := Lib.hid hc5
  clear hb hba hrr hf4 hx4 hx5 HF4 HX4 eX
  obtain ⟨z0, z1, zf⟩ := id hz
  go_wp2_with fail
  generalize w5.alloc (.cells #[.int .i64 (sc : Nat), .int .i64 sa] 49) = w6 at *
  generalize w5.heap.size = bf at *
  refine hft.out.mono ?_
  rintro e w7 ⟨rfl, hb⟩
  have hG := hb
  replace hB := below_step hB hb
  replace hC := below_step hC hb
  replace hD := below_step hD hb
  replace hz := hz.below hb
  replace hm := hm.below hb
  have hsm7 := hsm.out _ hb
  replace hsm7 := Lib.hid hsm7
  clear hb hft hsm z0 z1 zf
  go_wp2_with fail
  refine hsm7.out.mono ?_
  rintro e w8 ⟨rfl, hb⟩
  replace hB := below_step hB hb
  replace hC := below_step hC hb
  replace hD := below_step hD hb
  replace hG := below_step hG hb
  replace hz := hz.below hb
  replace hm := hm.below hb
  clear hb hsm7
  go_wp2_with fail
  refine (hg4.out _ hB hC hD).mono ?_
  rintro e w9 ⟨⟨ev9, rfl, hf9⟩, hb⟩
  replace hB := below_step hB hb
  replace hC := below_step hC hb
  replace hD := below_step hD hb
  replace hG := below_step hG hb
  replace hz := hz.below hb
  replace hm := hm.below hb
  have HF9 := Lib.hid hf9
  have HXE : Hid ((edgesN l X : Nat) = edgesN l (mdF n5 Q U)) := Lib.hid (by rw [HEX.out])
  generalize edgesN l X = XE at *
  clear hb hg4 hf9
  go_wp2_with fail
  go_loopw [15, 16] (fun s i wr => ∃ k : Nat, k ≤ n5 ∧ i = .int .i64 k ∧ s = .int .i64 (edgesN l ((mdF n5 Q U).take k) : Nat) ∧ Below w9.heap.size w9 wr) (fun _ i _ => n5 - (intOf i).toNat)
  case atStart => exact ⟨0, Nat.zero_le _, rfl, rfl, Below.refl _ _⟩
  case round =>
    obtain ⟨k, hk, rfl, rfl, hBk⟩ := hrel
    by_cases hlt : k < n5
    · have hkn : (k : Int) < (n5 : Int) := by omega
      obtain ⟨b1, o1, ea, c0, c1⟩ := hc5.out k hlt
      replace c0 := Below.cell_some (below_step hG hBk) c0
      replace c1 := Below.cell_some (below_step hG hBk) c1
      subst ea
      have hf := hfo.out (Q k) (U k) _ (below_step hB hBk)
      have hmm := HRQ.out _ (by rw [HEX.out]; exact List.mem_of_getElem? (mdF_get n5 Q U k hlt))
      obtain ⟨hm1, hm2, hm3⟩ := hmm
      rw [HLEN.out] at hm2
      have HTK : Hid (edgesN l ((mdF n5 Q U).take (k + 1)) = edgesN l ((mdF n5 Q U).take k) + (reqsOf l ((Q k).data.toList, (U k).data.toList)).length) := Lib.hid (by rw [mdF_take_succ n5 Q U k hlt, edgesN_snoc])
      have hes := edgesN_le (l := l) (x := (mdF n5 Q U).take k) (fun m hm => (HRQ.out m (by rw [HEX.out]; exact List.mem_of_mem_take hm)).1)
      have htl : ((mdF n5 Q U).take k).length ≤ 100 := by rw [List.length_take]; omega
      have hes2 : edgesN l ((mdF n5 Q U).take k) ≤ 2000 := by omega
      unfold reqsOf at hm1 HTK
      rw [hm3] at hf
      generalize (findE l ((Q k).data.toList, (U k).data.toList)).toNat = x at *
      rw [HEN.out x hm2] at hm1 HTK
      simp only at hm1 HTK
      obtain ⟨b2, o2, eb, hcell⟩ := HL.out.at_ x hm2
      obtain ⟨a6, n6, c6, e1, e2, _, _⟩ := (show ∃ a3 n3 c3, Rv x = .slice a3 n3 c3 ∧ (R x).length = n3 ∧ True ∧ True from by
        obtain ⟨a3, n3, c3, _, _, e1, e2, _⟩ := HL.out.reqs x hm2
        exact ⟨a3, n3, c3, e1, by rw [e2, mdF_length], trivial, trivial⟩)
      rw [e2] at hm1 HTK
      have d2 := hcell.c2
      rw [e1] at d2
      subst eb
      generalize edgesN l ((mdF n5 Q U).take k) = S at *
      have hxn : (x : Int) < (ln : Int) := by omega
      have hwr := wrap_nat (S + n6) (by omega)
      have hc0 : (((S + n6 : Nat)) : Int) = (S : Int) + (n6 : Int) := by omega
      rw [hc0] at hwr
      have HTK2 : Hid ((edgesN l ((mdF n5 Q U).take (k + 1)) : Nat) = S + n6) := Lib.hid HTK.out
      replace hf := Lib.hid hf
      clear hm1 hm3 hes hes2 htl HTK e1 e2 hcell hc0
      go_wp2_with fail
      refine hf.out.mono ?_
      rintro e w10 ⟨rfl, hb⟩
      replace hBk := below_step hBk hb
      replace d2 := Below.cell_some (below_step hB hBk) d2
      clear hb hf c0 c1
      go_wp2_with fail
      go_roundw
      case rel => exact ⟨k + 1, by omega, by go_num, by rw [HTK2.out]; first | rfl | (congr 1; omega) | simp, hBk⟩
      case measure => simp [intOf]; omega
    · have hkn : k = n5 := by omega
      have hnk : ¬ (k : Int) < (n5 : Int) := by omega
      have hes : edgesN l ((mdF n5 Q U).take k) = XE := by rw [hkn, mdF_take_all n5 Q U, HXE.out]
      rw [hes]
      replace hB := below_step hB hBk
      replace hC := below_step hC hBk
      replace hD := below_step hD hBk
      replace hz := hz.below hBk
      replace hm := hm.below hBk
      have hf9 := HF9.out.below hBk
      have hft := hfS.out _ _ hB hf9
      replace hft := Lib.hid hft
      clear hkn hlt hk hes hBk hf9 HF9 hG
      obtain ⟨z0, z1, zf⟩ := id hz
      go_wp2_with fail
      refine hft.out.mono ?_
      rintro e w11 ⟨rfl, hb⟩
      replace hB := below_step hB hb
      replace hC := below_step hC hb
      replace hD := below_step hD hb
      replace hz := hz.below hb
      replace hm := hm.below hb
      clear hb hft z0 z1 zf
      obtain ⟨m0, m1, _⟩ := id hm
      go_wp2_with fail
      refine (hw4.out _ hB hC hD).mono ?_
      rintro e w12 ⟨⟨x12, ev12, rfl, hf12, hx12⟩, hb⟩
      replace hB := below_step hB hb
      replace hz := hz.below hb
      replace hm := hm.below hb
      have HF12 := Lib.hid hf12
      obtain ⟨a12, c12, rfl⟩ := mods_len hx12
      clear hb hw4 hf12 hx12 m0 m1 hC hD
      obtain ⟨m0, m1, _⟩ := id hm
      go_wp2_with fail
      refine (hfa.out _ hB).mono ?_
      rintro e w13 ⟨rfl, hb⟩
      replace hB := below_step hB hb
      replace hz := hz.below hb
      have hf13 := (HF12.out.below hb).flt hz (.int .i64 (wc : Nat)) (.int .i64 wa)
      obtain ⟨z0, z1, zf⟩ := id hz
      have hz2 := hz.sto (.int .i64 (wc : Nat)) (.int .i64 wa)
      have hB2 := below_sto2 hB (b := bf) (by omega) (.int .i64 (wc : Nat)) (.int .i64 wa)
      have hft := hfW.out _ _ hB2 hf13
      replace hft := Lib.hid hft
      clear hb hfa hf13 HF12 m0 m1 hm hB hz
      go_wp2_with fail
      generalize (w13.setCell ⟨bf, 0, none⟩ (.int .i64 (wc : Nat))).setCell ⟨bf, 1, none⟩ (.int .i64 wa) = w14 at *
      clear z0 z1 zf
      obtain ⟨z0, z1, zf⟩ := id hz2
      go_wp2_with fail
      refine hft.out.mono ?_
      rintro e w15 ⟨rfl, hb⟩
      go_wp2_with fail
      go_ret
      exact ⟨rfl, below_step hB2 hb⟩

theorem grTells_calls (ks : List Nat) (A : Nat → Addr) (hks : IdxKs ks) (lv av : Value) (l : List En) (Am : List Md) (p v : ByteArray) (w : World) (hE : EnvP ks A w) (hC : EnvC A w) (hl : EntsAt w lv l) (ha : ModsAt w av Am) :
    Calls Tryz.prog 5 #[lv, av, .agg #[.string p, .string v]] w fun e w' => e = .returned (.bool true) ∧ Below w.heap.size w w' := by
  obtain ⟨la, ln, lc, P, V, R, K, Bk, Rv, Kv, rfl, rfl, hin⟩ := hl
  have H : GtArgs ks A la ln lc P V R K Bk Rv Kv av Am w := ⟨hks, hE, hC, hin, ha⟩
  cases h1 : longIdx (enF ln P V R K Bk)
  · cases h2 : longMods Am 15
    · by_cases h3 : p.size ≤ 70
      · by_cases h4 : v.size ≤ 60
        · exact grTells_main ks A la ln lc P V R K Bk Rv Kv av Am p v w H h1 h2 h3 h4
        · exact grTells_long ks A la ln lc P V R K Bk Rv Kv av Am p v w H (.inr ⟨h1, .inr ⟨h2, .inr ⟨h3, by omega⟩⟩⟩)
      · exact grTells_long ks A la ln lc P V R K Bk Rv Kv av Am p v w H (.inr ⟨h1, .inr ⟨h2, .inl (by omega)⟩⟩)
    · exact grTells_long ks A la ln lc P V R K Bk Rv Kv av Am p v w H (.inr ⟨h1, .inl h2⟩)
  · exact grTells_long ks A la ln lc P V R K Bk Rv Kv av Am p v w H (.inl h1)
end Go.Proofs.Pw
