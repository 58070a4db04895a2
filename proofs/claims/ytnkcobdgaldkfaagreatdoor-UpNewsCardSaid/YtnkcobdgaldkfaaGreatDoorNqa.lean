/- Nq: walks and plain laws, joined: LatestMath LeastMath UpMath SlDel SortLayS Build VerSort VoMath RefSort IdxVers IdxLatest UpLatest UpOne UpAll Upped Rise SlDelF Rise2 UpNews. Conditions: at each theorem. -/
import Derived.Test.YtnkcobdgaldkfaaGreatDoorMpa
import Derived.Test.YtnkcobdgaldkfaaGreatDoorMpc
import Derived.Lib.SlKept
import Derived.Lib.SliceRun
import Derived.LoopTactic
import Derived.Sort.EncStr
import Derived.Deep.LoopGhost
import Derived.Shelf.Abstract
import Derived.RegionTactic
import Derived.BigRegion
import Derived.WalkKit
import Derived.Test.YtnkcobdgaldkfaaGreatDoorProg
import Derived.Shelf.SlSortCmp.NoneTotal
import Derived.Test.YtnkcobdgaldkfaaGreatDoorShelf
import Derived.Shelf.Strings.BuilderK
import Derived.Shelf.Strings.OnBuilder
import Derived.Test.YtnkcobdgaldkfaaGreatDoorMpd
import Derived.Shelf.SlSortCmp.Whole1
import Derived.Stop.IfaceNil
import Derived.Test.YtnkcobdgaldkfaaGreatDoorMpb
import Derived.Lib.AppendZeros
import Derived.Deep.Upon
import Derived.Deep.Onto
import Derived.Laws.EntriesVeiled
import Derived.Deep.AppendLies
import Derived.Deep.RegionHeld2

/- Plain mathematics of index.Versions, Liked, Latest, and of the references' LatestOf. No program in sight. -/
namespace Go.Proofs.Pw
open Go.Lib hiding intOf

def versL (l : List En) (p : Str) : List Str := (l.filter fun e => decide (e.md.1 = p)).map (·.md.2)
/-- taken back -/
def backB (l : List En) (p v : Str) : Bool := decide (0 ≤ findE l (p, v)) && (enAt l (findE l (p, v)).toNat).back
/-- with a pre, or none at all -/
def preB (v : Str) : Bool := decide (verErr v ≠ 0) || decide (0 < (verPre v).length)
def likedL (l : List En) (p : Str) (vs : List Str) : List Str :=
  if vs.filter (fun v => !(backB l p v || preB v)) ≠ [] then vs.filter (fun v => !(backB l p v || preB v))
  else if vs.filter (fun v => !backB l p v) ≠ [] then vs.filter (fun v => !backB l p v) else vs
def lastS (vs : List Str) : Str := (vs.getLast?).getD []
def latestL (l : List En) (p : Str) : Str := lastS (likedL l p (vsort (versL l p)))

/-! ### the references' ranks -/
def rankS (l : List En) (p v : Str) : Nat := if backB l p v = true then 0 else if preB v = true then 1 else 2
/-- the best so far, and its rank: the later one where they are alike -/
def bestS (rk : Str → Nat) : List Str → Str × Int → Str × Int
  | [], b => b
  | v :: r, b => bestS rk r (if b.2 ≤ (rk v : Int) then (v, (rk v : Int)) else b)
theorem bestS_app (rk : Str → Nat) : ∀ (a b : List Str) (x : Str × Int), bestS rk (a ++ b) x = bestS rk b (bestS rk a x)
  | [], _, _ => rfl
  | v :: a, b, x => by simp only [List.cons_append, bestS]; exact bestS_app rk a b _
theorem bestS_snoc (rk : Str → Nat) (l : List Str) (v : Str) (x : Str × Int) : bestS rk (l ++ [v]) x = if (bestS rk l x).2 ≤ (rk v : Int) then (v, (rk v : Int)) else bestS rk l x := by
  rw [bestS_app]; rfl
theorem snoc_ind {α : Type} {p : List α → Prop} (h0 : p []) (h1 : ∀ l a, p l → p (l ++ [a])) (l : List α) : p l := by
  have : ∀ r : List α, p r.reverse := fun r => by
    induction r with
    | nil => exact h0
    | cons a r ih => rw [List.reverse_cons]; exact h1 _ _ ih
  have h := this l.reverse
  rwa [List.reverse_reverse] at h
/-- the best is the last one of those of the greatest rank -/
theorem bestS_spec (rk : Str → Nat) (l : List Str) : (l = [] ∧ bestS rk l ([], -1) = ([], -1)) ∨ ∃ k : Nat, (bestS rk l ([], -1)).2 = k ∧ (∀ v ∈ l, rk v ≤ k) ∧ (l.filter fun v => decide (k ≤ rk v)) ≠ [] ∧ (bestS rk l ([], -1)).1 = lastS (l.filter fun v => decide (k ≤ rk v)) := by
  induction l using snoc_ind with
  | h0 => exact .inl ⟨rfl, rfl⟩
  | h1 l v ih =>
    right
    rw [bestS_snoc]
    rcases ih with ⟨h1, h2⟩ | ⟨k, h1, h2, h3, h4⟩
    · subst h1
      rw [h2]
      refine ⟨rk v, ?_, fun x hx => ?_, ?_, ?_⟩
      · rw [if_pos (by omega)]
      · simp at hx; rw [hx]; exact Nat.le_refl _
      · simp
      · rw [if_pos (by omega)]; simp [lastS]
    · by_cases hle : k ≤ rk v
      · refine ⟨rk v, ?_, fun x hx => ?_, ?_, ?_⟩
        · rw [if_pos (by rw [h1]; omega)]
        · rcases List.mem_append.1 hx with h | h
          · exact Nat.le_trans (h2 x h) hle
          · simp at h; rw [h]; exact Nat.le_refl _
        · rw [List.filter_append]; simp
        · rw [if_pos (by rw [h1]; omega), List.filter_append]
          simp [lastS]
      · refine ⟨k, ?_, fun x hx => ?_, ?_, ?_⟩
        · rw [if_neg (by rw [h1]; omega)]; exact h1
        · rcases List.mem_append.1 hx with h | h
          · exact h2 x h
          · simp at h; rw [h]; omega
        · rw [List.filter_append]
          intro h
          exact h3 (List.append_eq_nil_iff.1 h).1
        · rw [if_neg (by rw [h1]; omega), List.filter_append]
          have : ([v].filter fun x => decide (k ≤ rk x)) = [] := by simp [hle]
          rw [this, List.append_nil]
          exact h4
/-- what the references answer is the last one of those that are liked most -/
theorem latest_best (l : List En) (p : Str) (vs : List Str) : (bestS (rankS l p) vs ([], -1)).1 = lastS (likedL l p vs) := by
  have e2 : ∀ v, decide (2 ≤ rankS l p v) = !(backB l p v || preB v) := fun v => by
    unfold rankS
    cases backB l p v <;> cases preB v <;> simp
  have e1 : ∀ v, decide (1 ≤ rankS l p v) = !backB l p v := fun v => by
    unfold rankS
    cases backB l p v <;> cases preB v <;> simp
  have e0 : ∀ v, decide (0 ≤ rankS l p v) = true := fun v => by simp
  have f2 : vs.filter (fun v => decide (2 ≤ rankS l p v)) = vs.filter fun v => !(backB l p v || preB v) := List.filter_congr (fun v _ => e2 v)
  have f1 : vs.filter (fun v => decide (1 ≤ rankS l p v)) = vs.filter fun v => !backB l p v := List.filter_congr (fun v _ => e1 v)
  have f0 : vs.filter (fun v => decide (0 ≤ rankS l p v)) = vs := List.filter_eq_self.2 (fun v _ => e0 v)
  have hle : ∀ v, rankS l p v ≤ 2 := fun v => by unfold rankS; split <;> (try split) <;> omega
  have none_of : ∀ {q : Str → Bool}, (∀ v ∈ vs, q v = false) → vs.filter q = [] := fun h => List.filter_eq_nil_iff.2 (fun v hv => by rw [h v hv]; decide)
  rcases bestS_spec (rankS l p) vs with ⟨h1, h2⟩ | ⟨k, h1, h2, h3, h4⟩
  · subst h1
    rw [h2]
    rfl
  · rw [h4]
    obtain ⟨v0, hv0⟩ := List.exists_mem_of_ne_nil _ h3
    have hv1 := (List.mem_filter.1 hv0).1
    have hv2 : k ≤ rankS l p v0 := of_decide_eq_true (List.mem_filter.1 hv0).2
    have hk2 : k ≤ 2 := Nat.le_trans hv2 (hle v0)
    unfold likedL
    by_cases hk : k = 2
    · subst hk
      rw [f2] at h3 ⊢
      rw [if_pos h3]
    · have n2 : vs.filter (fun v => !(backB l p v || preB v)) = [] := by
        rw [← f2]
        exact none_of (fun v hv => decide_eq_false (by have := h2 v hv; omega))
      rw [if_neg (by rw [n2]; exact fun h => h rfl)]
      by_cases hk1 : k = 1
      · subst hk1
        rw [f1] at h3 ⊢
        rw [if_pos h3]
      · have hk0 : k = 0 := by omega
        subst hk0
        have n1 : vs.filter (fun v => !backB l p v) = [] := by
          rw [← f1]
          exact none_of (fun v hv => decide_eq_false (by have := h2 v hv; omega))
        rw [if_neg (by rw [n1]; exact fun h => h rfl), f0]
theorem likedL_sub {l : List En} {p : Str} {vs : List Str} {v : Str} (h : v ∈ likedL l p vs) : v ∈ vs := by
  unfold likedL at h
  split at h
  · exact (List.mem_filter.1 h).1
  · split at h
    · exact (List.mem_filter.1 h).1
    · exact h
theorem likedL_len (l : List En) (p : Str) (vs : List Str) : (likedL l p vs).length ≤ vs.length := by
  unfold likedL
  split
  · exact List.length_filter_le _ _
  · split
    · exact List.length_filter_le _ _
    · exact Nat.le_refl _
theorem likedL_ne {l : List En} {p : Str} {vs : List Str} (h : vs ≠ []) : likedL l p vs ≠ [] := by
  unfold likedL
  split
  · assumption
  · split
    · assumption
    · exact h
theorem lastS_mem {vs : List Str} (h : vs ≠ []) : lastS vs ∈ vs := by
  unfold lastS
  rw [List.getLast?_eq_some_getLast h, Option.getD_some]
  exact List.getLast_mem h
theorem versL_mem {l : List En} {p v : Str} : v ∈ versL l p ↔ ∃ e ∈ l, e.md = (p, v) := by
  unfold versL
  rw [List.mem_map]
  constructor
  · rintro ⟨e, he, rfl⟩
    exact ⟨e, (List.mem_filter.1 he).1, by rw [← of_decide_eq_true (List.mem_filter.1 he).2]⟩
  · rintro ⟨e, he, e1⟩
    refine ⟨e, List.mem_filter.2 ⟨he, decide_eq_true (by rw [e1])⟩, by rw [e1]⟩
theorem vsort_len (l : List Str) : (vsort l).length ≤ l.length := List.Nodup.length_le_of_subset (by
  have := vsort_rises l
  unfold Rises at this
  exact this.imp fun {x y} h e => by subst e; rw [verCmp_ord.self] at h; omega) (fun m hm => ((vsort_mem l m).1 hm).1)
theorem versL_snoc (l : List En) (e : En) (p : Str) : versL (l ++ [e]) p = versL l p ++ (if e.md.1 = p then [e.md.2] else []) := by
  unfold versL
  rw [List.filter_append, List.map_append]
  congr 1
  by_cases h : e.md.1 = p
  · simp [h]
  · simp [h]
theorem versL_len (l : List En) (p : Str) : (versL l p).length ≤ l.length := by
  unfold versL
  rw [List.length_map]
  exact List.length_filter_le _ _
end Go.Proofs.Pw

/- Plain mathematics: closed selections; what MvsLeast asks. No program in sight. -/
namespace Go.Proofs.Pw
open Go.Lib hiding intOf

def riseB (l : List Md) : Bool := (List.range (l.length - 1)).all fun i => decide (compareBytes (mdAt l i).1 (mdAt l (i + 1)).1 < 0)
theorem riseB_iff {l : List Md} : riseB l = true ↔ RiseP l := by
  unfold riseB
  rw [List.all_eq_true]
  constructor
  · intro h
    have hf : Ord3 (fun a b : Md => compareBytes a.1 b.1) := compareBytes_ord.comap (fun m : Md => m.1)
    have := rises_step hf (l := l) (fun i h1 => by
      have h2 := of_decide_eq_true (h i (by rw [List.mem_range]; omega))
      have e1 := mdAt_get (l := l) (i := i) (by omega)
      have e2 := mdAt_get (l := l) (i := i + 1) h1
      rw [List.getElem?_eq_getElem (by omega)] at e1
      rw [List.getElem?_eq_getElem h1] at e2
      rw [Option.some.inj e1, Option.some.inj e2]
      exact h2)
    exact this
  · intro h i hi
    rw [List.mem_range] at hi
    unfold RiseP at h
    rw [List.pairwise_iff_getElem] at h
    have h2 := h i (i + 1) (by omega) (by omega) (Nat.lt_succ_self _)
    have e1 := mdAt_get (l := l) (i := i) (by omega)
    have e2 := mdAt_get (l := l) (i := i + 1) (by omega)
    rw [List.getElem?_eq_getElem (by omega)] at e1
    rw [List.getElem?_eq_getElem (by omega)] at e2
    rw [Option.some.inj e1, Option.some.inj e2] at h2
    exact decide_eq_true h2

def selErr (l : List En) (sel : List Md) : Nat × Int := orE (rootsErr l sel) (if riseB sel = true then (0, -1) else (8, -1))
def closErr (l : List En) (roots sel : List Md) : Nat × Int := orE (startErr l roots) (selErr l sel)
def reqsAt (l : List En) (m : Md) : List Md := (enAt l (findE l m).toNat).reqs
def closB (l : List En) (roots sel : List Md) : Bool := underB (roots ++ sel.flatMap (reqsAt l)) sel
def closR (l : List En) (roots sel : List Md) : Bool := if (closErr l roots sel).1 = 0 then closB l roots sel else false
theorem selErr_zero {l : List En} {sel : List Md} : (selErr l sel).1 = 0 ↔ (∀ m ∈ sel, ∃ e ∈ l, e.md = m) ∧ RiseP sel := by
  unfold selErr
  rw [orE_zero, rootsErr_zero, ← riseB_iff]
  refine and_congr_right fun _ => ?_
  by_cases h : riseB sel = true
  · rw [if_pos h]; exact ⟨fun _ => h, fun _ => rfl⟩
  · rw [if_neg h]; exact ⟨fun h2 => absurd h2 (by decide), fun h2 => absurd h2 h⟩
theorem closErr_zero {l : List En} {roots sel : List Md} : (closErr l roots sel).1 = 0 ↔ (startErr l roots).1 = 0 ∧ (∀ m ∈ sel, ∃ e ∈ l, e.md = m) ∧ RiseP sel := by
  unfold closErr
  rw [orE_zero, selErr_zero]
/-- the requirements of a module -/
theorem reqsAt_of {l : List En} (h : RightI l) {e : En} (he : e ∈ l) : reqsAt l e.md = e.reqs := by
  have h0 : ¬ findE l e.md < 0 := fun hn => findE_lt.1 hn e he rfl
  obtain ⟨k, hk, hl, e1⟩ := findE_nat h0
  unfold reqsAt
  rw [hk, show ((k : Nat) : Int).toNat = k from rfl, h.one (enAt_mem hl) he e1]
theorem closB_iff {l : List En} (h : RightI l) {roots sel : List Md} (hs : ∀ m ∈ sel, ∃ e ∈ l, e.md = m) : closB l roots sel = true ↔ (∀ m ∈ roots, hasB sel m = true) ∧ ∀ e ∈ l, e.md ∈ sel → ∀ r ∈ e.reqs, hasB sel r = true := by
  unfold closB
  rw [under_mem]
  constructor
  · intro h1
    refine ⟨fun m hm => h1 m (List.mem_append.2 (.inl hm)), fun e he hm r hr => h1 r (List.mem_append.2 (.inr (List.mem_flatMap.2 ⟨e.md, hm, by rw [reqsAt_of h he]; exact hr⟩)))⟩
  · rintro ⟨h1, h2⟩ m hm
    rcases List.mem_append.1 hm with h3 | h3
    · exact h1 m h3
    · obtain ⟨s, hs1, hr⟩ := List.mem_flatMap.1 h3
      obtain ⟨e, he, rfl⟩ := hs s hs1
      rw [reqsAt_of h he] at hr
      exact h2 e he hs1 m hr

/-- does of each path a newer version require what an older one does, in no less a version -/
def risesB (l : List En) : Bool := (List.range l.length).all fun i => (List.range l.length).all fun k => !(decide (i < k) && decide ((enAt l i).md.1 = (enAt l k).md.1)) || underB (enAt l i).reqs (enAt l k).reqs
theorem risesB_at {l : List En} (h : risesB l = true) {i k : Nat} (hik : i < k) (hk : k < l.length) (e : (enAt l i).md.1 = (enAt l k).md.1) : underB (enAt l i).reqs (enAt l k).reqs = true := by
  unfold risesB at h
  rw [List.all_eq_true] at h
  have h1 := h i (by rw [List.mem_range]; omega)
  rw [List.all_eq_true] at h1
  have h2 := h1 k (by rw [List.mem_range]; omega)
  rw [decide_eq_true hik, decide_eq_true e] at h2
  simpa using h2

/-- COX: the least of those that are closed -/
theorem cox {l : List En} {roots sel : List Md} (hG : RightG l roots) (hs : ∀ m ∈ sel, ∃ e ∈ l, e.md = m) (hr : RiseP sel) (hc : closB l roots sel = true) (hl : risesB l = true) {m : Md} (hm : Reached l roots m) : hasB sel m = true := by
  obtain ⟨c1, c2⟩ := (closB_iff hG.idx hs).1 hc
  induction hm with
  | root hm => exact c1 _ hm
  | @step e r he hre hr1 ih =>
    obtain ⟨s, hs1, e1, e2⟩ := (hasB_rise hr).1 ih
    obtain ⟨x, hx, rfl⟩ := hs s hs1
    have v1 := (modErr_zero (hG.idx.mds e he)).2
    have v2 := (modErr_zero (hG.idx.mds x hx)).2
    rw [verLess_no v2 v1] at e2
    by_cases hex : x = e
    · subst hex
      exact c2 x hx hs1 r hr1
    · obtain ⟨i, hi, rfl⟩ := mem_enAt he
      obtain ⟨k, hk, rfl⟩ := mem_enAt hx
      have hik : i < k := by
        rcases Nat.lt_trichotomy i k with h | h | h
        · exact h
        · subst h; exact absurd rfl hex
        · exfalso
          have hR := hG.idx.rise
          unfold Rises at hR
          rw [List.pairwise_iff_getElem] at hR
          have h3 := hR k i (by rw [List.length_map]; omega) (by rw [List.length_map]; omega) h
          rw [List.getElem_map, List.getElem_map, ← enAt_elem hk, ← enAt_elem hi] at h3
          unfold modCmp at h3
          rw [orI_lt] at h3
          rcases h3 with h3 | ⟨_, h3⟩
          · rw [e1] at h3; exact path_self _ h3
          · have := (verCmp_ord.anti _ _).1 h3
            omega
      have hu := risesB_at hl hik hk e1.symm
      rw [under_mem] at hu
      obtain ⟨j, hj1, hj2⟩ := hasB_iff.1 (hu r hr1)
      obtain ⟨y, hy, hp⟩ := findI_spec hj1
      have hjl := (List.getElem?_eq_some_iff.1 hy).1
      have hym := List.mem_of_getElem? hy
      rw [mdAt_get hjl] at hy
      rw [Option.some.inj hy] at hj2
      have hyp : y.1 = r.1 := of_decide_eq_true hp
      obtain ⟨z, hz, f1, f2⟩ := (hasB_rise hr).1 (c2 _ hx hs1 y hym)
      rw [hasB_rise hr]
      refine ⟨z, hz, f1.trans hyp, ?_⟩
      obtain ⟨ez, hez, rfl⟩ := hs z hz
      have v3 := (modErr_zero (hG.idx.mds ez hez)).2
      have v4 := (modErr_zero (hG.idx.req hx y hym)).2
      have v5 := (modErr_zero (hG.idx.req he r hr1)).2
      rw [verLess_no v3 v4] at f2
      rw [verLess_no v4 v5] at hj2
      rw [verLess_no v3 v5]
      exact le_trans3 hj2 f2
/-- what is built is closed -/
theorem build_closed {l : List En} {roots : List Md} (h0 : (startErr l roots).1 = 0) : closErr l roots (buildL l roots) = (0, -1) ∧ closB l roots (buildL l roots) = true := by
  have hG := rightG_of h0
  have hs : ∀ m ∈ buildL l roots, ∃ e ∈ l, e.md = m := fun m hm => hG.entry (build_reached hG hm)
  have hz : (selErr l (buildL l roots)).1 = 0 := selErr_zero.2 ⟨hs, hG.great.rise⟩
  have hr := riseB_iff.2 hG.great.rise
  refine ⟨?_, (closB_iff hG.idx hs).2 ⟨fun m hm => ?_, fun e he hm r hr => ?_⟩⟩
  · unfold closErr
    rw [startErr_at h0]
    unfold orE
    rw [if_neg (by simp)]
    unfold selErr
    rw [if_pos hr]
    unfold orE
    rw [if_neg (by have := (selErr_zero.1 hz).1; have := rootsErr_zero.2 this; simp [this])]
  · obtain ⟨x, hx, e1, e2⟩ := build_over hG (.root hm)
    exact (hasB_rise hG.great.rise).2 ⟨x, hx, e1, verLess_of_le e2⟩
  · obtain ⟨x, hx, e1, e2⟩ := build_over hG (.step he (build_reached hG hm) hr)
    exact (hasB_rise hG.great.rise).2 ⟨x, hx, e1, verLess_of_le e2⟩
theorem build_roots {l : List En} {roots : List Md} (hG : RightG l roots) : underB roots (buildL l roots) = true := by
  rw [under_mem]
  intro m hm
  obtain ⟨x, hx, e1, e2⟩ := build_over hG (.root hm)
  exact (hasB_rise hG.great.rise).2 ⟨x, hx, e1, verLess_of_le e2⟩
/-- what is built is under each that is closed -/
theorem build_least {l : List En} {roots sel : List Md} (h : (closErr l roots sel).1 = 0) (hc : closB l roots sel = true) (hl : risesB l = true) : underB (buildL l roots) sel = true := by
  obtain ⟨h0, hs, hr⟩ := closErr_zero.1 h
  have hG := rightG_of h0
  rw [under_mem]
  exact fun m hm => cox hG hs hr hc hl (build_reached hG hm)
end Go.Proofs.Pw

/- Plain mathematics of package up: one more, all that is newer, news. No program in sight. -/
namespace Go.Proofs.Pw
open Go.Lib hiding intOf

def latestM (l : List En) (sel : List Md) : List Md := sel.map fun m => (m.1, latestL l m.1)
theorem latestM_len (l : List En) (sel : List Md) : (latestM l sel).length = sel.length := by unfold latestM; rw [List.length_map]
theorem latestM_snoc (l : List En) (sel : List Md) (m : Md) : latestM l (sel ++ [m]) = latestM l sel ++ [(m.1, latestL l m.1)] := by simp [latestM]
/-- the latest of a path of the index is in the index -/
theorem latest_in {l : List En} (h : RightI l) {m : Md} {e : En} (he : e ∈ l) (hm : e.md = m) : ∃ e ∈ l, e.md = (m.1, latestL l m.1) := by
  have h1 : m.2 ∈ versL l m.1 := versL_mem.2 ⟨e, he, hm⟩
  have h2 : m.2 ∈ vsort (versL l m.1) := (vsort_mem _ _).2 ⟨h1, by rw [← hm]; exact (modErr_zero (h.mds e he)).2⟩
  have h3 : vsort (versL l m.1) ≠ [] := fun e => by rw [e] at h2; cases h2
  have h4 := likedL_sub (lastS_mem (likedL_ne (l := l) (p := m.1) h3))
  exact versL_mem.1 ((vsort_mem _ _).1 h4).1

/-! ### one more -/
def oneErr (l : List En) (roots : List Md) (m : Md) : Nat × Int := orE (startErr l roots) (if findE l m < 0 then (5, -1) else (0, -1))
noncomputable def oneR (l : List En) (roots : List Md) (m : Md) : List Md := if (oneErr l roots m).1 = 0 then buildL l (roots ++ [m]) else []
theorem oneErr_zero {l : List En} {roots : List Md} {m : Md} : (oneErr l roots m).1 = 0 ↔ (startErr l roots).1 = 0 ∧ ¬ findE l m < 0 := by
  unfold oneErr
  rw [orE_zero]
  refine and_congr_right fun _ => ?_
  split <;> simp [*]
theorem one_start {l : List En} {roots : List Md} {m : Md} (h : (startErr l roots).1 = 0) (hm : ¬ findE l m < 0) : (startErr l (roots ++ [m])).1 = 0 := by
  rw [startErr_app]
  refine ⟨h, ?_⟩
  unfold startErr at h ⊢
  rw [orE_zero] at h ⊢
  refine ⟨h.1, rootsErr_zero.2 fun x hx => ?_⟩
  simp only [List.mem_singleton] at hx
  subst hx
  obtain ⟨k, _, hk, e⟩ := findE_nat hm
  exact ⟨_, enAt_mem hk, e⟩

/-! ### news -/
def newsB (l : List En) (m : Md) : Bool := verLess m.2 (latestL l m.1)
def newsL (l : List En) (sel : List Md) : List Md := latestM l (sel.filter (newsB l))
def newsErr (l : List En) (sel : List Md) : Nat × Int := orE (idxErr l) (if riseB sel = true then (0, -1) else (8, -1))
def newsR (l : List En) (sel : List Md) : List Md := if (newsErr l sel).1 = 0 then newsL l sel else []
theorem newsL_snoc (l : List En) (sel : List Md) (m : Md) : newsL l (sel ++ [m]) = newsL l sel ++ (if newsB l m = true then [(m.1, latestL l m.1)] else []) := by
  unfold newsL
  rw [List.filter_append]
  cases h : newsB l m
  · simp [h, latestM]
  · simp [h, latestM]

/-! ### all that is newer -/
noncomputable def nextL (l : List En) (sel : List Md) : List Md := buildL l (sel ++ latestM l sel)
noncomputable def allF (l : List En) : Nat → List Md → List Md
  | 0, sel => sel
  | n + 1, sel => if nextL l sel = sel then sel else allF l n (nextL l sel)
noncomputable def allL (l : List En) (roots : List Md) : List Md := allF l (l.length + 1) (buildL l roots)
/-- is a module covered by a list: its path, in no less a version? -/
def coverB (x : List Md) (m : Md) : Bool := x.any fun y => decide (y.1 = m.1) && decide (verCmp m.2 y.2 ≤ 0)
theorem coverB_iff {x : List Md} {m : Md} : coverB x m = true ↔ ∃ y ∈ x, y.1 = m.1 ∧ verCmp m.2 y.2 ≤ 0 := by
  unfold coverB
  rw [List.any_eq_true]
  simp only [Bool.and_eq_true, decide_eq_true_eq]
def weight (l : List En) (x : List Md) : Nat := l.countP fun e => coverB x e.md
theorem countP_lt {α : Type} {p q : α → Bool} : ∀ {l : List α}, (∀ a ∈ l, p a = true → q a = true) → (∃ a ∈ l, q a = true ∧ p a = false) → l.countP p < l.countP q
  | [], _, h => by obtain ⟨a, ha, _⟩ := h; cases ha
  | a :: r, h1, h2 => by
    have hm : r.countP p ≤ r.countP q := List.countP_mono_left fun x hx => h1 x (by simp [hx])
    rw [List.countP_cons, List.countP_cons]
    obtain ⟨b, hb, hq, hp⟩ := h2
    rcases List.mem_cons.1 hb with rfl | hb
    · rw [hq, hp]
      simp only [if_true, Bool.false_eq_true, if_false]
      omega
    · have ih := countP_lt (fun x hx => h1 x (by simp [hx])) ⟨b, hb, hq, hp⟩
      have h3 := h1 a (by simp)
      cases hpa : p a
      · simp only [Bool.false_eq_true, if_false]
        omega
      · rw [h3 hpa]
        simp only [if_true]
        omega
theorem weight_le (l : List En) (x : List Md) : weight l x ≤ l.length := List.countP_le_length
/-- a selection: what stands in the index, its paths rising -/
structure SelOk (l : List En) (x : List Md) : Prop where
  right : RightG l x
  rise : RiseP x
def OverM (x y : List Md) : Prop := ∀ m ∈ x, ∃ z ∈ y, z.1 = m.1 ∧ verCmp m.2 z.2 ≤ 0
theorem overM_refl (x : List Md) : OverM x x := fun m hm => ⟨m, hm, rfl, by rw [verCmp_ord.self]; decide⟩
theorem OverM.trans {x y z : List Md} (h1 : OverM x y) (h2 : OverM y z) : OverM x z := fun m hm => by
  obtain ⟨a, ha, e1, h3⟩ := h1 m hm
  obtain ⟨b, hb, e2, h4⟩ := h2 a ha
  exact ⟨b, hb, e2.trans e1, le_trans3 h3 h4⟩
theorem OverM.cover {x y : List Md} (h : OverM x y) {m : Md} (hm : coverB x m = true) : coverB y m = true := by
  obtain ⟨a, ha, e1, h1⟩ := coverB_iff.1 hm
  obtain ⟨b, hb, e2, h2⟩ := h a ha
  exact coverB_iff.2 ⟨b, hb, e2.trans e1, le_trans3 h1 h2⟩
theorem SelOk.md {l : List En} {x : List Md} (h : SelOk l x) {m : Md} (hm : m ∈ x) : mdErr m = 0 := h.right.right (.root hm)
theorem riseP_rises {x : List Md} (h : RiseP x) : Rises modCmp x := (great_self h).rises
theorem over_anti {l : List En} {x y : List Md} (hx : SelOk l x) (hy : SelOk l y) (h1 : OverM x y) (h2 : OverM y x) : x = y := by
  have key : ∀ {x y : List Md}, SelOk l x → SelOk l y → OverM x y → OverM y x → ∀ m ∈ x, m ∈ y := fun {x y} hx hy h1 h2 m hm => by
    obtain ⟨a, ha, e1, h3⟩ := h1 m hm
    obtain ⟨b, hb, e2, h4⟩ := h2 a ha
    have e3 : b = m := hx.rise.unique hb hm (e2.trans e1)
    subst e3
    have h5 : verCmp b.2 a.2 = 0 := by
      have := verCmp_ord.anti a.2 b.2
      have := verCmp_ord.anti b.2 a.2
      omega
    have : b = a := modCmp_zero (hx.md hb) (hy.md ha) (by unfold modCmp; rw [orI_eq, e1, compareBytes_self]; exact ⟨rfl, h5⟩)
    rw [this]; exact ha
  exact rises_ext modCmp_ord (riseP_rises hx.rise) (riseP_rises hy.rise) fun m => ⟨key hx hy h1 h2 m, key hy hx h2 h1 m⟩
theorem weight_lt {l : List En} {x y : List Md} (hx : SelOk l x) (hy : SelOk l y) (h : OverM x y) (hne : y ≠ x) : weight l x < weight l y := by
  refine countP_lt (fun e _ he => h.cover he) ?_
  apply Classical.byContradiction
  intro hno
  refine hne (over_anti hy hx (fun m hm => ?_) h)
  obtain ⟨e, he, e1⟩ := hy.right.at_ m hm
  cases hc : coverB x e.md
  · refine absurd ⟨e, he, ?_, hc⟩ hno
    rw [e1]
    exact coverB_iff.2 ⟨m, hm, rfl, by rw [verCmp_ord.self]; decide⟩
  · rw [e1] at hc
    exact coverB_iff.1 hc
theorem next_right {l : List En} {x : List Md} (hx : RightG l x) : RightG l (x ++ latestM l x) := ⟨hx.idx, fun m hm => by
  rcases List.mem_append.1 hm with h | h
  · exact hx.at_ m h
  · unfold latestM at h
    obtain ⟨y, hy, rfl⟩ := List.mem_map.1 h
    obtain ⟨e, he, e1⟩ := hx.at_ y hy
    exact latest_in hx.idx he e1⟩
theorem build_ok {l : List En} {A : List Md} (h : RightG l A) : SelOk l (buildL l A) := ⟨h.build, h.great.rise⟩
theorem next_ok {l : List En} {x : List Md} (hx : RightG l x) : SelOk l (nextL l x) := build_ok (next_right hx)
theorem next_over {l : List En} {x : List Md} (hx : RightG l x) : OverM x (nextL l x) := fun m hm => build_over (next_right hx) (.root (by simp [hm]))
theorem next_len {l : List En} {x : List Md} (hx : RightG l x) : (nextL l x).length ≤ 100 := by
  have h1 := next_ok hx
  have h2 : (nextL l x).length ≤ (l.map (·.md)).length := List.Nodup.length_le_of_subset (by
    have := riseP_rises h1.rise
    unfold Rises at this
    exact this.imp fun {x y} h e => by subst e; rw [modCmp_ord.self] at h; omega) (fun m hm => by
    obtain ⟨e, he, e1⟩ := h1.right.at_ m hm
    exact List.mem_map.2 ⟨e, he, e1⟩)
  rw [List.length_map] at h2
  exact Nat.le_trans h2 hx.idx.len
theorem allF_stop {l : List En} {x : List Md} (h : nextL l x = x) : ∀ n, allF l n x = x
  | 0 => rfl
  | n + 1 => by rw [allF, if_pos h]
theorem allF_fuel {l : List En} : ∀ (n m : Nat) {x : List Md}, SelOk l x → l.length - weight l x < n → l.length - weight l x < m → allF l n x = allF l m x
  | 0, m, x, _, h, _ => absurd h (Nat.not_lt_zero _)
  | n + 1, 0, x, _, _, h => absurd h (Nat.not_lt_zero _)
  | n + 1, m + 1, x, hx, h1, h2 => by
    rw [allF, allF]
    by_cases e : nextL l x = x
    · rw [if_pos e, if_pos e]
    · rw [if_neg e, if_neg e]
      have h3 := weight_lt hx (next_ok hx.right) (next_over hx.right) e
      have h4 := weight_le l (nextL l x)
      exact allF_fuel n m (next_ok hx.right) (by omega) (by omega)
/-- where it stops nothing is newer -/
structure AllOk (l : List En) (x y : List Md) : Prop where
  ok : SelOk l y
  over : OverM x y
  stop : nextL l y = y
theorem allF_ok {l : List En} : ∀ (n : Nat) {x : List Md}, SelOk l x → l.length - weight l x < n → AllOk l x (allF l n x)
  | 0, x, _, h => absurd h (Nat.not_lt_zero _)
  | n + 1, x, hx, h => by
    rw [allF]
    by_cases e : nextL l x = x
    · rw [if_pos e]; exact ⟨hx, overM_refl x, e⟩
    · rw [if_neg e]
      have h3 := weight_lt hx (next_ok hx.right) (next_over hx.right) e
      have h4 := weight_le l (nextL l x)
      have ih := allF_ok n (next_ok hx.right) (by omega)
      exact ⟨ih.ok, (next_over hx.right).trans ih.over, ih.stop⟩
theorem allL_ok {l : List En} {roots : List Md} (h : RightG l roots) : AllOk l (buildL l roots) (allL l roots) :=
  allF_ok _ (build_ok h) (by omega)
noncomputable def allR (l : List En) (roots : List Md) : List Md := if (startErr l roots).1 = 0 then allL l roots else []
/-- of what is all newer there are no news -/
theorem AllOk.none {l : List En} {x y : List Md} (h : AllOk l x y) : newsL l y = [] := by
  unfold newsL
  have : y.filter (newsB l) = [] := by
    rw [List.filter_eq_nil_iff]
    intro m hm hn
    have h1 := next_right h.ok.right
    have h2 : (m.1, latestL l m.1) ∈ y ++ latestM l y := List.mem_append.2 (.inr (List.mem_map.2 ⟨m, hm, rfl⟩))
    obtain ⟨z, hz, e1, h3⟩ := build_over h1 (.root h2)
    have hz2 : z ∈ nextL l y := hz
    rw [h.stop] at hz2
    have e2 : z = m := h.ok.rise.unique hz2 hm e1
    subst e2
    unfold newsB at hn
    rw [verLess_of_le h3] at hn
    cases hn
  rw [this]; rfl
theorem AllOk.again {l : List En} {x y : List Md} (h : AllOk l x y) : buildL l y = y ∧ allL l y = y := by
  have h1 : buildL l y = y := by
    have := build_again (next_right h.ok.right)
    have e : buildL l (y ++ latestM l y) = y := h.stop
    rw [e] at this
    exact this
  refine ⟨h1, ?_⟩
  unfold allL
  rw [h1]
  exact allF_stop h.stop _
theorem over_under {l : List En} {x y : List Md} (hy : SelOk l y) (h : OverM x y) : underB x y = true := by
  rw [under_mem]
  intro m hm
  obtain ⟨z, hz, e, h1⟩ := h m hm
  exact (hasB_rise hy.rise).2 ⟨z, hz, e, verLess_of_le h1⟩
end Go.Proofs.Pw

/- slices.IndexFunc, slices.DeleteFunc at []string, with a test that may lay blocks of its own. -/
namespace Go.Proofs.Pw
open Go.RowKit Go.Sort
open Go.Lib hiding intOf

theorem holds_below {w w' : World} {blk off : Nat} {d : Array Str} (h : Holds encStr w blk off d) (hb : Below w.heap.size w w') (hblk : blk < w.heap.size) : Holds encStr w' blk off d :=
  fun j hj => ⟨Below.cell_some hb (h j hj).1, (hb.frozen (p := ⟨blk, off + j, none⟩) hblk).trans (h j hj).2⟩
theorem holds_setCell {w : World} {blk off : Nat} {d : Array Str} (h : Holds encStr w blk off d) {i : Nat} (hi : i < d.size) (u : Str) : Holds encStr (w.setCell ⟨blk, off + i, none⟩ (encStr u)) blk off (d.setIfInBounds i u) := by
  intro j hj
  have hj' : j < d.size := by simpa using hj
  refine ⟨?_, by simp [(h j hj').2]⟩
  by_cases e : j = i
  · subst e
    rw [getElem!_set_same d j u hj', World.cell?_setCell_same _ _ _ (h j hj').1]
  · rw [getElem!_set_other d i j u e, World.cell?_setCell_other _ _ _ _ (by intro h2; injection h2 with _ h3 _; omega)]
    exact (h j hj').1
theorem below_putRow {B : Nat} {w w' : World} (h : Below B w w') {blk : Nat} (hb : B ≤ blk) (off : Nat) (d : Array Str) : Below B w (putRow encStr w' blk off d) := by
  refine h.trans ⟨rfl, rfl, rfl, by simp [putRow, mapBlock], fun k hk => ?_⟩
  simp only [putRow, mapBlock, Array.getElem?_modify]
  rw [if_neg (by omega)]

/-- a test by a function value, over the elements of a row, in whatever world that stands over w from block base on -/
def TestsB (g : Nat) (lb : Array Value) (p : Str → Bool) (l : List Str) (base : Nat) (w : World) : Prop :=
  ∀ W, Below base w W → ∀ s ∈ l, Calls Tryz.prog g (#[encStr s] ++ lb) W fun e w'' => e = .returned (.bool (p s)) ∧ Below W.heap.size W w''

theorem mem_arr {d : Array Str} {j : Nat} (hj : j < d.size) : d[j]! ∈ d.toList ∧ d.toList[j]? = some d[j]! := by
  have e : d[j]! = d[j] := getElem!_pos d j hj
  rw [e]
  exact ⟨by simp, by simp [hj]⟩

set_option maxHeartbeats 400000 in
theorem indexFuncS_calls (g : Nat) (lb : Array Value) (eg : ∀ args w, (callFunc g args).run Tryz.prog w = .ok (.enter g args) w) (p : Str → Bool) (blk off cap base : Nat) (d : Array Str) (w : World) (hn : d.size ≤ 4000000001)
    (hbase : base ≤ w.heap.size) (hblk : blk < w.heap.size) (hH : Holds encStr w blk off d) (hT : TestsB g lb p d.toList base w) :
    Calls Tryz.prog 174 #[.slice (some ⟨blk, off, none⟩) d.size cap, .func (.func g) #[] lb] w fun e w' => e = .returned (.int .i64 (findI p d.toList)) ∧ Below w.heap.size w w' := by
  replace hH := Lib.hid hH
  replace hT := Lib.hid hT
  go_enter Tryz.func174, Tryz.ntmps174
  go_wp2_with fail
  go_loopw [8] (fun i wr => ∃ k : Nat, k ≤ d.size ∧ i = .int .i64 k ∧ Below w.heap.size w wr ∧ Hid (∀ j, j < k → p d[j]! = false)) (fun i _ => d.size - (intOf i).toNat)
  case atStart => exact ⟨0, by omega, rfl, Below.refl _ _, Lib.hid (fun j hj => absurd hj (Nat.not_lt_zero _))⟩
  case round =>
    obtain ⟨k, hk, rfl, hb, HA⟩ := hrel
    by_cases hlt : k < d.size
    · have hck := Below.cell_some hb (hH.out k hlt).1
      have hcall := hT.out wr (hb.mono hbase) _ (mem_arr hlt).1
      have HF := Lib.hid (mem_arr hlt).2
      generalize hs : d[k]! = s at hck hcall HF
      have HS := Lib.hid hs
      clear hs
      cases hq : p s with
      | true =>
        rw [hq] at hcall
        have HR : Hid (findI p d.toList = k) := Lib.hid (findI_hit HF.out hq (fun j y hj hy => by
          have := (mem_arr (d := d) (j := j) (by omega)).2
          rw [hy] at this
          injection this with this
          rw [this]
          exact HA.out j hj))
        clear hq
        go_wp2_with (go_at_fn g; refine hcall.mono ?_; rintro e w' ⟨rfl, hb2⟩)
        go_ret
        rw [HR.out]
        exact ⟨rfl, below_step hb hb2⟩
      | false =>
        rw [hq] at hcall
        have HQ := Lib.hid hq
        clear hq
        go_wp2_with (go_at_fn g; refine hcall.mono ?_; rintro e w' ⟨rfl, hb2⟩)
        go_roundw
        case rel =>
          refine ⟨k + 1, by omega, by go_num, below_step hb hb2, Lib.hid (fun j hj => ?_)⟩
          by_cases e : j = k
          · subst e; rw [HS.out]; exact HQ.out
          · exact HA.out j (by omega)
        case measure => simp [intOf]; omega
    · obtain rfl : k = d.size := by omega
      have HR : Hid (findI p d.toList = -1) := Lib.hid (findI_none (fun j y hy => by
        have hj : j < d.size := by have := (List.getElem?_eq_some_iff.1 hy).1; simpa using this
        have := (mem_arr (d := d) hj).2
        rw [hy] at this
        injection this with this
        rw [this]
        exact HA.out j hj))
      go_wp2_with fail
      go_ret
      rw [HR.out]
      exact ⟨rfl, hb⟩

theorem findI_cases (p : Str → Bool) (d : Array Str) : (findI p d.toList = -1 ∧ ∀ j, j < d.size → p d[j]! = false) ∨ ∃ k, k < d.size ∧ findI p d.toList = (k : Int) ∧ p d[k]! = true ∧ ∀ j, j < k → p d[j]! = false := by
  cases h : d.toList.findIdx? p with
  | none =>
    left
    refine ⟨by unfold findI; rw [h], fun j hj => ?_⟩
    rw [List.findIdx?_eq_none_iff] at h
    exact h _ (mem_arr hj).1
  | some k =>
    right
    rw [List.findIdx?_eq_some_iff_getElem] at h
    obtain ⟨hk, h1, h2⟩ := h
    have hk' : k < d.size := by simpa using hk
    have e : ∀ j (hj : j < d.size), d.toList[j]'(by simpa using hj) = d[j]! := fun j hj => by rw [getElem!_pos d j hj]; simp
    refine ⟨k, hk', ?_, by rw [← e k hk']; exact h1, fun j hj => ?_⟩
    · exact findI_hit (mem_arr hk').2 (by rw [← e k hk']; exact h1) (fun j y hj hy => by
        have hjd : j < d.size := by omega
        have h3 := h2 j hj
        rw [e j hjd] at h3
        have := (mem_arr (d := d) hjd).2
        rw [hy] at this
        injection this with this
        rw [this]
        simpa using h3)
    · have h3 := h2 j hj
      rw [e j (by omega)] at h3
      simpa using h3

theorem holds_take {w : World} {blk off : Nat} {l m : List Str} (h : Holds encStr w blk off (l ++ m).toArray) : Holds encStr w blk off l.toArray := by
  intro j hj
  have hj' : j < l.length := by simpa using hj
  have := h j (by simp; omega)
  have e : (l ++ m).toArray[j]! = l.toArray[j]! := by
    rw [getElem!_pos _ j (by simp; omega), getElem!_pos _ j (by simpa using hj)]
    simp [List.getElem_append_left hj']
  rw [e] at this
  exact this

set_option maxHeartbeats 2000000 in
set_option maxRecDepth 100000 in
theorem deleteFunc_calls (g : Nat) (lb : Array Value) (eg : ∀ args w, (callFunc g args).run Tryz.prog w = .ok (.enter g args) w) (p : Str → Bool) (blk off cap base : Nat) (d : Array Str) (w : World) (hn : d.size ≤ 4000000001) (hcap : d.size ≤ cap)
    (hbase : base ≤ blk) (hblk : blk < w.heap.size) (hH : Holds encStr w blk off d) (hT : TestsB g lb p d.toList base w) :
    Calls Tryz.prog 183 #[.slice (some ⟨blk, off, none⟩) d.size cap, .func (.func g) #[] lb] w fun e w' =>
      e = .returned (.slice (some ⟨blk, off, none⟩) (d.toList.filter fun x => !p x).length cap) ∧ Below base w w' ∧ Holds encStr w' blk off (d.toList.filter fun x => !p x).toArray := by
  have hIF := indexFuncS_calls g lb eg p blk off cap base d w hn (by omega) hblk hH hT
  have hfil : (d.toList.filter fun x => !p x) = keptUpTo (fun j => !p d[j]!) d d.size := (keptUpTo_filter (fun x => !p x) d).symm
  obtain ⟨kp, HK⟩ : ∃ kp : Nat → Bool, Hid (kp = fun j => !p d[j]!) := ⟨_, Lib.hid rfl⟩
  rw [hfil, ← HK.out]
  clear hfil
  rcases findI_cases p d with ⟨e1, hall⟩ | ⟨k0, hk0, e1, ht, hall⟩
  · rw [e1] at hIF
    have e3 : keptUpTo kp d d.size = d.toList := by
      rw [keptUpTo_all kp d _ (fun j hj => by rw [HK.out]; show (!p d[j]!) = true; rw [hall j hj]; rfl)]
      apply List.ext_getElem?
      intro i
      by_cases hi : i < d.size
      · rw [(mem_arr hi).2]; simp [hi]
      · rw [List.getElem?_eq_none (by simp; omega), List.getElem?_eq_none (by simp; omega)]
    have E3 := Lib.hid e3
    replace hH := Lib.hid hH
    replace hT := Lib.hid hT
    clear hall e1 e3
    go_enter Tryz.func183, Tryz.ntmps183
    go_wp2_with fail
    refine hIF.mono ?_
    rintro e w1 ⟨rfl, hb1⟩
    go_wp2_with fail
    go_ret
    rw [E3.out]
    exact ⟨by simp, hb1.mono (by omega), by simpa using holds_below hH.out hb1 hblk⟩
  · rw [e1] at hIF
    have hI0 : KeptInv kp d (k0 + 1) k0 d := KeptInv.start (fun j hj => by rw [HK.out]; show (!p d[j]!) = true; rw [hall j hj]; rfl) (by rw [HK.out]; show (!p d[k0]!) = false; rw [ht]; rfl)
    have hne1 : ((k0 : Int) == -1) = false := beq_eq_false_iff_ne.2 (by omega)
    have zr := Tryz.zeroValue9
    replace hH := Lib.hid hH
    replace hT := Lib.hid hT
    replace hI0 := Lib.hid hI0
    clear hall e1 ht
    go_enter Tryz.func183, Tryz.ntmps183
    go_wp2_with fail
    refine hIF.mono ?_
    rintro e w1 ⟨rfl, hb1⟩
    go_wp2_with fail
    go_loopg [5, 6, 7] d.size (fun gg s5 s6 _ wr => ∃ (i j : Nat) (dk : Array Str), s5 = .int .i64 i ∧ s6 = .int .i64 j ∧ j ≤ d.size ∧ d.size - j ≤ gg ∧ Below base w wr ∧ Hid (Holds encStr wr blk off dk) ∧ Hid (KeptInv kp d j i dk))
    case atStart => exact ⟨k0, k0 + 1, d, rfl, by go_num, by omega, by omega, hb1.mono (by omega), Lib.hid (holds_below hH.out hb1 hblk), hI0⟩
    case round =>
      obtain ⟨i, j, dk, rfl, rfl, hjd, hgg, hB, hHk, hI⟩ := hrel
      have hij := hI.out.lt
      have hds := hI.out.size
      have hblkr : blk < wr.heap.size := Nat.lt_of_lt_of_le hblk hB.size
      by_cases hlt : j < d.size
      · have hltz : (j : Int) < (d.size : Int) := by omega
        obtain ⟨cj, _⟩ := hHk.out j (by omega)
        rw [hI.out.high j (by omega)] at cj
        have hcall := hT.out wr hB _ (mem_arr hlt).1
        have hfut : Hid (∀ w', Below wr.heap.size wr w' → w'.cell? ⟨blk, off + i, none⟩ = some (encStr dk[i]!) ∧ w'.frozen? ⟨blk, off + i, none⟩ = false) := Lib.hid (fun w' hb => (holds_below hHk.out hb hblkr) i (by omega))
        generalize hu : d[j]! = u at cj hcall
        have HU := Lib.hid hu
        generalize dk[i]! = old at hfut
        clear hu
        cases hq : p u with
        | false =>
          rw [hq] at hcall
          have HQ := Lib.hid hq
          have HDS := Lib.hid hds
          clear hq hds
          go_wp2_with (go_at_fn g; refine hcall.mono ?_; rintro e w' ⟨rfl, hb2⟩; obtain ⟨ci, fi⟩ := hfut.out w' hb2)
          go_roundg (d.size - (j + 1))
          case measure => omega
          case rel =>
            refine ⟨i + 1, j + 1, dk.setIfInBounds i u, by go_num, by go_num, by omega, Nat.le_refl _, ?_, Lib.hid ?_, Lib.hid ?_⟩
            · exact (hB.trans (hb2.mono (by omega))).setCell hbase _
            · exact holds_setCell (holds_below hHk.out hb2 hblkr) (by have := HDS.out; omega) u
            · have := hI.out.keep hlt (by rw [HK.out]; show (!p d[j]!) = true; rw [HU.out, HQ.out]; rfl)
              rwa [HU.out] at this
        | true =>
          rw [hq] at hcall
          have HQ := Lib.hid hq
          clear hq hds hfut
          go_wp2_with (go_at_fn g; refine hcall.mono ?_; rintro e w' ⟨rfl, hb2⟩)
          go_roundg (d.size - (j + 1))
          case measure => omega
          case rel => exact ⟨i, j + 1, dk, rfl, by go_num, by omega, Nat.le_refl _, hB.trans (hb2.mono (by omega)), Lib.hid (holds_below hHk.out hb2 hblkr), Lib.hid (hI.out.skip (by rw [HK.out]; show (!p d[j]!) = false; rw [HU.out, HQ.out]; rfl))⟩
      · obtain rfl : j = d.size := by omega
        have hltz : ¬ (d.size : Int) < (d.size : Int) := by omega
        have hcl : ∀ ty, (Builtin.clear_ #[41] ty #[.slice (some ⟨blk, off + i, none⟩) (d.size - i) (cap - i)]).run Tryz.prog wr = .ok (.tuple #[]) (wr.setCells blk (off + i) (List.replicate (d.size - i) (encStr []))) :=
          fun ty => Lib.run_clear_slice wr _ _ ty _ Tryz.underlying41 zr rfl rfl blk (off + i) _ _ (by omega) (fun t ht => by rw [show off + i + t = off + (i + t) by omega, (hHk.out (i + t) (by omega)).1]; rfl) (fun t ht => by rw [show off + i + t = off + (i + t) by omega]; exact (hHk.out (i + t) (by omega)).2)
        have HDS := Lib.hid hds
        clear hds
        go_wp2_with fail
        go_ret
        have hI := hI.out
        have hrow : wr.setCells blk (off + i) (List.replicate (d.size - i) (encStr [])) = putRow encStr wr blk off (keptUpTo kp d d.size ++ List.replicate (d.size - i) []).toArray := by
          rw [← hI.done [], ← putRow_setCells encStr wr blk off _ dk i (by simp; have := HDS.out; omega), putRow_self encStr wr blk off dk hHk.out, List.map_replicate]
        refine ⟨by rw [hI.len]; rfl, ?_, ?_⟩
        · show Below base w (wr.setCells blk (off + i) (List.replicate (d.size - i) (encStr [])))
          rw [hrow]
          exact below_putRow hB hbase _ _
        · show Holds encStr (wr.setCells blk (off + i) (List.replicate (d.size - i) (encStr []))) blk off _
          rw [hrow]
          apply holds_take (m := List.replicate (d.size - i) [])
          exact holds_putRow encStr wr blk off dk _ hHk.out (by simp [hI.len]; have := HDS.out; omega)
end Go.Proofs.Pw

/- slices.SortFunc at []string: the kit's contract laid by hand at this program's numbers. -/
namespace Go.Proofs.Pw
open Go.RowKit

def laysSortSR : Go.Shelf.Ren := ⟨fun | 6 => 186 | 14 => 218 | 15 => 103 | 20 => 235 | 21 => 236 | 22 => 237 | 23 => 238 | 24 => 239 | 25 => 240 | 26 => 241 | 27 => 242 | 28 => 150 | 29 => 151 | 46 => 257 | 47 => 189 | 48 => 190 | 49 => 258 | 50 => 259 | 57 => 270 | n => n,
  fun | 0 => 0 | 3 => 3 | 4 => 4 | 5 => 5 | 9 => 9 | 22 => 41 | 24 => 9 | 25 => 86 | 39 => 122 | 45 => 155 | 46 => 156 | 50 => 160 | 53 => 163 | 55 => 165 | 66 => 197 | 70 => 201 | 76 => 230 | 77 => 91 | n => n, fun n => n⟩
theorem laysSortS : Go.Proofs.SlLaysF.n6 Tryz.prog laysSortSR := {
  mixed := by kernel_rfl
  f6 := ⟨Tryz.f186.name, by decide, Tryz.func186.trans (congrArg some (by kernel_rfl))⟩
  f14 := ⟨Tryz.f218.name, by decide, Tryz.func218.trans (congrArg some (by kernel_rfl))⟩
  f15 := Tryz.func103.trans (congrArg some (by kernel_rfl))
  f20 := ⟨Tryz.f235.name, by decide, Tryz.func235.trans (congrArg some (by kernel_rfl))⟩
  f21 := ⟨Tryz.f236.name, by decide, Tryz.func236.trans (congrArg some (by kernel_rfl))⟩
  f22 := ⟨Tryz.f237.name, by decide, Tryz.func237.trans (congrArg some (by kernel_rfl))⟩
  f23 := ⟨Tryz.f238.name, by decide, Tryz.func238.trans (congrArg some (by kernel_rfl))⟩
  f24 := ⟨Tryz.f239.name, by decide, Tryz.func239.trans (congrArg some (by kernel_rfl))⟩
  f25 := ⟨Tryz.f240.name, by decide, Tryz.func240.trans (congrArg some (by kernel_rfl))⟩
  f26 := ⟨Tryz.f241.name, by decide, Tryz.func241.trans (congrArg some (by kernel_rfl))⟩
  f27 := ⟨Tryz.f242.name, by decide, Tryz.func242.trans (congrArg some (by kernel_rfl))⟩
  f28 := Tryz.func150.trans (congrArg some (by kernel_rfl))
  f29 := Tryz.func151.trans (congrArg some (by kernel_rfl))
  f46 := ⟨Tryz.f257.name, by decide, Tryz.func257.trans (congrArg some (by kernel_rfl))⟩
  f47 := Tryz.func189.trans (congrArg some (by kernel_rfl))
  f48 := Tryz.func190.trans (congrArg some (by kernel_rfl))
  f49 := ⟨Tryz.f258.name, by decide, Tryz.func258.trans (congrArg some (by kernel_rfl))⟩
  f50 := ⟨Tryz.f259.name, by decide, Tryz.func259.trans (congrArg some (by kernel_rfl))⟩
  f57 := ⟨Tryz.f270.name, by decide, Tryz.func270.trans (congrArg some (by kernel_rfl))⟩
  t0 := Tryz.underlying0
  a0 := Tryz.isAgg0
  z0 := Tryz.sizeOf0
  v0 := Tryz.zeroValue0
  t3 := Tryz.underlying3
  a3 := Tryz.isAgg3
  z3 := Tryz.sizeOf3
  v3 := Tryz.zeroValue3
  t4 := Tryz.underlying4
  a4 := Tryz.isAgg4
  z4 := Tryz.sizeOf4
  v4 := Tryz.zeroValue4
  t5 := Tryz.underlying5
  a5 := Tryz.isAgg5
  z5 := Tryz.sizeOf5
  v5 := Tryz.zeroValue5
  t9 := Tryz.underlying9
  a9 := Tryz.isAgg9
  z9 := Tryz.sizeOf9
  v9 := Tryz.zeroValue9
  t22 := Tryz.underlying41
  a22 := Tryz.isAgg41
  z22 := Tryz.sizeOf41
  v22 := Tryz.zeroValue41
  a24 := Tryz.isAgg9
  z24 := Tryz.sizeOf9
  t25 := Tryz.underlying86
  a25 := Tryz.isAgg86
  z25 := Tryz.sizeOf86
  v25 := Tryz.zeroValue86
  t39 := Tryz.underlying122
  a39 := Tryz.isAgg122
  z39 := Tryz.sizeOf122
  v39 := Tryz.zeroValue122
  t45 := Tryz.underlying155
  a45 := Tryz.isAgg155
  z45 := Tryz.sizeOf155
  v45 := Tryz.zeroValue155
  t46 := Tryz.underlying156
  a46 := Tryz.isAgg156
  z46 := Tryz.sizeOf156
  v46 := Tryz.zeroValue156
  t50 := Tryz.underlying160
  a50 := Tryz.isAgg160
  z50 := Tryz.sizeOf160
  v50 := Tryz.zeroValue160
  t53 := Tryz.underlying163
  a53 := Tryz.isAgg163
  z53 := Tryz.sizeOf163
  v53 := Tryz.zeroValue163
  t55 := Tryz.underlying165
  a55 := Tryz.isAgg165
  z55 := Tryz.sizeOf165
  v55 := Tryz.zeroValue165
  t66 := Tryz.underlying197
  a66 := Tryz.isAgg197
  z66 := Tryz.sizeOf197
  v66 := Tryz.zeroValue197
  t70 := Tryz.underlying201
  a70 := Tryz.isAgg201
  z70 := Tryz.sizeOf201
  v70 := Tryz.zeroValue201
  t76 := Tryz.underlying230
  a76 := Tryz.isAgg230
  z76 := Tryz.sizeOf230
  v76 := Tryz.zeroValue230
  t77 := Tryz.underlying91
  a77 := Tryz.isAgg91
  z77 := Tryz.sizeOf91
  v77 := Tryz.zeroValue91 }
end Go.Proofs.Pw

/- strings.Builder, strings.Join: the kit's contracts laid by hand at this program's numbers. -/
namespace Go.Proofs.Pw
open Go.RowKit

end Go.Proofs.Pw

/- ver.Sort. Conditions: texts of at most 1000000000 bytes, at most 1000000 of them. -/
namespace Go.Proofs.Pw
open Go.RowKit Go.Sort
open Go.Lib hiding intOf

/-! ### texts in a row -/
theorem holds_lt {α : Type} [Inhabited α] {enc : α → Value} {w : World} {blk off : Nat} {d : Array α} (h : Holds enc w blk off d) (hs : 0 < d.size) : blk < w.heap.size :=
  lt_of_cell (h 0 hs).1
theorem bytes_back (b : ByteArray) : (⟨b.data.toList.toArray⟩ : ByteArray) = b := bytes_eq.1 rfl
theorem lstF_arr (n : Nat) (L : Nat → ByteArray) (j : Nat) (h : j < n) : (lstF n L).toArray[j]! = (L j).data.toList := by
  rw [getElem!_pos _ j (by rw [List.size_toArray, lstF_length]; exact h)]
  have := lstF_get n L j h
  rw [List.getElem?_eq_getElem (by rw [lstF_length]; exact h)] at this
  simpa using this
theorem strsAt_holds {w : World} {g off cap : Nat} {l : List Str} (h : Holds encStr w g off l.toArray) (hc : l.length ≤ cap) (hm : cap ≤ 9223372036854775807) : StrsAt w (.slice (some ⟨g, off, none⟩) l.length cap) l := by
  refine ⟨_, l.length, cap, fun j => ⟨(l.getD j []).toArray⟩, rfl, ?_, hc, hm, fun j hj => ⟨g, off, rfl, ?_⟩⟩
  · apply List.ext_getElem?
    intro i
    by_cases hi : i < l.length
    · rw [lstF_get _ _ i hi, List.getElem?_eq_getElem hi, List.getD_eq_getElem?_getD, List.getElem?_eq_getElem hi]; rfl
    · rw [List.getElem?_eq_none (by omega), List.getElem?_eq_none (by rw [lstF_length]; omega)]
  · have := (h j (by simpa using hj)).1
    rw [this]
    show some (encStr l.toArray[j]!) = some (Value.string ⟨(l.getD j []).toArray⟩)
    rw [getElem!_pos _ j (by simpa using hj), List.getD_eq_getElem?_getD, List.getElem?_eq_getElem hj]
    simp

theorem lstF_mem' {m : Nat} {M : Nat → ByteArray} {x : Str} : x ∈ lstF m M ↔ ∃ j, j < m ∧ (M j).data.toList = x := by simp [lstF]
theorem compactUpTo_length_le {α : Type} [Inhabited α] [DecidableEq α] (d : Array α) : (compactUpTo d d.size).length ≤ d.size := by
  unfold compactUpTo
  rw [List.length_map]
  exact Nat.le_trans (List.length_filter_le _ _) (by simp)

/-- slices.Clone -/
theorem cloneS_calls (a : Option Addr) (n cap : Nat) (L : Nat → ByteArray) (w : World) (hn : n ≤ 4000000000) (hc : ∀ j, j < n → ∃ b o, a = some ⟨b, o, none⟩ ∧ w.cell? ⟨b, o + j, none⟩ = some (.string (L j))) :
    Calls Tryz.prog 184 #[.slice a n cap] w fun e w' => ((e = .returned (.slice none 0 0) ∧ n = 0) ∨ ∃ g c, e = .returned (.slice (some ⟨g, 0, none⟩) n c) ∧ w.heap.size ≤ g ∧ g < w'.heap.size ∧ n ≤ c ∧ c ≤ 9223372036854775807 ∧ Holds encStr w' g 0 (lstF n L).toArray) ∧ Below w.heap.size w w' := by
  have key : ∀ (v' : Value) (w' : World) (zs : List ByteArray), zs.length = n → (∀ j, j < n → zs[j]? = some (L j)) → w'.ownsRow w.heap.size 9 1 v' n (zs.map Value.string) → v' ≠ .slice none 0 0 → ∃ g c, v' = .slice (some ⟨g, 0, none⟩) n c ∧ w.heap.size ≤ g ∧ g < w'.heap.size ∧ n ≤ c ∧ c ≤ 9223372036854775807 ∧ Holds encStr w' g 0 (lstF n L).toArray := by
    intro v' w' zs hz hL h hne
    rcases h.2 with ⟨rfl, _⟩ | ⟨g, c, cur, rfl, hb, hg, hnc, hm, hs, ht⟩
    · exact absurd rfl hne
    · refine ⟨g, c, rfl, hb, (Array.getElem?_eq_some_iff.1 hg).1, hnc, by unfold maxLen at hm; exact hm, fun j hj => ?_⟩
      have hj' : j < n := by simpa [lstF_length] using hj
      rw [Nat.zero_add, lstF_arr n L j hj']
      show _ = some (Value.string ⟨(L j).data.toList.toArray⟩) ∧ _
      rw [bytes_back]
      constructor
      · rw [cell_of_row w' g j cur 9 (0, 0) hg]
        have h1 : (zs.map Value.string)[j]? = some (.string (L j)) := by rw [List.getElem?_map, hL j hj']; rfl
        rw [← ht, List.getElem?_take, if_pos (by omega)] at h1
        simpa using h1
      · simp [World.frozen?, hg]
  by_cases h0 : n = 0
  · subst h0
    cases a with
    | none => exact (Tryz.slices_Clone_string_nil 0 cap w).mono fun e w' ⟨h1, h2⟩ => ⟨.inl ⟨h1, rfl⟩, by rw [h2]; exact Below.refl _ _⟩
    | some a =>
        refine (Tryz.slices_Clone_string_zero a cap w).mono fun e w' ⟨v', h1, h2, h3, h4⟩ => ?_
        obtain ⟨g, c, rfl, r⟩ := key v' w' [] rfl (fun j hj => absurd hj (Nat.not_lt_zero _)) h2 h3
        exact ⟨.inr ⟨g, c, h1, r⟩, h4⟩
  · obtain ⟨b, o, rfl, _⟩ := hc 0 (by omega)
    have hc2 : ∀ j, j < n → w.cell? ⟨b, o + j, none⟩ = some (.string (L j)) := fun j hj => by
      obtain ⟨b', o', e, h⟩ := hc j hj
      injection e with e
      injection e with e1 e2 _
      rw [e1, e2]; exact h
    have hzl : ((List.range n).map L).length = n := by simp
    have hzg : ∀ j, j < n → ((List.range n).map L)[j]? = some (L j) := fun j hj => by simp [hj]
    refine (Tryz.slices_Clone_string b o n cap ((List.range n).map L) w (by rw [hzl]; exact Nat.le_refl _) (by omega) (fun j hj => by
      rw [hzl] at hj
      rw [List.getD_eq_getElem?_getD, hzg j hj]
      exact hc2 j hj)).mono fun e w' ⟨v', h1, h2, h3, h4⟩ => ?_
    rw [List.take_of_length_le (by rw [hzl]; exact Nat.le_refl _)] at h2
    obtain ⟨g, c, rfl, r⟩ := key v' w' _ hzl hzg h2 h3
    exact ⟨.inr ⟨g, c, h1, r⟩, h4⟩

/-- slices.DeleteFunc of nothing -/
theorem indexFuncS_nil (f : Value) (cap : Nat) (w : World) :
    Calls Tryz.prog 174 #[.slice none 0 cap, f] w fun e w' => e = .returned (.int .i64 (-1)) ∧ w = w' := by
  go_enter Tryz.func174, Tryz.ntmps174
  go_wp2_with fail
  refine wp_loop_rounds 1 ?_
  rw [rounds_succ]
  go_wp2_with fail
  go_ret
  exact ⟨rfl, rfl⟩
theorem deleteFunc_nil (f : Value) (cap : Nat) (w : World) :
    Calls Tryz.prog 183 #[.slice none 0 cap, f] w fun e w' => e = .returned (.slice none 0 cap) ∧ w = w' := by
  go_enter Tryz.func183, Tryz.ntmps183
  go_wp2_with fail
  refine (indexFuncS_nil f cap _).mono ?_
  rintro e w' ⟨rfl, rfl⟩
  go_wp2_with fail
  go_ret
  exact ⟨rfl, rfl⟩

/-! ### sorting right versions -/
def OkV (s : Str) : Prop := verErr s = 0 ∧ s.length ≤ 1000000000
abbrev RV := {s : Str // OkV s}
instance : Inhabited RV := ⟨⟨[118, 48, 46, 48, 46, 48], by decide +kernel, by decide⟩⟩
def encRV (x : RV) : Value := encStr x.1
def cmpRV (x y : RV) : Int := verCmp x.1 y.1
theorem cmpRV_swo : SWO (ltOf cmpRV) := by
  have h := verCmp_ord
  refine ⟨fun x => ?_, fun x y z h1 h2 => ?_, fun x y z h1 h2 => ?_⟩
  · unfold ltOf cmpRV
    rw [h.self]; rfl
  · unfold ltOf cmpRV at *
    rw [decide_eq_true_iff] at *
    have a1 := h.tr x.1 y.1 z.1 (by omega) (by omega)
    rcases Int.lt_or_eq_of_le a1 with a2 | a2
    · exact a2
    · exfalso
      have a3 := h.zero a2
      have a4 := h.tr z.1 x.1 y.1 (by omega) (by omega)
      have a5 := (h.anti y.1 z.1).1 h2
      omega
  · unfold ltOf cmpRV at *
    rw [decide_eq_false_iff_not] at *
    intro h3
    have b1 := (h.anti x.1 z.1).1 h3
    have b2 := h.anti y.1 x.1
    have b3 := h.anti z.1 y.1
    have b4 := h.anti x.1 y.1
    have b5 := h.anti y.1 z.1
    have := h.tr z.1 y.1 x.1 (by omega) (by omega)
    omega
theorem encRV_one : Go.Proofs.OneCell encRV := fun _ => rfl

theorem below_sortW {B : Nat} {w0 w : World} (h : Below B w0 w) (hB : B ≤ w0.heap.size) {blk : Nat} (hb : B ≤ blk) (off m : Nat) (d : Array RV) (os : Array Obj) : Below B w0 (Go.Proofs.sortWorld encRV w blk off m d os) := by
  have hBs := h.size
  refine h.trans ⟨rfl, rfl, rfl, ?_, fun k hk => ?_⟩
  · simp [sortWorld, grow, putRow, mapBlock, Sort.ahead]
  · simp only [sortWorld, grow, putRow, mapBlock, Sort.ahead]
    by_cases hk2 : k < w.heap.size
    · rw [Array.getElem?_append_left (by simpa using hk2), Array.getElem?_modify, if_neg (by omega)]
    · exact absurd (Nat.lt_of_lt_of_le hk (Nat.le_trans hB hBs)) hk2

theorem sortV_calls (ks : List Nat) (A : Nat → Addr) (w0 w : World) (hE : EnvP ks A w0) (g cap : Nat) (d : Array RV) (hB : Below w0.heap.size w0 w) (hg0 : w0.heap.size ≤ g) (hg : g < w.heap.size) (hH : Holds encRV w g 0 d) (hsz : d.size ≤ 1000000) :
    Calls Tryz.prog 186 #[.slice (some ⟨g, 0, none⟩) d.size cap, .func (.func 105) #[] #[]] w fun e w' => e = .returned (.tuple #[]) ∧ ∃ d' : Array RV, d'.size = d.size ∧ (∀ x, x ∈ d'.toList ↔ x ∈ d.toList) ∧ (∀ i j, i < j → j < d'.size → verCmp d'[i]!.1 d'[j]!.1 ≤ 0) ∧ Holds encRV w' g 0 d' ∧ g < w'.heap.size ∧ Below w0.heap.size w0 w' := by
  have hcmp : CmpLays1 Tryz.prog 105 #[] encRV cmpRV g 0 d.size w := by
    intro m os dk hs x y
    refine (verCompareD ks A ⟨x.1.toArray⟩ ⟨y.1.toArray⟩ _ (hE.below (below_sortW hB (Nat.le_refl _) hg0 0 m dk os)) (by show x.1.length ≤ _; exact x.2.2) (by show y.1.length ≤ _; exact y.2.2) x.2.1 y.2.1).mono ?_
    rintro e w' ⟨rfl, hb⟩
    exact ⟨rfl, hb.grown⟩
  refine (Any.slices_SortFunc laysSortS encRV encRV_one cmpRV cmpRV_swo 105 #[] g 0 cap d w (Go.Proofs.enters_of Tryz.func105 (by kernel_rfl) rfl) hcmp hH hg (by omega)).mono ?_
  rintro e w' ⟨rfl, d', n, os, hp, hs, rfl⟩
  obtain ⟨hp1, _, hp3⟩ := hp
  have hH2 : Holds encRV (putRow encRV (Sort.ahead w n) g 0 d') g 0 d' := holds_putRow encRV _ g 0 d d' hH hp1
  refine ⟨rfl, d', hp1, fun x => ?_, fun i j hij hj => ?_, ?_, ?_, below_sortW hB (Nat.le_refl _) hg0 0 n d' os⟩
  · have := hp3.mem_iff (a := x)
    rw [Array.extract_eq_self_of_le (by omega), Array.extract_eq_self_of_le (Nat.le_refl _)] at this
    exact this
  · have h1 := hs i j (Nat.zero_le _) hij (by omega)
    unfold ltOf cmpRV at h1
    rw [decide_eq_false_iff_not] at h1
    have := verCmp_ord.anti d'[i]!.1 d'[j]!.1
    have := verCmp_ord.anti d'[j]!.1 d'[i]!.1
    omega
  · exact holds_grow encRV _ os g 0 d' (by simpa [putRow, mapBlock, Sort.ahead] using hg) hH2
  · simp [sortWorld, grow, putRow, mapBlock, Sort.ahead]; omega

theorem map_sub {P : Str → Prop} : ∀ (l : List Str), (∀ x ∈ l, P x) → ∃ m : List {s : Str // P s}, m.map (·.1) = l
  | [], _ => ⟨[], rfl⟩
  | a :: r, h => by
    obtain ⟨m, hm⟩ := map_sub r (fun x hx => h x (by simp [hx]))
    exact ⟨⟨a, h a (by simp)⟩ :: m, by simp [hm]⟩
theorem map_get (m : Array RV) (j : Nat) (hj : j < m.size) : (m.map (·.1))[j]! = (m[j]!).1 := by
  rw [getElem!_pos _ j (by simpa using hj), getElem!_pos m j hj]; simp
theorem holds_rv {w : World} {g off : Nat} {m : Array RV} : Holds encRV w g off m ↔ Holds encStr w g off (m.map (·.1)) := by
  constructor
  · intro h j hj
    have hj' : j < m.size := by simpa using hj
    rw [map_get m j hj']
    exact h j hj'
  · intro h j hj
    have := h j (by simpa using hj)
    rw [map_get m j hj] at this
    exact this

theorem vsort_of {l : List Str} {d : Array RV} (hm : ∀ x : RV, x ∈ d.toList ↔ x.1 ∈ l) (hl : ∀ x ∈ l, x.length ≤ 1000000000) (hs : ∀ i j, i < j → j < d.size → verCmp d[i]!.1 d[j]!.1 ≤ 0) : compactUpTo (d.map (·.1)) (d.map (·.1)).size = vsort l := by
  apply rises_ext verCmp_ord
  · apply compact_rises verCmp_ord
    · intro i j hij hj
      have hj' : j < d.size := by simpa using hj
      rw [map_get d i (by omega), map_get d j hj']
      exact hs i j hij hj'
    · intro i j hi hj he
      have hi' : i < d.size := by simpa using hi
      have hj' : j < d.size := by simpa using hj
      rw [map_get d i hi', map_get d j hj'] at he ⊢
      exact (verCmp_same d[i]!.2.1 d[j]!.2.1).1 he
  · exact vsort_rises l
  · intro x
    rw [compact_mem, vsort_mem]
    constructor
    · rintro ⟨i, hi, rfl⟩
      have hi' : i < d.size := by simpa using hi
      rw [map_get d i hi']
      exact ⟨(hm _).1 (by rw [getElem!_pos d i hi']; simp), d[i]!.2.1⟩
    · rintro ⟨h1, h2⟩
      have := (hm ⟨x, h2, hl x h1⟩).2 h1
      obtain ⟨i, hi, e⟩ := List.mem_iff_getElem.1 this
      have hi' : i < d.size := by simpa using hi
      refine ⟨i, by simpa using hi', ?_⟩
      rw [map_get d i hi', getElem!_pos d i hi']
      have e' : d[i] = ⟨x, h2, hl x h1⟩ := by simpa using e
      rw [e']

/-- the test -/
theorem verSort1_calls (ks : List Nat) (A : Nat → Addr) (s : ByteArray) (w : World) (hE : EnvP ks A w) (hs : s.size ≤ 1000000000) :
    Calls Tryz.prog 185 #[.string s] w fun e w' => e = .returned (.bool (!decide (verErr s.data.toList = 0))) ∧ Below w.heap.size w w' := by
  have hk := verCheck_calls ks A s w hE hs
  by_cases h0 : verErr s.data.toList = 0
  · rw [decide_eq_true h0]
    rw [h0, errV_zero] at hk
    clear h0
    replace hk := Lib.hid hk
    go_enter Tryz.func185, Tryz.ntmps185
    go_wp2_with fail
    refine hk.out.mono ?_
    rintro e w1 ⟨rfl, hb1⟩
    go_wp2_with fail
    go_ret
    exact ⟨rfl, hb1⟩
  · rw [decide_eq_false h0]
    rw [errV_pos A h0] at hk
    clear h0
    replace hk := Lib.hid hk
    go_enter Tryz.func185, Tryz.ntmps185
    go_wp2_with fail
    refine hk.out.mono ?_
    rintro e w1 ⟨rfl, hb1⟩
    go_wp2_with fail
    go_ret
    exact ⟨rfl, hb1⟩

theorem Tryz.enters_sort1 : ∀ args w, (callFunc 185 args).run Tryz.prog w = .ok (.enter 185 args) w := Go.Proofs.enters_of Tryz.func185 (by kernel_rfl) rfl

set_option maxHeartbeats 1000000 in
set_option maxRecDepth 100000 in
/-- ver.Sort -/
theorem verSort_calls (ks : List Nat) (A : Nat → Addr) (v : Value) (l : List Str) (w : World) (hE : EnvP ks A w) (hS : StrsAt w v l) (hn : l.length ≤ 1000000) (hl : ∀ x ∈ l, x.length ≤ 1000000000) :
    Calls Tryz.prog 141 #[v] w fun e w' => (∃ v', e = .returned v' ∧ StrsAt w' v' (vsort l)) ∧ Below w.heap.size w w' := by
  obtain ⟨a, n, cap, L, rfl, rfl, hnc, hcap, hc⟩ := hS
  rw [lstF_length] at hn
  have hcl := cloneS_calls a n cap L w (by omega) hc
  have hsn := AnyF.slices_SortFunc_none (P := Tryz.prog) (ρ := laysSortSR) { laysSortS with }
  have hce := Tryz.slices_Compact_string_empty
  have HL := Lib.hid hl
  replace hcl := Lib.hid hcl
  replace hsn := Lib.hid hsn
  replace hce := Lib.hid hce
  clear hc hl
  go_enter Tryz.func141, Tryz.ntmps141
  go_wp2_with fail
  refine hcl.out.mono ?_
  rintro e w1 ⟨h, hb1⟩
  rcases h with ⟨rfl, rfl⟩ | ⟨g, c, rfl, h1, h2, h3, h4, h5⟩
  · go_wp2_with fail
    refine (deleteFunc_nil _ 0 _).mono ?_
    rintro e w' ⟨rfl, rfl⟩
    go_wp2_with fail
    refine (hsn.out none 0 _ _).mono ?_
    rintro e w' ⟨rfl, rfl⟩
    go_wp2_with fail
    refine (hce.out none 0 _).mono ?_
    rintro e w' ⟨rfl, rfl⟩
    go_wp2_with fail
    go_ret
    exact ⟨⟨_, rfl, StrsAt.nil _⟩, hb1⟩
  · have hdz : (lstF n L).toArray.size = n := by rw [List.size_toArray, lstF_length]
    have hT : TestsB 185 #[] (fun s => !decide (verErr s = 0)) (lstF n L).toArray.toList w.heap.size w1 := by
      intro W hB s hs
      obtain ⟨j, hj, rfl⟩ := lstF_mem'.1 (by simpa using hs)
      have := verSort1_calls ks A (L j) W (hE.below (hb1.trans hB)) (by rw [size_eq]; exact HL.out _ (lstF_mem'.2 ⟨j, hj, rfl⟩))
      rw [← bytes_back (L j)] at this
      exact this
    have hD := deleteFunc_calls 185 #[] Tryz.enters_sort1 (fun s => !decide (verErr s = 0)) g 0 c w.heap.size (lstF n L).toArray w1 (by rw [hdz]; omega) (by rw [hdz]; exact h3) h1 h2 h5 hT
    rw [hdz] at hD
    have hfe : ((lstF n L).toArray.toList.filter fun x => !(!decide (verErr x = 0))) = (lstF n L).filter fun x => decide (verErr x = 0) := by
      congr 1; funext x; simp
    simp only [hfe] at hD
    obtain ⟨m, hm⟩ := map_sub (P := OkV) ((lstF n L).filter fun x => decide (verErr x = 0)) (fun x hx => ⟨by have := (List.mem_filter.1 hx).2; simpa using this, HL.out x (List.mem_filter.1 hx).1⟩)
    have hml : ((lstF n L).filter fun x => decide (verErr x = 0)).length = m.length := by rw [← hm, List.length_map]
    have hmn : m.length ≤ n := by
      have := List.length_filter_le (fun x => decide (verErr x = 0)) (lstF n L)
      rw [lstF_length, hml] at this
      exact this
    have hma : m.toArray.map (·.1) = ((lstF n L).filter fun x => decide (verErr x = 0)).toArray := by rw [← hm]; simp
    rw [hml, ← hma] at hD
    have hmem : ∀ x : RV, x ∈ m ↔ x.1 ∈ lstF n L := by
      intro x
      constructor
      · intro hx
        have : x.1 ∈ m.map (·.1) := List.mem_map.2 ⟨x, hx, rfl⟩
        rw [hm] at this
        exact (List.mem_filter.1 this).1
      · intro hx
        have : x.1 ∈ m.map (·.1) := by rw [hm]; exact List.mem_filter.2 ⟨hx, by simpa using x.2.1⟩
        obtain ⟨y, hy, e⟩ := List.mem_map.1 this
        have : y = x := Subtype.ext e
        rw [← this]; exact hy
    have HM := Lib.hid hmem
    replace hD := Lib.hid hD
    clear hT hfe hm hma hmem hcl
    go_wp2_with fail
    refine hD.out.mono ?_
    rintro e w2 ⟨rfl, hb2, h6⟩
    have hb02 := hb1.trans hb2
    have hso := sortV_calls ks A w w2 hE g c m.toArray hb02 h1 (Nat.lt_of_lt_of_le h2 hb2.size) (holds_rv.2 h6) (by simp; omega)
    rw [List.size_toArray] at hso
    replace hso := Lib.hid hso
    clear hD h6
    go_wp2_with fail
    refine hso.out.mono ?_
    rintro e w3 ⟨rfl, d', hd1, hd2, hd3, hd4, hd5, hb3⟩
    have hdm : (d'.map (·.1)).size = m.length := by rw [Array.size_map, hd1]
    have hH3 := holds_rv.1 hd4
    have hco := Tryz.slices_Compact_string_arr g 0 c (d'.map (·.1)) w3 hH3 (by rw [hdm]; omega) (by rw [hdm]; omega)
    have hv := vsort_of (l := lstF n L) (d := d') (fun x => by rw [hd2 x]; exact HM.out x) HL.out hd3
    rw [hv, hdm] at hco
    have hvl : (vsort (lstF n L)).length ≤ m.length := by
      rw [← hv, ← hdm]
      exact compactUpTo_length_le _
    replace hco := Lib.hid hco
    clear hso hv hd2 hd3 hd4 hsn hce
    go_wp2_with fail
    refine hco.out.mono ?_
    rintro e w4 ⟨rfl, q, rfl⟩
    go_wp2_with fail
    go_ret
    refine ⟨⟨_, rfl, ?_⟩, below_putRow (below_drewN hb3 q) h1 0 _⟩
    refine strsAt_holds (holds_take (m := List.replicate (m.length - (vsort (lstF n L)).length) []) ?_) (by omega) h4
    have hH4 : Holds encStr (Sort.ahead w3 q) g 0 (d'.map (·.1)) := fun j hj => hH3 j hj
    exact holds_putRow encStr (Sort.ahead w3 q) g 0 _ _ hH4 (by simp [hd1]; omega)
end Go.Proofs.Pw

/- VerOrder: what is sorted, counted, greatest. No program in sight. -/
namespace Go.Proofs.Pw
open Go.Lib hiding intOf

def cntOf (x : Str) (l : List Str) : Nat := (l.filter fun y => decide (y = x)).length
theorem cntOf_snoc (x y : Str) (l : List Str) : cntOf x (l ++ [y]) = cntOf x l + if y = x then 1 else 0 := by
  unfold cntOf
  rw [List.filter_append, List.length_append]
  by_cases h : y = x
  · rw [if_pos h]; simp [h]
  · rw [if_neg h]; simp [h]
theorem cntOf_none {x : Str} {l : List Str} (h : x ∉ l) : cntOf x l = 0 := by
  unfold cntOf
  rw [List.length_eq_zero_iff, List.filter_eq_nil_iff]
  intro y hy
  simp only [decide_eq_true_eq]
  rintro rfl
  exact h hy
theorem cntOf_cons (x y : Str) (l : List Str) : cntOf x (y :: l) = (if y = x then 1 else 0) + cntOf x l := by
  unfold cntOf
  rw [List.filter_cons]
  by_cases h : y = x
  · simp [h]; omega
  · simp [h]
theorem cntOf_one {x : Str} : ∀ {l : List Str}, Rises verCmp l → x ∈ l → cntOf x l = 1
  | [], _, h => by simp at h
  | a :: r, hr, hx => by
    have h1 := List.pairwise_cons.1 hr
    rw [cntOf_cons]
    by_cases e : a = x
    · subst e
      have : a ∉ r := fun h => by
        have := h1.1 a h
        rw [verCmp_ord.self] at this
        omega
      rw [if_pos rfl, cntOf_none this]
    · rw [if_neg e]
      rcases List.mem_cons.1 hx with h | h
      · exact absurd h.symm e
      · rw [cntOf_one h1.2 h]

theorem rises_at {m : Nat} {M : Nat → ByteArray} (h : Rises verCmp (lstF m M)) {i k : Nat} (hik : i < k) (hk : k < m) : verCmp (M i).data.toList (M k).data.toList < 0 := by
  unfold Rises at h
  rw [List.pairwise_iff_getElem] at h
  have h1 := h i k (by rw [lstF_length]; omega) (by rw [lstF_length]; exact hk) hik
  have e : ∀ j (hj : j < m), (lstF m M)[j]'(by rw [lstF_length]; exact hj) = (M j).data.toList := fun j hj => by
    have := lstF_get m M j hj
    rw [List.getElem?_eq_getElem (by rw [lstF_length]; exact hj)] at this
    exact Option.some.inj this
  rw [e i (by omega), e k hk] at h1
  exact h1
theorem lstF_mem {m : Nat} {M : Nat → ByteArray} {x : Str} : x ∈ lstF m M ↔ ∃ j, j < m ∧ (M j).data.toList = x := by
  simp [lstF]

theorem less_table {m : Nat} {M : Nat → ByteArray} (h : Rises verCmp (lstF m M)) (hv : ∀ x ∈ lstF m M, verErr x = 0) {i k : Nat} (hi : i < m) (hk : k < m) : verLess (M i).data.toList (M k).data.toList = decide (i < k) := by
  have e1 := hv _ (lstF_mem.2 ⟨i, hi, rfl⟩)
  have e2 := hv _ (lstF_mem.2 ⟨k, hk, rfl⟩)
  unfold verLess
  rw [decide_eq_decide]
  constructor
  · rintro ⟨_, _, h3⟩
    rcases Nat.lt_trichotomy i k with h4 | h4 | h4
    · exact h4
    · subst h4
      rw [verCmp_ord.self] at h3
      omega
    · have := rises_at h h4 hi
      have := (verCmp_ord.anti _ _).1 this
      omega
  · intro h4
    exact ⟨e1, e2, rises_at h h4 hk⟩

/-- the greatest so far; none: empty -/
def TopOf (l : List Str) (t : Str) : Prop := ((∀ x ∈ l, verErr x ≠ 0) ∧ t = []) ∨ (t ∈ l ∧ verErr t = 0 ∧ ∀ x ∈ l, verErr x = 0 → verCmp x t ≤ 0)
theorem top_nil : TopOf [] [] := .inl ⟨by simp, rfl⟩
theorem verErr_nil : verErr [] ≠ 0 := by decide +kernel
theorem top_bad {l : List Str} {t s : Str} (h : TopOf l t) (hs : verErr s ≠ 0) : TopOf (l ++ [s]) t := by
  rcases h with ⟨h, rfl⟩ | ⟨h1, h2, h3⟩
  · refine .inl ⟨fun x hx => ?_, rfl⟩
    rcases List.mem_append.1 hx with h' | h'
    · exact h x h'
    · rw [List.mem_singleton.1 h']; exact hs
  · refine .inr ⟨by simp [h1], h2, fun x hx e => ?_⟩
    rcases List.mem_append.1 hx with h' | h'
    · exact h3 x h' e
    · rw [List.mem_singleton.1 h'] at e
      exact absurd e hs
theorem top_good {l : List Str} {t s : Str} (h : TopOf l t) (hs : verErr s = 0) : TopOf (l ++ [s]) (verMax t s) := by
  rcases h with ⟨h, rfl⟩ | ⟨h1, h2, h3⟩
  · have : verMax [] s = s := by
      unfold verMax
      rw [if_neg (fun h => h.2 hs), if_pos verErr_nil]
    rw [this]
    refine .inr ⟨by simp, hs, fun x hx e => ?_⟩
    rcases List.mem_append.1 hx with h' | h'
    · exact absurd e (h x h')
    · rw [List.mem_singleton.1 h', verCmp_ord.self]
      exact Int.le_refl _
  · unfold verMax
    rw [if_neg (fun h => h.2 hs), if_neg (fun h => h h2), if_neg (fun h => h hs)]
    split
    · rename_i hlt
      refine .inr ⟨by simp, hs, fun x hx e => ?_⟩
      rcases List.mem_append.1 hx with h' | h'
      · exact verCmp_ord.tr _ _ _ (h3 x h' e) (by omega)
      · rw [List.mem_singleton.1 h', verCmp_ord.self]
        exact Int.le_refl _
    · rename_i hge
      refine .inr ⟨by simp [h1], h2, fun x hx e => ?_⟩
      rcases List.mem_append.1 hx with h' | h'
      · exact h3 x h' e
      · rw [List.mem_singleton.1 h']
        have := verCmp_ord.anti t s
        have := verCmp_ord.anti s t
        omega
theorem top_none {l : List Str} {t : Str} (h : TopOf l t) (hs : vsort l = []) : t = [] := by
  rcases h with ⟨_, rfl⟩ | ⟨h1, h2, _⟩
  · rfl
  · have := (vsort_mem l t).2 ⟨h1, h2⟩
    rw [hs] at this
    simp at this
theorem top_last {l : List Str} {t : Str} (h : TopOf l t) {m : Nat} {M : Nat → ByteArray} (hs : vsort l = lstF m M) (hm : 0 < m) : (M (m - 1)).data.toList = t := by
  have hr := vsort_rises l
  have hlast := (vsort_mem l (M (m - 1)).data.toList).1 (by rw [hs]; exact lstF_mem.2 ⟨m - 1, by omega, rfl⟩)
  rw [hs] at hr
  rcases h with ⟨h, _⟩ | ⟨h1, h2, h3⟩
  · exact absurd hlast.2 (h _ hlast.1)
  · have ht := (vsort_mem l t).2 ⟨h1, h2⟩
    rw [hs] at ht
    obtain ⟨j, hj, rfl⟩ := lstF_mem.1 ht
    have hle := h3 _ hlast.1 hlast.2
    by_cases e : j = m - 1
    · rw [e]
    · have := rises_at hr (i := j) (k := m - 1) (by omega) (by omega)
      have := (verCmp_ord.anti _ _).1 this
      omega
theorem vsort_once {l : List Str} {x : Str} (h : x ∈ l) (hx : verErr x = 0) : cntOf x (vsort l) = 1 := cntOf_one (vsort_rises l) ((vsort_mem l x).2 ⟨h, hx⟩)
theorem vsort_right {l : List Str} : ∀ x ∈ vsort l, verErr x = 0 := fun x hx => ((vsort_mem l x).1 hx).2
end Go.Proofs.Pw

/- R.SortVers. Conditions: texts of at most 1000000000 bytes, at most 1000000 of them. -/
namespace Go.Proofs.Pw
open Go.RowKit
open Go.Lib hiding intOf

theorem vsort_snoc (l : List Str) (s : Str) : vsort (l ++ [s]) = if verErr s = 0 then insU verCmp s (vsort l) else vsort l := by
  unfold vsort
  rw [List.filter_append]
  by_cases h : verErr s = 0
  · rw [if_pos h]
    have : [s].filter (fun s => decide (verErr s = 0)) = [s] := by simp [h]
    rw [this, insAll_snoc]
  · rw [if_neg h]
    have : [s].filter (fun s => decide (verErr s = 0)) = [] := by simp [h]
    rw [this, List.append_nil]
theorem vsort_nil : vsort [] = [] := rfl
theorem insU_length (s : Str) : ∀ l : List Str, (insU verCmp s l).length ≤ l.length + 1
  | [] => by simp [insU]
  | a :: r => by
    have := insU_length s r
    unfold insU
    split
    · simp; omega
    · split
      · simp
      · simp
theorem insAt_less {s : Str} : ∀ {l : List Str} {j : Nat} {x : Str}, j < insAt verCmp s l → l[j]? = some x → verCmp x s < 0
  | [], j, x, h, _ => absurd h (Nat.not_lt_zero _)
  | a :: r, j, x, h, hx => by
    unfold insAt at h
    split at h
    · rename_i hlt
      cases j with
      | zero => simp at hx; subst hx; exact hlt
      | succ j => exact insAt_less (l := r) (j := j) (by omega) (by simpa using hx)
    · exact absurd h (Nat.not_lt_zero _)
theorem insAt_stop {s : Str} : ∀ {l : List Str} {x : Str}, l[insAt verCmp s l]? = some x → ¬ verCmp x s < 0
  | [], x, h => by simp at h
  | a :: r, x, h => by
    unfold insAt at h
    split at h
    · exact insAt_stop (l := r) (by simpa using h)
    · rename_i hn
      simp at h; subst h; exact hn
theorem strTs_get {l : List ByteArray} {j : Nat} (h : j < l.length) : (strTs l)[j]? = some (l.getD j ByteArray.empty).data.toList := by
  simp [strTs, List.getD_eq_getElem?_getD, List.getElem?_eq_getElem h]
theorem strTs_append (a b : List ByteArray) : strTs (a ++ b) = strTs a ++ strTs b := List.map_append ..
theorem strVs_append (a b : List ByteArray) : strVs (a ++ b) = strVs a ++ strVs b := List.map_append ..
theorem strTs_take (l : List ByteArray) (k : Nat) : strTs (l.take k) = (strTs l).take k := List.map_take ..
theorem strTs_drop (l : List ByteArray) (k : Nat) : strTs (l.drop k) = (strTs l).drop k := List.map_drop ..
theorem strVs_get {l : List ByteArray} {j : Nat} {u : Value} (h : (strVs l)[j]? = some u) : j < l.length ∧ u = .string (l.getD j ByteArray.empty) := by
  unfold strVs at h
  rw [List.getElem?_map] at h
  have hl : j < l.length := by
    rcases Nat.lt_or_ge j l.length with h' | h'
    · exact h'
    · rw [List.getElem?_eq_none h'] at h; cases h
  rw [List.getElem?_eq_getElem hl] at h
  exact ⟨hl, by rw [List.getD_eq_getElem?_getD, List.getElem?_eq_getElem hl]; cases h; rfl⟩
theorem strVs_one {l : List ByteArray} : ∀ u ∈ strVs l, u.oneCell' = true := by
  intro u hu
  obtain ⟨x, _, rfl⟩ := List.mem_map.1 hu
  rfl

/-- what is there: nothing, or a row of its own -/
def AccAt (w : World) (base : Nat) (o : Value) (P : List ByteArray) : Prop :=
  (P = [] ∧ o = .slice none 0 0) ∨ ∃ g c, P ≠ [] ∧ o = .slice (some ⟨g, 0, none⟩) P.length c ∧ base ≤ g ∧ g < w.heap.size ∧ P.length ≤ c ∧ c ≤ 9223372036854775807 ∧ ∀ j, j < P.length → w.cell? ⟨g, j, none⟩ = some (.string (P.getD j ByteArray.empty))
theorem AccAt.below {w w' : World} {base : Nat} {o : Value} {P : List ByteArray} (h : AccAt w base o P) (hb : Below w.heap.size w w') : AccAt w' base o P := by
  rcases h with h | ⟨g, c, h1, h2, h3, h4, h5, h6, h7⟩
  · exact .inl h
  · exact .inr ⟨g, c, h1, h2, h3, Nat.lt_of_lt_of_le h4 hb.size, h5, h6, fun j hj => Below.cell_some hb (h7 j hj)⟩
theorem AccAt.mono {w : World} {base base' : Nat} {o : Value} {P : List ByteArray} (h : AccAt w base o P) (hb : base' ≤ base) : AccAt w base' o P := by
  rcases h with h | ⟨g, c, h1, h2, h3, r⟩
  · exact .inl h
  · exact .inr ⟨g, c, h1, h2, by omega, r⟩
theorem accAt_own {w : World} {base e : Nat} {v : Value} {l : List ByteArray} (h : w.ownsRow base e 1 v l.length (strVs l)) (hl : l ≠ []) : AccAt w base v l := by
  rcases h.2 with ⟨rfl, h0⟩ | ⟨g, cap, cur, rfl, hb, hg, hn, hm, hs, ht⟩
  · exact absurd (List.eq_nil_of_length_eq_zero h0) hl
  · refine .inr ⟨g, cap, hl, rfl, hb, (Array.getElem?_eq_some_iff.1 hg).1, hn, by unfold maxLen at hm; exact hm, fun j hj => ?_⟩
    rw [cell_of_row w g j cur e (0, 0) hg]
    have h1 : (strVs l)[j]? = some (.string (l.getD j ByteArray.empty)) := by
      simp [strVs, List.getD_eq_getElem?_getD, List.getElem?_eq_getElem hj]
    rw [← ht, List.getElem?_take, if_pos (by omega)] at h1
    simpa using h1
theorem AccAt.strs {w : World} {base : Nat} {o : Value} {P : List ByteArray} (h : AccAt w base o P) : StrsAt w o (strTs P) := by
  rcases h with ⟨rfl, rfl⟩ | ⟨g, c, h1, rfl, h3, h4, h5, h6, h7⟩
  · exact StrsAt.nil w
  · exact ⟨_, P.length, c, fun j => P.getD j ByteArray.empty, rfl, (lstF_list P).symm, h5, h6, fun j hj => ⟨g, 0, rfl, by rw [Nat.zero_add]; exact h7 j hj⟩⟩

theorem acc_cells {w : World} {g : Nat} {P : List ByteArray} (h : ∀ j, j < P.length → w.cell? ⟨g, j, none⟩ = some (.string (P.getD j ByteArray.empty))) (o m : Nat) (hm : o + m ≤ P.length) :
    ∀ j u, (strVs ((P.drop o).take m))[j]? = some u → w.cell? ((⟨g, o, none⟩ : Addr).add j) = some u := by
  intro j u hu
  obtain ⟨hj, rfl⟩ := strVs_get hu
  rw [List.length_take, List.length_drop] at hj
  rw [show (⟨g, o, none⟩ : Addr).add j = ⟨g, o + j, none⟩ from by unfold Addr.add; split <;> simp_all]
  rw [h (o + j) (by omega)]
  simp [List.getD_eq_getElem?_getD, List.getElem?_take, List.getElem?_drop, show j < m by omega]
theorem ins_list {X : List Str} {P : List ByteArray} {q : Nat} {s : ByteArray} (h : (strTs P)[q]? ≠ some s.data.toList) (hins : X = if (strTs P)[q]? = some s.data.toList then strTs P else (strTs P).take q ++ s.data.toList :: (strTs P).drop q) : X = strTs (P.take q ++ [s] ++ P.drop q) := by
  rw [hins, if_neg h, strTs_append, strTs_append, strTs_take, strTs_drop]
  simp [strTs]


set_option maxHeartbeats 2000000 in
set_option maxRecDepth 100000 in
theorem sortVers_calls (v : Value) (l : List Str) (w : World) (hS : StrsAt w v l) (hn : l.length ≤ 1000000) (hl : ∀ x ∈ l, x.length ≤ 1000000000) :
    Calls Tryz.prog 182 #[v] w fun e w' => (∃ v', e = .returned v' ∧ StrsAt w' v' (vsort l)) ∧ Below w.heap.size w w' := by
  obtain ⟨i0, hi, hz0, hz1, hz2⟩ := info_parts Tryz.infoString
  obtain ⟨p, n, cap, L, rfl, rfl, hnc, hcap, hcl⟩ := hS
  rw [lstF_length] at hn
  have hLs : ∀ j, j < n → (L j).size ≤ 1000000000 := fun j hj => by
    have := hl (L j).data.toList (lstF_mem.2 ⟨j, hj, rfl⟩)
    rw [size_eq]; exact this
  have HC := Lib.hid hcl
  clear hcl hl
  go_enter Tryz.func182, Tryz.ntmps182
  go_wp2_with fail
  go_loopw [3, 4] (fun o i wr => ∃ (k : Nat) (P : List ByteArray), k ≤ n ∧ i = .int .i64 k ∧ AccAt wr w.heap.size o P ∧ P.length ≤ k ∧ (∀ x ∈ P, x.size ≤ 1000000000) ∧ Below w.heap.size w wr ∧ Hid (vsort ((lstF n L).take k) = strTs P)) (fun _ i _ => n - (intOf i).toNat)
  case atStart => exact ⟨0, [], Nat.zero_le _, rfl, .inl ⟨rfl, rfl⟩, Nat.le_refl _, by simp, Below.refl _ _, Lib.hid rfl⟩
  case round =>
    obtain ⟨k, P, hk, rfl, hacc, hPk, hPs, hb, HV⟩ := hrel
    by_cases hlt : k < n
    · obtain ⟨b1, o1, rfl, hck⟩ := HC.out k hlt
      replace hck := Below.cell_some hb hck
      have hsk := hLs k hlt
      have hiv := fun W => isVer_calls (L k) W hsk
      have hstep : vsort ((lstF n L).take (k + 1)) = if verErr (L k).data.toList = 0 then insU verCmp (L k).data.toList (strTs P) else strTs P := by
        rw [List.take_add_one, lstF_get n L k hlt, ← HV.out]
        exact vsort_snoc _ _
      by_cases h0 : verErr (L k).data.toList = 0
      · rw [if_pos h0] at hstep
        rw [decide_eq_true h0] at hiv
        replace hiv := Lib.hid hiv
        replace hstep := Lib.hid hstep
        go_wp2_with fail
        refine (hiv.out wr).mono ?_
        rintro e w1 ⟨rfl, hb1⟩
        replace hck := Below.cell_some hb1 hck
        replace hacc := hacc.below hb1
        replace hb := below_step hb hb1
        clear hb1
        have hB := hb
        have c1 := hck
        clear hb hck hiv
        have hle := insAt_le verCmp (L k).data.toList (strTs P)
        rw [strTs_length] at hle
        have hless : ∀ j x, j < insAt verCmp (L k).data.toList (strTs P) → (strTs P)[j]? = some x → verCmp x (L k).data.toList < 0 := fun j x h1 h2 => insAt_less h1 h2
        have hstop : ∀ x, (strTs P)[insAt verCmp (L k).data.toList (strTs P)]? = some x → ¬ verCmp x (L k).data.toList < 0 := fun x h => insAt_stop h
        have hins := insU_at verCmp (L k).data.toList (strTs P)
        rw [← hstep.out] at hins
        generalize insAt verCmp (L k).data.toList (strTs P) = q at hle hless hstop hins
        replace hless := Lib.hid hless
        replace hstop := Lib.hid hstop
        replace hins := Lib.hid hins
        have HPS := Lib.hid hPs
        clear hstep hPs
        generalize L k = s at c1 hsk hless hstop hins ⊢
        go_wp2_with fail
        go_loopw [6] (fun a w2 => ∃ j : Nat, j ≤ q ∧ a = .int .i64 j ∧ Below w1.heap.size w1 w2) (fun a _ => P.length + 1 - (intOf a).toNat)
        case atStart => exact ⟨0, Nat.zero_le _, rfl, Below.refl _ _⟩
        case round =>
          obtain ⟨j, hj, rfl, hb⟩ := hrel
          have hB1 := hb
          replace hB := below_step hB hb
          replace hacc := hacc.below hb
          replace c1 := Below.cell_some hb c1
          clear hb
          by_cases hjl : j < P.length
          · have hjl' : (j : Int) < (P.length : Int) := by omega
            have hget := strTs_get hjl
            have hPj : (P.getD j ByteArray.empty).size ≤ 1000000000 := HPS.out _ (by rw [List.getD_eq_getElem?_getD, List.getElem?_eq_getElem hjl]; simp)
            obtain ⟨g, c, hg1, rfl, hg3, hg4, hg5, hg6, hg7⟩ := id (hacc.resolve_left (fun h => by rw [h.1] at hjl; exact absurd hjl (Nat.not_lt_zero _)))
            have c2 := hg7 j hjl
            have hov := fun W => orderVer_calls (P.getD j ByteArray.empty) s W hPj hsk
            by_cases hlo : j < q
            · have hneg := hless.out _ _ hlo hget
              rw [sgn_neg hneg] at hov
              replace hov := Lib.hid hov
              clear hneg hget hg7
              generalize P.getD j ByteArray.empty = x at c2 hov
              go_wp2_with fail
              have k1 := fun d os => cell_patch (d := d) (os := os) c1
              have k2 := fun d os => cell_patch (d := d) (os := os) c2
              clear c2
              refine wp_region_quiet_patch (by kernel_rfl) (by kernel_rfl) ?_
              repeat (quiet_step ((go_at_call 68; with_reducible exact Calls.patch_of (hov.out _))))
              refine wpQuiet_nil ?_
              intro _ hw'
              obtain ⟨⟨dq, osq⟩, hw''⟩ := hw'
              subst hw''
              have hb := below_patch wr dq osq
              replace hB := below_step hB hb
              replace hacc := hacc.below hb
              replace c1 := Below.cell_some hb c1
              replace hB1 := below_step hB1 hb
              clear hb
              generalize patch wr dq osq = w2 at hB hacc c1 hB1 ⊢
              go_wp2_with fail
              go_roundw
              case rel => exact ⟨j + 1, by omega, by go_num, hB1⟩
              case measure => simp [intOf]; omega
            · obtain rfl : j = q := by omega
              have hnn := hstop.out _ hget
              generalize hxd : P.getD j ByteArray.empty = x at c2 hov hnn hget
              have hsn : ¬ sgn (verCmp x.data.toList s.data.toList) < 0 := fun h => absurd (sgn_lt.1 h) (by omega)
              generalize sgn (verCmp x.data.toList s.data.toList) = e0 at hov hsn
              replace hov := Lib.hid hov
              replace hget := Lib.hid hget
              replace hxd := Lib.hid hxd
              clear hnn
              go_wp2_with fail
              have k1 := fun d os => cell_patch (d := d) (os := os) c1
              have k2 := fun d os => cell_patch (d := d) (os := os) c2
              refine wp_region_quiet_patch (by kernel_rfl) (by kernel_rfl) ?_
              repeat (quiet_step ((go_at_call 68; with_reducible exact Calls.patch_of (hov.out _))))
              refine wpQuiet_nil ?_
              intro _ hw'
              obtain ⟨⟨dq, osq⟩, hw''⟩ := hw'
              subst hw''
              have hb := below_patch wr dq osq
              replace hB := below_step hB hb
              replace hacc := hacc.below hb
              replace c1 := Below.cell_some hb c1
              replace c2 := Below.cell_some hb c2
              replace hB1 := below_step hB1 hb
              clear hb
              generalize patch wr dq osq = w2 at hB hacc c1 c2 hB1 ⊢
              clear k1 k2
              by_cases hxs : x = s
              · subst hxs
                have HN : Hid (vsort ((lstF n L).take (k + 1)) = strTs P) := Lib.hid (by rw [hins.out, if_pos hget.out])
                go_wp2_with fail
                go_region
                all_goals
                  go_wp2_with fail
                  go_roundw
                  case rel => exact ⟨k + 1, P, by omega, by go_num, hacc.below ((Below.refl _ _).drew), by omega, HPS.out, hB.drew, HN⟩
                  case measure => simp [intOf]; omega
              · have hbe : (x.toList == s.toList) = false := by rw [toList_data, toList_data]; exact beq_eq_false_iff_ne.2 (fun e => hxs (bytes_ext.1 e))
                have HN : Hid (vsort ((lstF n L).take (k + 1)) = strTs (P.take j ++ [s] ++ P.drop j)) := Lib.hid (ins_list (by rw [hget.out]; exact fun e => hxs (bytes_ext.1 (Option.some.inj e))) hins.out)
                obtain ⟨_, _, _, e1, _, _, _, _, hg7⟩ := id (hacc.resolve_left (fun h => by rw [h.1] at hjl; exact absurd hjl (Nat.not_lt_zero _)))
                injection e1 with e1 e2 e3
                injection e1 with e1
                injection e1 with e1
                subst e1 e3
                go_wp2_with fail
                go_region
                all_goals
                  have hbd := hB.drew
                  have HPS' := hB
                  have hget' := hB
                  have cD : w2.drew.cell? ⟨b1, o1 + k, none⟩ = some (.string s) := c1
                  have gD : ∀ j, j < P.length → w2.drew.cell? ⟨g, j, none⟩ = some (.string (P.getD j ByteArray.empty)) := hg7
                  have BD : Below w.heap.size w w2.drew := hbd
                  generalize w2.drew = wz at cD gD BD ⊢
                  clear hB hB1 hacc c1 hg7 HPS' hget'
                  have hH := BD.size
                  have GD := Lib.hid gD
                  clear gD
                  go_wp2_with (at_builtin; first
                    | (refine wpList_append_own _ rfl _ _ 41 rfl wz.heap.size 9 i0 (.string ⟨#[]⟩) 1 16 Tryz.underlying41 hi hz0 hz1 hz2 rfl (by decide) _ _ _ rfl (World.ownsRow_nil _ _ _ _) ⟨g, 0, none⟩ j c (strVs ((P.drop 0).take j)) rfl (by rw [strVs_length]; simp; omega) (acc_cells GD.out 0 j (by omega)) strVs_one (by unfold maxLen; omega) (by omega) (Nat.le_refl _) ?_; intro v3 w3 hown3 hgrow3 hnil3; have hb3 := (Below.refl wz.heap.size wz).grown hgrow3 (Nat.le_refl _) (fun k h => by cases h); replace cD := Below.cell_some hb3 cD)
                    | (refine wpList_append_own _ rfl _ _ 41 rfl wz.heap.size 9 i0 (.string ⟨#[]⟩) 1 16 Tryz.underlying41 hi hz0 hz1 hz2 rfl (by decide) _ _ _ rfl (hown3.alloc _) ⟨w3.heap.size, 0, none⟩ 1 1 [.string s] rfl rfl (cell_one_new _ _ _) (fun x hx => by simp at hx; subst hx; rfl) (by unfold maxLen; omega) (by omega) (by have := hb3.size; simp; omega) ?_; intro v4 w4 hown4 hgrow4 hnil4; have hb4 := (hb3.alloc hb3.size _).grown hgrow4 (by have := hb3.size; simp; omega) (fun q hq => (hown3.lt q hq).1))
                    | (refine wpList_append_own _ rfl _ _ 41 rfl wz.heap.size 9 i0 (.string ⟨#[]⟩) 1 16 Tryz.underlying41 hi hz0 hz1 hz2 rfl (by decide) _ _ _ rfl hown4 ⟨g, j, none⟩ (P.length - j) (c - j) (strVs ((P.drop j).take (P.length - j))) rfl (by rw [strVs_length, List.length_take, List.length_drop]; omega) (acc_cells (fun i hi => Below.cell_some hb4 (GD.out i hi)) j (P.length - j) (by omega)) strVs_one (by unfold maxLen; omega) (by omega) hb4.size ?_; intro v5 w5 hown5 hgrow5 hnil5; have hb5 := hb4.grown hgrow5 hb4.size (fun q hq => (hown4.lt q hq).1)))
                  have hBw := BD.trans (hb5.mono hH)
                  have e1 : 0 + j + 1 + (P.length - j) = (P.take j ++ [s] ++ P.drop j).length := by simp; omega
                  have e2 : [] ++ strVs ((P.drop 0).take j) ++ [.string s] ++ strVs ((P.drop j).take (P.length - j)) = strVs (P.take j ++ [s] ++ P.drop j) := by
                    rw [List.take_of_length_le (l := P.drop j) (by rw [List.length_drop]; exact Nat.le_refl _)]
                    simp [strVs]
                  rw [e1, e2] at hown5
                  have hacc5 := (accAt_own hown5 (by simp)).mono hH
                  go_roundw
                  case rel => exact ⟨k + 1, P.take j ++ [s] ++ P.drop j, by omega, by go_num, hacc5, by simp; omega, fun y hy => by
                    simp only [List.mem_append, List.mem_singleton] at hy
                    rcases hy with (hy | rfl) | hy
                    · exact HPS.out y (List.mem_of_mem_take hy)
                    · exact hsk
                    · exact HPS.out y (List.mem_of_mem_drop hy), hBw, HN⟩
                  case measure => simp [intOf]; omega
          · have hjP : j = P.length := by omega
            obtain rfl : j = q := by omega
            have hjl' : ¬ (j : Int) < (P.length : Int) := by omega
            have hnone : (strTs P)[j]? ≠ some s.data.toList := by rw [List.getElem?_eq_none (by rw [strTs_length]; omega)]; intro h; cases h
            have HN : Hid (vsort ((lstF n L).take (k + 1)) = strTs (P.take j ++ [s] ++ P.drop j)) := Lib.hid (ins_list hnone hins.out)
            clear hnone
            rcases id hacc with ⟨rfl, rfl⟩ | ⟨g, c, hg1, rfl, hg3, hg4, hg5, hg6, hg7⟩
            · obtain rfl : j = 0 := hjP
              have hn0 : ∀ W ty, (Builtin.append_ #[41, 41] ty #[.slice none 0 0, .slice none 0 0]).run Tryz.prog W = .ok (.slice none 0 0) W := fun W ty => run_append_owned_none W 0 41 ty 9 i0 1 Tryz.underlying41 hi (.slice none 0 0) 0 [] (World.ownsRow_nil _ _ _ _)
              have HN1 : Hid (vsort ((lstF n L).take (k + 1)) = strTs [s]) := HN
              clear hjl hjl' hj HN hle hins hless hstop hPk
              go_wp2_with fail
              go_region
              all_goals
                have cD : wr.drew.cell? ⟨b1, o1 + k, none⟩ = some (.string s) := c1
                have BD : Below w.heap.size w wr.drew := hB.drew
                generalize wr.drew = wz at cD BD ⊢
                clear hB hB1 hacc c1
                have hH := BD.size
                go_wp2_with (at_builtin; first
                  | (refine wpList_append_own _ rfl _ _ 41 rfl wz.heap.size 9 i0 (.string ⟨#[]⟩) 1 16 Tryz.underlying41 hi hz0 hz1 hz2 rfl (by decide) _ _ _ rfl ((World.ownsRow_nil wz wz.heap.size 9 1).alloc _) ⟨wz.heap.size, 0, none⟩ 1 1 [.string s] rfl rfl (cell_one_new _ _ _) (fun x hx => by simp at hx; subst hx; rfl) (by unfold maxLen; omega) (by omega) (by simp) ?_; intro v4 w4 hown4 hgrow4 hnil4; have hb4 := ((Below.refl wz.heap.size wz).alloc (Nat.le_refl _) _).grown hgrow4 (by simp) (fun k h => by cases h); have hn4 := fun ty => run_append_owned_none w4 wz.heap.size 41 ty 9 i0 1 Tryz.underlying41 hi v4 _ _ hown4; replace hn4 := Lib.hid hn4)
                  | (refine Lib.wpList_append_run _ rfl _ _ _ _ rfl v4 (.slice none 0 0) rfl rfl v4 w4 (hn4.out _) ?_))
                have hBw := BD.trans (hb4.mono hH)
                have hacc5 := (accAt_own (l := [s]) hown4 (by simp)).mono hH
                go_roundw
                case rel => exact ⟨k + 1, [s], by omega, by go_num, hacc5, by simp, fun y hy => (by rw [List.mem_singleton.1 hy]; exact hsk), hBw, HN1⟩
                case measure => simp [intOf]; omega
            · clear hg7
              replace hjP := Lib.hid hjP
              go_wp2_with fail
              go_region
              all_goals
                obtain ⟨_, _, _, e1, _, _, _, _, hg7⟩ := id (hacc.resolve_left (fun h => hg1 h.1))
                injection e1 with e1 e2 e3
                injection e1 with e1
                injection e1 with e1
                subst e1 e3
                have hbd := hB.drew
                have HPS' := hB
                have hget' := hB
                by_cases hcq : j = c
                · subst hcq
                  have cD : wr.drew.cell? ⟨b1, o1 + k, none⟩ = some (.string s) := c1
                  have gD : ∀ j, j < P.length → wr.drew.cell? ⟨g, j, none⟩ = some (.string (P.getD j ByteArray.empty)) := hg7
                  have BD : Below w.heap.size w wr.drew := hbd
                  generalize wr.drew = wz at cD gD BD ⊢
                  clear hB hB1 hacc c1 hg7 HPS' hget'
                  have hH := BD.size
                  have GD := Lib.hid gD
                  clear gD
                  go_wp2_with (at_builtin; first
                    | (refine wpList_append_own _ rfl _ _ 41 rfl wz.heap.size 9 i0 (.string ⟨#[]⟩) 1 16 Tryz.underlying41 hi hz0 hz1 hz2 rfl (by decide) _ _ _ rfl (World.ownsRow_nil _ _ _ _) ⟨g, 0, none⟩ j j (strVs ((P.drop 0).take j)) rfl (by rw [strVs_length]; simp; omega) (acc_cells GD.out 0 j (by omega)) strVs_one (by unfold maxLen; omega) (by omega) (Nat.le_refl _) ?_; intro v3 w3 hown3 hgrow3 hnil3; have hb3 := (Below.refl wz.heap.size wz).grown hgrow3 (Nat.le_refl _) (fun k h => by cases h); replace cD := Below.cell_some hb3 cD)
                    | (refine wpList_append_own _ rfl _ _ 41 rfl wz.heap.size 9 i0 (.string ⟨#[]⟩) 1 16 Tryz.underlying41 hi hz0 hz1 hz2 rfl (by decide) _ _ _ rfl (hown3.alloc _) ⟨w3.heap.size, 0, none⟩ 1 1 [.string s] rfl rfl (cell_one_new _ _ _) (fun x hx => by simp at hx; subst hx; rfl) (by unfold maxLen; omega) (by omega) (by have := hb3.size; simp; omega) ?_; intro v4 w4 hown4 hgrow4 hnil4; have hb4 := (hb3.alloc hb3.size _).grown hgrow4 (by have := hb3.size; simp; omega) (fun q hq => (hown3.lt q hq).1))
                    | (refine wpList_append_own _ rfl _ _ 41 rfl wz.heap.size 9 i0 (.string ⟨#[]⟩) 1 16 Tryz.underlying41 hi hz0 hz1 hz2 rfl (by decide) _ _ _ rfl hown4 ⟨g, 0, none⟩ 0 0 (strVs ((P.drop j).take (P.length - j))) rfl (by rw [strVs_length, List.length_take, List.length_drop]; omega) ((fun i u h => by have hl := (strVs_get h).1; have hj0 := hjP.out; rw [List.length_take, List.length_drop] at hl; omega)) strVs_one (by unfold maxLen; omega) (by omega) hb4.size ?_; intro v5 w5 hown5 hgrow5 hnil5; have hb5 := hb4.grown hgrow5 hb4.size (fun q hq => (hown4.lt q hq).1)))
                  have hBw := BD.trans (hb5.mono hH)
                  have e1 : 0 + j + 1 + 0 = (P.take j ++ [s] ++ P.drop j).length := by simp; omega
                  have e2 : [] ++ strVs ((P.drop 0).take j) ++ [.string s] ++ strVs ((P.drop j).take (P.length - j)) = strVs (P.take j ++ [s] ++ P.drop j) := by
                    rw [List.take_of_length_le (l := P.drop j) (by rw [List.length_drop]; exact Nat.le_refl _)]
                    simp [strVs]
                  rw [e1, e2] at hown5
                  have hacc5 := (accAt_own hown5 (by simp)).mono hH
                  go_roundw
                  case rel => exact ⟨k + 1, P.take j ++ [s] ++ P.drop j, by omega, by go_num, hacc5, by simp; omega, fun y hy => by
                    simp only [List.mem_append, List.mem_singleton] at hy
                    rcases hy with (hy | rfl) | hy
                    · exact HPS.out y (List.mem_of_mem_take hy)
                    · exact hsk
                    · exact HPS.out y (List.mem_of_mem_drop hy), hBw, HN⟩
                  case measure => simp [intOf]; omega
                · have hcq2 : ¬ c = j := fun e => hcq e.symm
                  have cD : wr.drew.cell? ⟨b1, o1 + k, none⟩ = some (.string s) := c1
                  have gD : ∀ j, j < P.length → wr.drew.cell? ⟨g, j, none⟩ = some (.string (P.getD j ByteArray.empty)) := hg7
                  have BD : Below w.heap.size w wr.drew := hbd
                  generalize wr.drew = wz at cD gD BD ⊢
                  clear hB hB1 hacc c1 hg7 HPS' hget'
                  have hH := BD.size
                  have GD := Lib.hid gD
                  clear gD
                  go_wp2_with (at_builtin; first
                    | (refine wpList_append_own _ rfl _ _ 41 rfl wz.heap.size 9 i0 (.string ⟨#[]⟩) 1 16 Tryz.underlying41 hi hz0 hz1 hz2 rfl (by decide) _ _ _ rfl (World.ownsRow_nil _ _ _ _) ⟨g, 0, none⟩ j c (strVs ((P.drop 0).take j)) rfl (by rw [strVs_length]; simp; omega) (acc_cells GD.out 0 j (by omega)) strVs_one (by unfold maxLen; omega) (by omega) (Nat.le_refl _) ?_; intro v3 w3 hown3 hgrow3 hnil3; have hb3 := (Below.refl wz.heap.size wz).grown hgrow3 (Nat.le_refl _) (fun k h => by cases h); replace cD := Below.cell_some hb3 cD)
                    | (refine wpList_append_own _ rfl _ _ 41 rfl wz.heap.size 9 i0 (.string ⟨#[]⟩) 1 16 Tryz.underlying41 hi hz0 hz1 hz2 rfl (by decide) _ _ _ rfl (hown3.alloc _) ⟨w3.heap.size, 0, none⟩ 1 1 [.string s] rfl rfl (cell_one_new _ _ _) (fun x hx => by simp at hx; subst hx; rfl) (by unfold maxLen; omega) (by omega) (by have := hb3.size; simp; omega) ?_; intro v4 w4 hown4 hgrow4 hnil4; have hb4 := (hb3.alloc hb3.size _).grown hgrow4 (by have := hb3.size; simp; omega) (fun q hq => (hown3.lt q hq).1))
                    | (refine wpList_append_own _ rfl _ _ 41 rfl wz.heap.size 9 i0 (.string ⟨#[]⟩) 1 16 Tryz.underlying41 hi hz0 hz1 hz2 rfl (by decide) _ _ _ rfl hown4 ⟨g, j, none⟩ (P.length - j) (c - j) (strVs ((P.drop j).take (P.length - j))) rfl (by rw [strVs_length, List.length_take, List.length_drop]; omega) (acc_cells (fun i hi => Below.cell_some hb4 (GD.out i hi)) j (P.length - j) (by omega)) strVs_one (by unfold maxLen; omega) (by omega) hb4.size ?_; intro v5 w5 hown5 hgrow5 hnil5; have hb5 := hb4.grown hgrow5 hb4.size (fun q hq => (hown4.lt q hq).1)))
                  have hBw := BD.trans (hb5.mono hH)
                  have e1 : 0 + j + 1 + (P.length - j) = (P.take j ++ [s] ++ P.drop j).length := by simp; omega
                  have e2 : [] ++ strVs ((P.drop 0).take j) ++ [.string s] ++ strVs ((P.drop j).take (P.length - j)) = strVs (P.take j ++ [s] ++ P.drop j) := by
                    rw [List.take_of_length_le (l := P.drop j) (by rw [List.length_drop]; exact Nat.le_refl _)]
                    simp [strVs]
                  rw [e1, e2] at hown5
                  have hacc5 := (accAt_own hown5 (by simp)).mono hH
                  go_roundw
                  case rel => exact ⟨k + 1, P.take j ++ [s] ++ P.drop j, by omega, by go_num, hacc5, by simp; omega, fun y hy => by
                    simp only [List.mem_append, List.mem_singleton] at hy
                    rcases hy with (hy | rfl) | hy
                    · exact HPS.out y (List.mem_of_mem_take hy)
                    · exact hsk
                    · exact HPS.out y (List.mem_of_mem_drop hy), hBw, HN⟩
                  case measure => simp [intOf]; omega
      · rw [if_neg h0] at hstep
        rw [decide_eq_false h0] at hiv
        replace hiv := Lib.hid hiv
        replace hstep := Lib.hid hstep
        go_wp2_with fail
        refine (hiv.out wr).mono ?_
        rintro e w1 ⟨rfl, hb1⟩
        go_wp2_with fail
        go_roundw
        case rel => exact ⟨k + 1, P, by omega, by go_num, hacc.below hb1, by omega, hPs, below_step hb hb1, hstep⟩
        case measure => simp [intOf]; omega
    · obtain rfl : k = n := by omega
      have HV2 : Hid (vsort (lstF k L) = strTs P) := Lib.hid (by rw [← HV.out, List.take_of_length_le (by rw [lstF_length]; exact Nat.le_refl _)])
      have hSo := hacc.strs
      clear HV
      go_wp2_with fail
      go_ret
      rw [HV2.out]
      exact ⟨⟨_, rfl, hSo⟩, hb⟩
end Go.Proofs.Pw

/- index.Versions and the references' VersOf. Conditions: an index that is short. -/
namespace Go.Proofs.Pw
open Go.RowKit
open Go.Lib hiding intOf

theorem enF_take_succ {n : Nat} {P V : Nat → ByteArray} {R : Nat → List Md} {K : Nat → List Str} {B : Nat → Bool} {k : Nat} (hk : k < n) : (enF n P V R K B).take (k + 1) = (enF n P V R K B).take k ++ [⟨((P k).data.toList, (V k).data.toList), R k, K k, B k⟩] := by
  rw [List.take_add_one, enF_get n P V R K B k hk]; rfl
theorem enF_take_all (n : Nat) (P V : Nat → ByteArray) (R : Nat → List Md) (K : Nat → List Str) (B : Nat → Bool) : (enF n P V R K B).take n = enF n P V R K B := List.take_of_length_le (by rw [enF_length]; exact Nat.le_refl _)
theorem versL_size {l : List En} {p : Str} (h : ShortI l) : (versL l p).length ≤ 1000000 ∧ ∀ x ∈ versL l p, x.length ≤ 1000000 := by
  refine ⟨Nat.le_trans (versL_len l p) h.len, fun x hx => ?_⟩
  obtain ⟨e, he, e1⟩ := versL_mem.1 hx
  have := (h.mds e he).2
  rw [e1] at this
  exact this

set_option maxHeartbeats 4000000 in
set_option maxRecDepth 100000 in
theorem idxVersions_in (ks : List Nat) (A : Nat → Addr) (a : Option Addr) (n cap : Nat) (P V : Nat → ByteArray) (R : Nat → List Md) (K : Nat → List Str) (Bk : Nat → Bool) (Rv Kv : Nat → Value) (p : ByteArray) (w : World) (hE : EnvP ks A w) (h : EntsIn w a n cap P V R K Bk Rv Kv) (hs : ShortI (enF n P V R K Bk)) :
    Calls Tryz.prog 101 #[.slice a n cap, .string p] w fun e w' => (∃ v, e = .returned v ∧ StrsAt w' v (vsort (versL (enF n P V R K Bk) p.data.toList))) ∧ Below w.heap.size w w' := by
  obtain ⟨i0, hi, hz0, hz1, hz2⟩ := info_parts Tryz.infoString
  have hn : n ≤ 1000000 := by have := hs.len; rwa [enF_length] at this
  have H := Lib.hid h
  have HE := Lib.hid hE
  have HSZ := Lib.hid (versL_size (p := p.data.toList) hs)
  clear h hs hE
  go_enter Tryz.func101, Tryz.ntmps101
  go_wp2_with fail
  go_loopw [5, 10] (fun o i wr => ∃ (k : Nat) (L : List ByteArray), k ≤ n ∧ i = .int .i64 k ∧ Hid (wr.ownsRow w.heap.size 9 1 o L.length (strVs L)) ∧ L.length ≤ k ∧ Hid (strTs L = versL ((enF n P V R K Bk).take k) p.data.toList) ∧ Below w.heap.size w wr) (fun _ i _ => n - (intOf i).toNat)
  case atStart => exact ⟨0, [], Nat.zero_le _, rfl, Lib.hid (World.ownsRow_nil _ _ _ _), Nat.le_refl _, Lib.hid rfl, Below.refl _ _⟩
  case round =>
    obtain ⟨k, L, hk, rfl, hO, hLk, hT, hBr⟩ := hrel
    obtain ⟨ao, no, co, rfl⟩ := own_form hO.out
    by_cases hlt : k < n
    · have hkn : (k : Int) < (n : Int) := by omega
      obtain ⟨b1, o1, ea, hcell⟩ := H.out.at_ k hlt
      obtain ⟨c0, c1, c2, c3, c4⟩ := hcell.below hBr
      obtain ⟨a1, n1, s1, a2, n2, s2, e1, e2⟩ := H.out.forms hlt
      rw [e1] at c2
      rw [e2] at c3
      subst ea
      have hba := below_alloc wr (.cells #[.string (P k), .string (V k), .slice a1 n1 s1, .slice a2 n2 s2, .bool (Bk k)] 43)
      have y0 : (wr.alloc (.cells #[.string (P k), .string (V k), .slice a1 n1 s1, .slice a2 n2 s2, .bool (Bk k)] 43)).cell? ⟨wr.heap.size, 0, none⟩ = some (.string (P k)) := by simp
      have y1 : (wr.alloc (.cells #[.string (P k), .string (V k), .slice a1 n1 s1, .slice a2 n2 s2, .bool (Bk k)] 43)).cell? ⟨wr.heap.size, 1, none⟩ = some (.string (V k)) := by simp
      have hO2 := hO.out.below hba
      have hB2 := below_step hBr hba
      obtain ⟨w2, hW⟩ : ∃ W, wr.alloc (.cells #[.string (P k), .string (V k), .slice a1 n1 s1, .slice a2 n2 s2, .bool (Bk k)] 43) = W := ⟨_, rfl⟩
      rw [hW] at y0 y1 hO2 hB2
      replace hO2 := Lib.hid hO2
      clear hba
      have hTk : versL ((enF n P V R K Bk).take (k + 1)) p.data.toList = versL ((enF n P V R K Bk).take k) p.data.toList ++ (if (P k).data.toList = p.data.toList then [(V k).data.toList] else []) := by
        rw [enF_take_succ hlt, versL_snoc]
      by_cases hpe : (P k).data.toList = p.data.toList
      · have hp0 := bytes_eq.1 hpe
        have hp1 : ((P k).toList == p.toList) = true := by rw [hp0]; simp
        have HN : Hid (strTs (L ++ [V k]) = versL ((enF n P V R K Bk).take (k + 1)) p.data.toList) := Lib.hid (by rw [hTk, if_pos hpe, strTs_snoc, hT.out])
        clear hcell e1 e2 hT hTk hpe hp0 hO
        go_wp2_with (at_builtin; refine wpList_append_own _ rfl _ _ 41 rfl w.heap.size 9 i0 (.string ⟨#[]⟩) 1 16 Tryz.underlying41 hi hz0 hz1 hz2 rfl (by decide) _ _ _ rfl (hO2.out.alloc _) ⟨w2.heap.size, 0, none⟩ 1 1 [.string (V k)] rfl rfl (cell_one_new _ _ _) (fun x hx => by simp at hx; subst hx; rfl) (by unfold maxLen; omega) (by omega) (by have := hB2.size; simp; omega) ?_; intro o' w4 hown4 hgrow4 _)
        go_roundw
        case rel =>
          refine ⟨k + 1, L ++ [V k], by omega, by go_num, Lib.hid ?_, by simp; omega, HN, ?_⟩
          · rw [List.length_append, List.length_singleton, ← strVs_snoc]; exact hown4
          · exact (hB2.alloc hB2.size _).grown hgrow4 (by have := hB2.size; simp; omega) (fun q hq => (hO2.out.lt q hq).1)
        case measure => simp [intOf]; omega
      · have hp1 : ((P k).toList == p.toList) = false := by rw [toList_data, toList_data]; exact beq_eq_false_iff_ne.2 hpe
        have HN : Hid (strTs L = versL ((enF n P V R K Bk).take (k + 1)) p.data.toList) := Lib.hid (by rw [hTk, if_neg hpe, List.append_nil, hT.out])
        clear hcell e1 e2 hT hTk hpe hO
        go_wp2_with fail
        go_roundw
        case rel => exact ⟨k + 1, L, by omega, by go_num, hO2, by omega, HN, hB2⟩
        case measure => simp [intOf]; omega
    · have hT2 : strTs L = versL (enF n P V R K Bk) p.data.toList := by rw [hT.out, show k = n by omega, enF_take_all]
      have hSo := strsAt_own hO.out
      rw [hT2] at hSo
      have hso := verSort_calls ks A _ _ wr (HE.out.below hBr) hSo HSZ.out.1 (fun x hx => by have := HSZ.out.2 x hx; omega)
      have hnk : ¬ (k : Int) < (n : Int) := by omega
      replace hso := Lib.hid hso
      clear hT hT2 hSo hO hlt
      go_wp2_with fail
      refine hso.out.mono ?_
      rintro e w5 ⟨⟨v5, rfl, hv5⟩, hb⟩
      go_wp2_with fail
      go_ret
      exact ⟨⟨_, rfl, hv5⟩, below_step hBr hb⟩

set_option maxHeartbeats 4000000 in
set_option maxRecDepth 100000 in
theorem refVersOf_in (a : Option Addr) (n cap : Nat) (P V : Nat → ByteArray) (R : Nat → List Md) (K : Nat → List Str) (Bk : Nat → Bool) (Rv Kv : Nat → Value) (p : ByteArray) (w : World) (h : EntsIn w a n cap P V R K Bk Rv Kv) (hs : ShortI (enF n P V R K Bk)) :
    Calls Tryz.prog 139 #[.slice a n cap, .string p] w fun e w' => (∃ v, e = .returned v ∧ StrsAt w' v (vsort (versL (enF n P V R K Bk) p.data.toList))) ∧ Below w.heap.size w w' := by
  obtain ⟨i0, hi, hz0, hz1, hz2⟩ := info_parts Tryz.infoString
  have hn : n ≤ 1000000 := by have := hs.len; rwa [enF_length] at this
  have H := Lib.hid h
  have HSZ := Lib.hid (versL_size (p := p.data.toList) hs)
  clear h hs
  go_enter Tryz.func139, Tryz.ntmps139
  go_wp2_with fail
  go_loopw [5, 6] (fun o i wr => ∃ (k : Nat) (L : List ByteArray), k ≤ n ∧ i = .int .i64 k ∧ Hid (wr.ownsRow w.heap.size 9 1 o L.length (strVs L)) ∧ L.length ≤ k ∧ Hid (strTs L = versL ((enF n P V R K Bk).take k) p.data.toList) ∧ Below w.heap.size w wr) (fun _ i _ => n - (intOf i).toNat)
  case atStart => exact ⟨0, [], Nat.zero_le _, rfl, Lib.hid (World.ownsRow_nil _ _ _ _), Nat.le_refl _, Lib.hid rfl, Below.refl _ _⟩
  case round =>
    obtain ⟨k, L, hk, rfl, hO, hLk, hT, hBr⟩ := hrel
    obtain ⟨ao, no, co, rfl⟩ := own_form hO.out
    by_cases hlt : k < n
    · have hkn : (k : Int) < (n : Int) := by omega
      obtain ⟨b1, o1, ea, hcell⟩ := H.out.at_ k hlt
      obtain ⟨c0, c1, c2, c3, c4⟩ := hcell.below hBr
      subst ea
      have hTk : versL ((enF n P V R K Bk).take (k + 1)) p.data.toList = versL ((enF n P V R K Bk).take k) p.data.toList ++ (if (P k).data.toList = p.data.toList then [(V k).data.toList] else []) := by
        rw [enF_take_succ hlt, versL_snoc]
      by_cases hpe : (P k).data.toList = p.data.toList
      · have hp0 := bytes_eq.1 hpe
        have hp1 : ((P k).toList == p.toList) = true := by rw [hp0]; simp
        have HN : Hid (strTs (L ++ [V k]) = versL ((enF n P V R K Bk).take (k + 1)) p.data.toList) := Lib.hid (by rw [hTk, if_pos hpe, strTs_snoc, hT.out])
        clear hcell hT hTk hpe hp0 c2 c3 c4
        go_wp2_with (at_builtin; refine wpList_append_own _ rfl _ _ 41 rfl w.heap.size 9 i0 (.string ⟨#[]⟩) 1 16 Tryz.underlying41 hi hz0 hz1 hz2 rfl (by decide) _ _ _ rfl (hO.out.alloc _) ⟨wr.heap.size, 0, none⟩ 1 1 [.string (V k)] rfl rfl (cell_one_new _ _ _) (fun x hx => by simp at hx; subst hx; rfl) (by unfold maxLen; omega) (by omega) (by have := hBr.size; simp; omega) ?_; intro o' w4 hown4 hgrow4 _)
        go_roundw
        case rel =>
          refine ⟨k + 1, L ++ [V k], by omega, by go_num, Lib.hid ?_, by simp; omega, HN, ?_⟩
          · rw [List.length_append, List.length_singleton, ← strVs_snoc]; exact hown4
          · exact (hBr.alloc hBr.size _).grown hgrow4 (by have := hBr.size; simp; omega) (fun q hq => (hO.out.lt q hq).1)
        case measure => simp [intOf]; omega
      · have hp1 : ((P k).toList == p.toList) = false := by rw [toList_data, toList_data]; exact beq_eq_false_iff_ne.2 hpe
        have HN : Hid (strTs L = versL ((enF n P V R K Bk).take (k + 1)) p.data.toList) := Lib.hid (by rw [hTk, if_neg hpe, List.append_nil, hT.out])
        clear hcell hT hTk hpe c2 c3 c4
        go_wp2_with fail
        go_roundw
        case rel => exact ⟨k + 1, L, by omega, by go_num, hO, by omega, HN, hBr⟩
        case measure => simp [intOf]; omega
    · have hT2 : strTs L = versL (enF n P V R K Bk) p.data.toList := by rw [hT.out, show k = n by omega, enF_take_all]
      have hSo := strsAt_own hO.out
      rw [hT2] at hSo
      have hso := sortVers_calls _ _ wr hSo HSZ.out.1 (fun x hx => by have := HSZ.out.2 x hx; omega)
      have hnk : ¬ (k : Int) < (n : Int) := by omega
      replace hso := Lib.hid hso
      clear hT hT2 hSo hO hlt
      go_wp2_with fail
      refine hso.out.mono ?_
      rintro e w5 ⟨⟨v5, rfl, hv5⟩, hb⟩
      go_wp2_with fail
      go_ret
      exact ⟨⟨_, rfl, hv5⟩, below_step hBr hb⟩
end Go.Proofs.Pw

/- index.pre, Liked with its closures, Latest. Conditions: an index that is short. -/
namespace Go.Proofs.Pw
open Go.RowKit Go.Sort
open Go.Lib hiding intOf

theorem enters_liked1 : ∀ args w, (callFunc 198 args).run Tryz.prog w = .ok (.enter 198 args) w := Go.Proofs.enters_of Tryz.func198 (by kernel_rfl) rfl
theorem enters_liked2 : ∀ args w, (callFunc 199 args).run Tryz.prog w = .ok (.enter 199 args) w := Go.Proofs.enters_of Tryz.func199 (by kernel_rfl) rfl

set_option maxHeartbeats 1000000 in
theorem idxPre_calls (ks : List Nat) (A : Nat → Addr) (s : ByteArray) (w : World) (hE : EnvP ks A w) (hs : s.size ≤ 1000000000) :
    Calls Tryz.prog 200 #[.string s] w fun e w' => e = .returned (.bool (preB s.data.toList)) ∧ Below w.heap.size w w' := by
  have hsp := verSplit_calls ks A s w hE hs
  have hP : preB s.data.toList = (decide (verErr s.data.toList ≠ 0) || decide (0 < (verPre s.data.toList).length)) := rfl
  obtain ⟨X, hX⟩ : ∃ X, preB s.data.toList = X := ⟨_, rfl⟩
  rw [hX] at hP ⊢
  generalize verPre s.data.toList = VP at *
  generalize verErr s.data.toList = VE at *
  by_cases h0 : VE = 0
  · subst h0
    rw [errV_zero] at hsp
    have hPX : X = decide (0 < VP.length) := by rw [hP]; simp
    clear hP hX
    replace hsp := Lib.hid hsp
    go_enter Tryz.func200, Tryz.ntmps200
    go_wp2_with fail
    refine hsp.out.mono ?_
    rintro e w1 ⟨hb, v, rfl, hv⟩
    obtain ⟨a1, n1, c1, L1, rfl, rfl, _⟩ := hv
    rw [lstF_length] at hPX
    have hba := below_alloc w1 (.cells #[.int .i64 (verNum s.data.toList 0 : Nat), .int .i64 (verNum s.data.toList 1 : Nat), .int .i64 (verNum s.data.toList 2 : Nat), .slice a1 n1 c1] 143)
    by_cases hn : 0 < n1
    · have hn' : (0 : Int) < (n1 : Int) := by omega
      rw [decide_eq_true hn] at hPX
      subst hPX
      go_wp2_with fail
      go_ret
      exact ⟨rfl, below_step hb hba⟩
    · have hn' : ¬ (0 : Int) < (n1 : Int) := by omega
      rw [decide_eq_false hn] at hPX
      subst hPX
      go_wp2_with fail
      go_ret
      exact ⟨rfl, below_step hb hba⟩
  · rw [errV_pos A h0] at hsp
    have hPX : X = true := by rw [hP]; simp [h0]
    subst hPX
    clear hP hX h0
    replace hsp := Lib.hid hsp
    go_enter Tryz.func200, Tryz.ntmps200
    go_wp2_with fail
    refine hsp.out.mono ?_
    rintro e w1 ⟨hb, v, rfl, hv⟩
    obtain ⟨a1, n1, c1, L1, rfl, rfl, _⟩ := hv
    have hba := below_alloc w1 (.cells #[.int .i64 (verNum s.data.toList 0 : Nat), .int .i64 (verNum s.data.toList 1 : Nat), .int .i64 (verNum s.data.toList 2 : Nat), .slice a1 n1 c1] 143)
    go_wp2_with fail
    go_ret
    exact ⟨rfl, below_step hb hba⟩

theorem liked1_in (a : Option Addr) (n cap : Nat) (P V : Nat → ByteArray) (R : Nat → List Md) (K : Nat → List Str) (Bk : Nat → Bool) (Rv Kv : Nat → Value) (bl bp : Nat) (s p : ByteArray) (w : World) (h : EntsIn w a n cap P V R K Bk Rv Kv) (hn : n ≤ 1000000) (zl : w.cell? ⟨bl, 0, none⟩ = some (.slice a n cap)) (zp : w.cell? ⟨bp, 0, none⟩ = some (.string p)) :
    Calls Tryz.prog 198 #[.string s, .pointer (some ⟨bl, 0, none⟩), .pointer (some ⟨bp, 0, none⟩)] w fun e w' => e = .returned (.bool (backB (enF n P V R K Bk) p.data.toList s.data.toList)) ∧ Below w.heap.size w w' := by
  have hf := idxFind_in a n cap P V R K Bk Rv Kv p s w h hn
  have hB : backB (enF n P V R K Bk) p.data.toList s.data.toList = (decide (0 ≤ findE (enF n P V R K Bk) (p.data.toList, s.data.toList)) && (enAt (enF n P V R K Bk) (findE (enF n P V R K Bk) (p.data.toList, s.data.toList)).toNat).back) := rfl
  have hfn := fun h => findE_nat (l := enF n P V R K Bk) (m := (p.data.toList, s.data.toList)) h
  generalize findE (enF n P V R K Bk) (p.data.toList, s.data.toList) = x at hf hB hfn
  by_cases h0 : x < 0
  · have HR : Hid (backB (enF n P V R K Bk) p.data.toList s.data.toList = false) := Lib.hid (by rw [hB, decide_eq_false (by omega)]; rfl)
    have h0' : ¬ (0 : Int) ≤ x := by omega
    clear hfn hB
    replace hf := Lib.hid hf
    go_enter Tryz.func198, Tryz.ntmps198
    go_wp2_with fail
    refine hf.out.mono ?_
    rintro e w1 ⟨rfl, hb⟩
    replace zl := Below.cell_some hb zl
    go_wp2_with fail
    go_ret
    rw [HR.out]
    exact ⟨rfl, hb⟩
  · obtain ⟨k, rfl, hk, _⟩ := hfn h0
    rw [enF_length] at hk
    obtain ⟨b1, o1, rfl, hcell⟩ := h.at_ k hk
    have HR : Hid (backB (enF n P V R K Bk) p.data.toList s.data.toList = Bk k) := Lib.hid (by
      rw [hB, decide_eq_true (by omega), Bool.true_and]
      show (enAt (enF n P V R K Bk) k).back = _
      rw [enAt_enF hk])
    have h0' : (0 : Int) ≤ (k : Int) := by omega
    have hkn : (k : Int) < (n : Int) := by omega
    have c4 := hcell.c4
    clear hfn hB h0 hcell
    generalize Bk k = X at c4 HR
    replace hf := Lib.hid hf
    go_enter Tryz.func198, Tryz.ntmps198
    go_wp2_with fail
    refine hf.out.mono ?_
    rintro e w1 ⟨rfl, hb⟩
    replace zl := Below.cell_some hb zl
    replace c4 := Below.cell_some hb c4
    go_wp2_with fail
    go_ret
    rw [HR.out]
    exact ⟨rfl, hb⟩

theorem liked2_in (ks : List Nat) (A : Nat → Addr) (a : Option Addr) (n cap : Nat) (P V : Nat → ByteArray) (R : Nat → List Md) (K : Nat → List Str) (Bk : Nat → Bool) (Rv Kv : Nat → Value) (bl bp bf : Nat) (s p : ByteArray) (w : World) (hE : EnvP ks A w) (h : EntsIn w a n cap P V R K Bk Rv Kv) (hn : n ≤ 1000000) (hs : s.size ≤ 1000000000) (zl : w.cell? ⟨bl, 0, none⟩ = some (.slice a n cap)) (zp : w.cell? ⟨bp, 0, none⟩ = some (.string p)) (zf : w.cell? ⟨bf, 0, none⟩ = some (.func (.func 198) #[] #[.pointer (some ⟨bl, 0, none⟩), .pointer (some ⟨bp, 0, none⟩)])) :
    Calls Tryz.prog 199 #[.string s, .pointer (some ⟨bf, 0, none⟩)] w fun e w' => e = .returned (.bool (backB (enF n P V R K Bk) p.data.toList s.data.toList || preB s.data.toList)) ∧ Below w.heap.size w w' := by
  have h1 := liked1_in a n cap P V R K Bk Rv Kv bl bp s p w h hn zl zp
  have h2 := fun W hb => idxPre_calls ks A s W (hE.below hb) hs
  have eg := enters_liked1
  generalize backB (enF n P V R K Bk) p.data.toList s.data.toList = X at h1 ⊢
  generalize preB s.data.toList = Y at h2 ⊢
  replace h1 := Lib.hid h1
  replace h2 := Lib.hid h2
  clear h zl zp
  cases X with
  | true =>
    go_enter Tryz.func199, Tryz.ntmps199
    go_wp2_with (go_at_fn 198; refine h1.out.mono ?_; rintro e w1 ⟨rfl, hb⟩)
    go_ret
    exact ⟨rfl, hb⟩
  | false =>
    go_enter Tryz.func199, Tryz.ntmps199
    go_wp2_with (go_at_fn 198; refine h1.out.mono ?_; rintro e w1 ⟨rfl, hb⟩)
    refine (h2.out _ hb).mono ?_
    rintro e w2 ⟨rfl, hb2⟩
    go_wp2_with fail
    go_ret
    exact ⟨rfl, below_step hb hb2⟩

/-- what is liked of a list that is there: the deletion by one test -/
theorem del_new (g : Nat) (lb : Array Value) (eg : ∀ args w, (callFunc g args).run Tryz.prog w = .ok (.enter g args) w) (q : Str → Bool) (l : List Str) (w0 w : World) (e : Ending) (hl : l.length ≤ 1000000)
    (hT : ∀ W, Below w0.heap.size w0 W → ∀ s ∈ l, Calls Tryz.prog g (#[encStr s] ++ lb) W fun e w'' => e = .returned (.bool (q s)) ∧ Below W.heap.size W w'')
    (n : Nat) (L : Nat → ByteArray) (hL : l = lstF n L)
    (h : ((e = .returned (.slice none 0 0) ∧ n = 0) ∨ ∃ g c, e = .returned (.slice (some ⟨g, 0, none⟩) n c) ∧ w0.heap.size ≤ g ∧ g < w.heap.size ∧ n ≤ c ∧ c ≤ 9223372036854775807 ∧ Holds encStr w g 0 (lstF n L).toArray) ∧ Below w0.heap.size w0 w) :
    ∃ u, e = .returned u ∧ (∃ a m c, u = .slice a m c) ∧ Calls Tryz.prog 183 #[u, .func (.func g) #[] lb] w fun e' w' => (∃ v', e' = .returned v' ∧ StrsAt w' v' (l.filter fun x => !q x)) ∧ Below w0.heap.size w0 w' := by
  obtain ⟨h | ⟨g', c, h1, h2, h3, h4, h5, h6⟩, hb⟩ := h
  · obtain ⟨h1, h2⟩ := h
    subst h2
    refine ⟨_, h1, ⟨_, _, _, rfl⟩, (deleteFunc_nil _ 0 _).mono ?_⟩
    rintro e' w' ⟨rfl, rfl⟩
    have : l.filter (fun x => !q x) = [] := by rw [hL]; rfl
    rw [this]
    exact ⟨⟨_, rfl, StrsAt.nil _⟩, hb⟩
  · refine ⟨_, h1, ⟨_, _, _, rfl⟩, ?_⟩
    have hdz : (lstF n L).toArray.size = n := by rw [List.size_toArray, lstF_length]
    have hn : n ≤ 1000000 := by rw [hL, lstF_length] at hl; exact hl
    have hD := deleteFunc_calls g lb eg q g' 0 c w0.heap.size (lstF n L).toArray w (by rw [hdz]; omega) (by rw [hdz]; exact h4) h2 h3 h6 (fun W hW s hs => hT W (hb.trans hW) s (by rw [hL]; simpa using hs))
    rw [hdz] at hD
    refine hD.mono ?_
    rintro e' w' ⟨rfl, hb2, hH⟩
    simp only at hH ⊢
    rw [hL]
    refine ⟨⟨_, rfl, strsAt_holds hH ?_ h5⟩, hb.trans hb2⟩
    have := List.length_filter_le (fun x => !q x) (lstF n L)
    rw [lstF_length] at this
    omega

set_option maxHeartbeats 4000000 in
set_option maxRecDepth 100000 in
theorem liked_in (ks : List Nat) (A : Nat → Addr) (a : Option Addr) (n cap : Nat) (P V : Nat → ByteArray) (R : Nat → List Md) (K : Nat → List Str) (Bk : Nat → Bool) (Rv Kv : Nat → Value) (p : ByteArray) (sv : Value) (l : List Str) (w : World) (hE : EnvP ks A w) (h : EntsIn w a n cap P V R K Bk Rv Kv) (hn : n ≤ 1000000) (hv : StrsAt w sv l) (hl : l.length ≤ 1000000) (hls : ∀ x ∈ l, x.length ≤ 1000000) :
    Calls Tryz.prog 168 #[.slice a n cap, .string p, sv] w fun e w' => (∃ v, e = .returned v ∧ StrsAt w' v (likedL (enF n P V R K Bk) p.data.toList l)) ∧ Below w.heap.size w w' := by
  obtain ⟨sa, sn, sc, L, rfl, hL, _, _, hc⟩ := id hv
  have hb1 := below_alloc w (.cells #[.slice a n cap] 22)
  have z1 : (w.alloc (.cells #[.slice a n cap] 22)).cell? ⟨w.heap.size, 0, none⟩ = some (.slice a n cap) := by simp
  generalize hw1 : w.alloc (.cells #[.slice a n cap] 22) = w1 at *
  have hb2 := below_alloc w1 (.cells #[.string p] 9)
  have z2 : (w1.alloc (.cells #[.string p] 9)).cell? ⟨w1.heap.size, 0, none⟩ = some (.string p) := by simp
  replace z1 := Below.cell_some hb2 z1
  replace hb1 := below_step hb1 hb2
  generalize hw2 : w1.alloc (.cells #[.string p] 9) = w2 at *
  obtain ⟨FV, hFV⟩ : ∃ FV : Value, FV = .func (.func 198) #[] #[.pointer (some ⟨w.heap.size, 0, none⟩), .pointer (some ⟨w1.heap.size, 0, none⟩)] := ⟨_, rfl⟩
  have hb3 := below_alloc w2 (.cells #[.func (.func 198) #[] #[.pointer (some ⟨w.heap.size, 0, none⟩), .pointer (some ⟨w1.heap.size, 0, none⟩)]] 85)
  have z3 : (w2.alloc (.cells #[.func (.func 198) #[] #[.pointer (some ⟨w.heap.size, 0, none⟩), .pointer (some ⟨w1.heap.size, 0, none⟩)]] 85)).cell? ⟨w2.heap.size, 0, none⟩ = some (.func (.func 198) #[] #[.pointer (some ⟨w.heap.size, 0, none⟩), .pointer (some ⟨w1.heap.size, 0, none⟩)]) := by simp
  replace z1 := Below.cell_some hb3 z1
  replace z2 := Below.cell_some hb3 z2
  replace hb1 := below_step hb1 hb3
  generalize hw3 : w2.alloc (.cells #[.func (.func 198) #[] #[.pointer (some ⟨w.heap.size, 0, none⟩), .pointer (some ⟨w1.heap.size, 0, none⟩)]] 85) = w3 at *
  have hb4 := below_alloc w3 (.cells #[.func (.func 199) #[] #[.pointer (some ⟨w2.heap.size, 0, none⟩)], .func (.func 198) #[] #[.pointer (some ⟨w.heap.size, 0, none⟩), .pointer (some ⟨w1.heap.size, 0, none⟩)]] 85)
  have z4 : (w3.alloc (.cells #[.func (.func 199) #[] #[.pointer (some ⟨w2.heap.size, 0, none⟩)], .func (.func 198) #[] #[.pointer (some ⟨w.heap.size, 0, none⟩), .pointer (some ⟨w1.heap.size, 0, none⟩)]] 85)).cell? ⟨w3.heap.size, 0, none⟩ = some (.func (.func 199) #[] #[.pointer (some ⟨w2.heap.size, 0, none⟩)]) := by simp
  have z5 : (w3.alloc (.cells #[.func (.func 199) #[] #[.pointer (some ⟨w2.heap.size, 0, none⟩)], .func (.func 198) #[] #[.pointer (some ⟨w.heap.size, 0, none⟩), .pointer (some ⟨w1.heap.size, 0, none⟩)]] 85)).cell? ⟨w3.heap.size, 1, none⟩ = some (.func (.func 198) #[] #[.pointer (some ⟨w.heap.size, 0, none⟩), .pointer (some ⟨w1.heap.size, 0, none⟩)]) := by simp
  generalize hw4 : w3.alloc (.cells #[.func (.func 199) #[] #[.pointer (some ⟨w2.heap.size, 0, none⟩)], .func (.func 198) #[] #[.pointer (some ⟨w.heap.size, 0, none⟩), .pointer (some ⟨w1.heap.size, 0, none⟩)]] 85) = w4 at *
  have hcl := fun W (hW : Below w.heap.size w W) => cloneS_calls sa sn sc L W (by rw [hL, lstF_length] at hl; omega) (fun j hj => let ⟨b, o, e, c⟩ := hc j hj; ⟨b, o, e, Below.cell_some hW c⟩)
  have hT1 : ∀ W, Below w3.heap.size w3 W → ∀ s ∈ l, Calls Tryz.prog 198 (#[encStr s] ++ #[.pointer (some ⟨w.heap.size, 0, none⟩), .pointer (some ⟨w1.heap.size, 0, none⟩)]) W fun e w'' => e = .returned (.bool (backB (enF n P V R K Bk) p.data.toList s)) ∧ Below W.heap.size W w'' := fun W hW s hs =>
    liked1_in a n cap P V R K Bk Rv Kv w.heap.size w1.heap.size ⟨s.toArray⟩ p W (h.below (below_step hb1 hW)) hn (Below.cell_some hW z1) (Below.cell_some hW z2)
  have hT2 : ∀ W, Below w3.heap.size w3 W → ∀ s ∈ l, Calls Tryz.prog 199 (#[encStr s] ++ #[.pointer (some ⟨w2.heap.size, 0, none⟩)]) W fun e w'' => e = .returned (.bool (backB (enF n P V R K Bk) p.data.toList s || preB s)) ∧ Below W.heap.size W w'' := fun W hW s hs =>
    liked2_in ks A a n cap P V R K Bk Rv Kv w.heap.size w1.heap.size w2.heap.size ⟨s.toArray⟩ p W (hE.below (below_step hb1 hW)) (h.below (below_step hb1 hW)) hn (by have := hls s hs; simp [ByteArray.size]; omega) (Below.cell_some hW z1) (Below.cell_some hW z2) (Below.cell_some hW z3)
  have hd1 := fun (W0 W : World) (hW0 : Below w3.heap.size w3 W0) (e : Ending) h => del_new 198 #[.pointer (some ⟨w.heap.size, 0, none⟩), .pointer (some ⟨w1.heap.size, 0, none⟩)] enters_liked1 (backB (enF n P V R K Bk) p.data.toList) l W0 W e hl (fun W' hW' => hT1 W' (below_step hW0 hW')) sn L hL h
  have hd2 := fun (W0 W : World) (hW0 : Below w3.heap.size w3 W0) (e : Ending) h => del_new 199 #[.pointer (some ⟨w2.heap.size, 0, none⟩)] enters_liked2 (fun s => backB (enF n P V R K Bk) p.data.toList s || preB s) l W0 W e hl (fun W' hW' => hT2 W' (below_step hW0 hW')) sn L hL h
  have HLK : Hid (likedL (enF n P V R K Bk) p.data.toList l = if l.filter (fun v => !(backB (enF n P V R K Bk) p.data.toList v || preB v)) ≠ [] then l.filter (fun v => !(backB (enF n P V R K Bk) p.data.toList v || preB v)) else if l.filter (fun v => !backB (enF n P V R K Bk) p.data.toList v) ≠ [] then l.filter (fun v => !backB (enF n P V R K Bk) p.data.toList v) else l) := Lib.hid rfl
  generalize l.filter (fun v => !(backB (enF n P V R K Bk) p.data.toList v || preB v)) = L2 at *
  generalize l.filter (fun v => !backB (enF n P V R K Bk) p.data.toList v) = L1 at *
  generalize likedL (enF n P V R K Bk) p.data.toList l = LK at *
  have HV := Lib.hid hv
  have HB1 := Lib.hid hb1
  have HB34 := Lib.hid hb4
  replace hcl := Lib.hid hcl
  replace hd1 := Lib.hid hd1
  replace hd2 := Lib.hid hd2
  clear h hv hT1 hT2 hFV hb2 hb3 hE hls hL hc hb4 hb1
  go_enter Tryz.func168, Tryz.ntmps168
  go_wp2_with fail
  clear hw1 hw2 hw3 hw4 z1 z2 z3
  go_loopw [9, 10, 16] (fun _ _ i wr => ∃ k : Nat, k ≤ 2 ∧ i = .int .i64 k ∧ Below w4.heap.size w4 wr ∧ Hid ((0 < k → L2 = []) ∧ (1 < k → L1 = []))) (fun _ _ i _ => 2 - (intOf i).toNat)
  case atStart => exact ⟨0, Nat.zero_le _, rfl, Below.refl _ _, Lib.hid ⟨fun h => absurd h (by decide), fun h => absurd h (by decide)⟩⟩
  case round =>
    obtain ⟨k, hk, rfl, hBr, HI⟩ := hrel
    have hB3 := below_step HB34.out hBr
    have hB := below_step HB1.out hB3
    have hcp := hcl.out wr hB
    have hd1r := fun W e h => hd1.out wr W hB3 e h
    have hd2r := fun W e h => hd2.out wr W hB3 e h
    have hk3 : k = 0 ∨ k = 1 ∨ k = 2 := by omega
    rcases hk3 with rfl | rfl | rfl
    · have y4 := Below.cell_some hBr z4
      replace hcp := Lib.hid hcp
      replace hd1r := Lib.hid hd1r
      replace hd2r := Lib.hid hd2r
      go_wp2_with fail
      refine hcp.out.mono ?_
      rintro e w5 h5
      obtain ⟨u, rfl, ⟨ua, um, uc, rfl⟩, hdel⟩ := hd2r.out w5 e h5
      replace hdel := Lib.hid hdel
      clear h5 hcp
      go_wp2_with fail
      refine hdel.out.mono ?_
      rintro e w6 ⟨⟨v', rfl, hS⟩, hb6⟩
      obtain ⟨va, vm, vc, M, rfl, hM, _⟩ := id hS
      have hB6 := below_step hB hb6
      by_cases hlt : 0 < vm
      · have hlt' : (0 : Int) < (vm : Int) := by omega
        have HL : Hid (LK = L2) := Lib.hid (by
          rw [HLK.out, if_pos (fun e => by have := congrArg List.length (hM.symm.trans e); rw [lstF_length] at this; simp at this; omega)])
        have HS := Lib.hid hS
        clear hM hS
        go_wp2_with fail
        go_ret
        rw [HL.out]
        exact ⟨⟨_, rfl, HS.out⟩, hB6⟩
      · have hlt' : ¬ (0 : Int) < (vm : Int) := by omega
        have HI2 : Hid ((0 < 0 + 1 → L2 = []) ∧ (1 < 0 + 1 → L1 = [])) := Lib.hid ⟨fun _ => by
          rw [hM, show vm = 0 by omega]; rfl, fun h => absurd h (by decide)⟩
        clear hM hS
        go_wp2_with fail
        go_roundw
        case rel => exact ⟨0 + 1, by decide, by go_num, hBr.trans (hb6.mono hBr.size), HI2⟩
        case measure => simp [intOf]
    · have y5 := Below.cell_some hBr z5
      have HI1 := HI.out.1 (by decide)
      replace hcp := Lib.hid hcp
      replace hd1r := Lib.hid hd1r
      replace hd2r := Lib.hid hd2r
      replace HI1 := Lib.hid HI1
      go_wp2_with fail
      refine hcp.out.mono ?_
      rintro e w5 h5
      obtain ⟨u, rfl, ⟨ua, um, uc, rfl⟩, hdel⟩ := hd1r.out w5 e h5
      replace hdel := Lib.hid hdel
      clear h5 hcp
      go_wp2_with fail
      refine hdel.out.mono ?_
      rintro e w6 ⟨⟨v', rfl, hS⟩, hb6⟩
      obtain ⟨va, vm, vc, M, rfl, hM, _⟩ := id hS
      have hB6 := below_step hB hb6
      by_cases hlt : 0 < vm
      · have hlt' : (0 : Int) < (vm : Int) := by omega
        have HL : Hid (LK = L1) := Lib.hid (by
          rw [HLK.out, if_neg (fun h => h HI1.out), if_pos (fun e => by have := congrArg List.length (hM.symm.trans e); rw [lstF_length] at this; simp at this; omega)])
        have HS := Lib.hid hS
        clear hM hS
        go_wp2_with fail
        go_ret
        rw [HL.out]
        exact ⟨⟨_, rfl, HS.out⟩, hB6⟩
      · have hlt' : ¬ (0 : Int) < (vm : Int) := by omega
        have HI2 : Hid ((0 < 1 + 1 → L2 = []) ∧ (1 < 1 + 1 → L1 = [])) := Lib.hid ⟨fun _ => HI1.out, fun _ => by
          rw [hM, show vm = 0 by omega]; rfl⟩
        clear hM hS
        go_wp2_with fail
        go_roundw
        case rel => exact ⟨1 + 1, by decide, by go_num, hBr.trans (hb6.mono hBr.size), HI2⟩
        case measure => simp [intOf]
    · have HL : Hid (LK = l) := Lib.hid (by
        rw [HLK.out, if_neg (fun h => h (HI.out.1 (by decide))), if_neg (fun h => h (HI.out.2 (by decide)))])
      clear hcp hd1r hd2r
      go_wp2_with fail
      go_ret
      rw [HL.out]
      exact ⟨⟨_, rfl, HV.out.below hB⟩, hB⟩

theorem idxLatest_in (ks : List Nat) (A : Nat → Addr) (a : Option Addr) (n cap : Nat) (P V : Nat → ByteArray) (R : Nat → List Md) (K : Nat → List Str) (Bk : Nat → Bool) (Rv Kv : Nat → Value) (p : ByteArray) (w : World) (hE : EnvP ks A w) (h : EntsIn w a n cap P V R K Bk Rv Kv) (hs : ShortI (enF n P V R K Bk)) :
    Calls Tryz.prog 119 #[.slice a n cap, .string p] w fun e w' => e = .returned (.string ⟨(latestL (enF n P V R K Bk) p.data.toList).toArray⟩) ∧ Below w.heap.size w w' := by
  have hn : n ≤ 1000000 := by have := hs.len; rwa [enF_length] at this
  have h1 := idxVersions_in ks A a n cap P V R K Bk Rv Kv p w hE h hs
  have h2 := fun W hb v g => liked_in ks A a n cap P V R K Bk Rv Kv p v (vsort (versL (enF n P V R K Bk) p.data.toList)) W (hE.below hb) (h.below hb) hn g (by
    have := versL_size (p := p.data.toList) hs
    exact Nat.le_trans (vsort_len _) this.1) (fun x hx => (versL_size (p := p.data.toList) hs).2 x ((vsort_mem _ _).1 hx).1)
  have hln : (likedL (enF n P V R K Bk) p.data.toList (vsort (versL (enF n P V R K Bk) p.data.toList))).length ≤ 1000000 := Nat.le_trans (likedL_len _ _ _) (Nat.le_trans (vsort_len _) (versL_size (p := p.data.toList) hs).1)
  show Calls _ _ _ _ fun e w' => e = .returned (.string ⟨(lastS (likedL (enF n P V R K Bk) p.data.toList (vsort (versL (enF n P V R K Bk) p.data.toList)))).toArray⟩) ∧ Below w.heap.size w w'
  generalize vsort (versL (enF n P V R K Bk) p.data.toList) = VS at *
  generalize likedL (enF n P V R K Bk) p.data.toList VS = LS at *
  replace h1 := Lib.hid h1
  replace h2 := Lib.hid h2
  clear h hs hE
  go_enter Tryz.func119, Tryz.ntmps119
  go_wp2_with fail
  refine h1.out.mono ?_
  rintro e w1 ⟨⟨v, rfl, hv⟩, hb⟩
  have h3 := h2.out w1 hb v hv
  obtain ⟨a1, n1, c1, _, rfl, _⟩ := id hv
  replace h3 := Lib.hid h3
  clear hv
  go_wp2_with fail
  refine h3.out.mono ?_
  rintro e w2 ⟨⟨v2, rfl, hv2⟩, hb2⟩
  obtain ⟨a2, n2, c2, M, rfl, rfl, hc2, hm2, hcell⟩ := hv2
  rw [lstF_length] at hln
  have hB := below_step hb hb2
  by_cases h0 : n2 = 0
  · subst h0
    go_wp2_with fail
    go_ret
    exact ⟨rfl, hB⟩
  · obtain ⟨m, rfl⟩ : ∃ m, n2 = m + 1 := ⟨n2 - 1, by omega⟩
    have hne : (((m + 1 : Nat) : Int) == 0) = false := beq_eq_false_iff_ne.2 (by omega)
    have hw := wrap_nat m (by omega)
    have hm1 : (((m + 1 : Nat) : Int)) - 1 = (m : Int) := by omega
    have hm3 : (m : Int) + 1 - 1 = (m : Int) := by omega
    have hlt : (m : Int) < ((m + 1 : Nat) : Int) := by omega
    have hm2c : m + 1 ≤ c2 := hc2
    obtain ⟨b1, o1, rfl, c0⟩ := hcell m (Nat.lt_succ_self m)
    have HL : Hid (lastS (lstF (m + 1) M) = (M m).data.toList) := Lib.hid (by
      have : lstF (m + 1) M = lstF m M ++ [(M m).data.toList] := by simp [lstF, List.range_succ]
      rw [this]; simp [lastS])
    clear hcell
    go_wp2_with fail
    go_ret
    rw [HL.out, bytes_back]
    exact ⟨rfl, hB⟩
end Go.Proofs.Pw

/- up.latest. Conditions: an index that is short, a list of at most 1000000. -/
namespace Go.Proofs.Pw
open Go.RowKit
open Go.Lib hiding intOf

theorem held1 {w2 W : World} {a : Addr} {u : Value} (h0 : w2.cell? a = some u) (hb : Below w2.heap.size w2 W) : W.cell? a = some u ∧ Below w2.heap.size w2 W := ⟨Below.cell_some hb h0, hb⟩

set_option maxHeartbeats 4000000 in
set_option maxRecDepth 100000 in
theorem upLatest_in (ks : List Nat) (A : Nat → Addr) (a : Option Addr) (n cap : Nat) (P V : Nat → ByteArray) (R : Nat → List Md) (K : Nat → List Str) (Bk : Nat → Bool) (Rv Kv : Nat → Value) (sv : Value) (sel : List Md) (w : World) (hE : EnvP ks A w) (h : EntsIn w a n cap P V R K Bk Rv Kv) (hs : ShortI (enF n P V R K Bk)) (hv : ModsAt w sv sel) (hl : sel.length ≤ 1000000) :
    Calls Tryz.prog 77 #[.slice a n cap, sv] w fun e w' => (∃ v L, e = .returned v ∧ mdTs L = latestM (enF n P V R K Bk) sel ∧ w'.ownsRow w.heap.size 38 2 v L.length (mdVs L)) ∧ Below w.heap.size w w' := by
  obtain ⟨i0, hi, hz0, hz1, hz2⟩ := info_parts Tryz.infoMod
  obtain ⟨sa, m, sc, Q, U, rfl, rfl, _, _, hc⟩ := hv
  rw [mdF_length] at hl
  have hla := fun (p : ByteArray) (W : World) (hb : Below w.heap.size w W) => idxLatest_in ks A a n cap P V R K Bk Rv Kv p W (hE.below hb) (h.below hb) hs
  generalize enF n P V R K Bk = l at *
  have HL := Lib.hid hl
  replace hla := Lib.hid hla
  replace hc := Lib.hid hc
  clear h hs hE
  go_enter Tryz.func77, Tryz.ntmps77
  go_wp2_with fail
  go_loopw [5, 10] (fun o i wr => ∃ (k : Nat) (L : List (ByteArray × ByteArray)), k ≤ m ∧ i = .int .i64 k ∧ Hid (wr.ownsRow w.heap.size 38 2 o L.length (mdVs L)) ∧ L.length ≤ k ∧ Hid (mdTs L = latestM l ((mdF m Q U).take k)) ∧ Below w.heap.size w wr) (fun _ i _ => m - (intOf i).toNat)
  case atStart => exact ⟨0, [], Nat.zero_le _, rfl, Lib.hid (World.ownsRow_nil _ _ _ _), Nat.le_refl _, Lib.hid rfl, Below.refl _ _⟩
  case round =>
    obtain ⟨k, L, hk, rfl, hO, hLk, hT, hBr⟩ := hrel
    obtain ⟨ao, no, co, rfl⟩ := own_form hO.out
    have hown := Lib.hid (fun q (e : (Value.slice ao no co).ownBlock = some q) => (hO.out.lt q e).1)
    have hl2 := HL.out
    by_cases hlt : k < m
    · have hkn : (k : Int) < (m : Int) := by omega
      obtain ⟨b1, o1, ea, c0, c1⟩ := hc.out k hlt
      replace c0 := Below.cell_some hBr c0
      replace c1 := Below.cell_some hBr c1
      subst ea
      have hba := below_alloc wr (.cells #[.string (Q k), .string (U k)] 38)
      have hz := box2_alloc wr (.string (Q k)) (.string (U k)) 38
      have hO2 := hO.out.below hba
      have hB2 := below_step hBr hba
      obtain ⟨w2, hW⟩ : ∃ W, wr.alloc (.cells #[.string (Q k), .string (U k)] 38) = W := ⟨_, rfl⟩
      rw [hW] at hz hO2 hB2
      have HO := Lib.hid hO2
      have HZ := Lib.hid hz
      obtain ⟨LX, hLX⟩ : ∃ LX : ByteArray, LX = ⟨(latestL l (Q k).data.toList).toArray⟩ := ⟨_, rfl⟩
      have hlk := hla.out (Q k)
      rw [← hLX] at hlk
      have HN : Hid (mdTs (L ++ [(Q k, LX)]) = latestM l ((mdF m Q U).take (k + 1))) := Lib.hid (by
        rw [mdF_take_succ m Q U k hlt, latestM_snoc, mdTs_sn, hT.out, hLX])
      have hbW := hB2.drew
      have hcW : w2.drew.cell? ⟨wr.heap.size, 0, none⟩ = some (.string (Q k)) := HZ.out.c0
      have hnb : some wr.heap.size ≠ (Value.slice ao no co).ownBlock := fun e => by
        have := (hO.out.lt _ e.symm).2
        omega
      replace hnb := Lib.hid hnb
      replace hlk := Lib.hid hlk
      clear hba hz hO2 hT hO hLX hB2
      go_wp2_with fail
      clear hW c0 c1
      go_region_held2 (fun W => W.cell? ⟨wr.heap.size, 0, none⟩ = some (.string (Q k)) ∧ Below w.heap.size w W) (first | exact ⟨hcW8, hB8⟩ | exact ⟨Below.cell_some (below_alloc _ _) hcW, hbW.alloc hbW.size _⟩ | exact ⟨hcW, hbW⟩) (first
        | (go_at_call 119; refine (hlk.out _ hbW).mono ?_; rintro e w7 ⟨rfl, hb7⟩; replace hbW := below_step hbW hb7; replace hcW := Below.cell_some hb7 hcW; have hO7 := ownsRow_kept HO.out.drew hb7)
        | (refine step_append_lies _ rfl (.tmp 14) (.tmp 22) 23 rfl w.heap.size 38 i0 (.agg #[.string ⟨#[]⟩, .string ⟨#[]⟩]) 2 32 Tryz.underlying23 hi hz0 hz1 hz2 rfl (by decide) (.slice ao no co) L.length (mdVs L) (by simp [Act.eval]) (hO7.alloc _) ⟨w7.heap.size, 0, none⟩ 1 1 [.string (Q k), .string LX] (by simp [Act.eval]) rfl (cell_two_new w7 (Q k) LX _) (fun u hu => by simp at hu; rcases hu with rfl | rfl <;> rfl) (by decide) (by unfold maxLen; omega) (by omega) (by have := hbW.size; simp; omega) _ rfl ?_; intro g7 c7 w8 hown8 hgrow8 hg8 hl8; have hB8 := (hbW.alloc hbW.size _).grown hgrow8 (by have := hbW.size; simp; omega) hown.out; have hcW8 := hgrow8.cell (Below.cell_some (below_alloc _ _) hcW) hnb.out))
      all_goals
        go_wp2_with fail
        go_roundw
        case rel =>
          refine ⟨k + 1, L ++ [(Q k, LX)], by omega, by go_num, Lib.hid ?_, by simp; omega, HN, hB8⟩
          rw [List.length_append, List.length_singleton, ← mdVs_snoc]
          exact hown8
        case measure => simp [intOf]; omega
    · have HT : Hid (mdTs L = latestM l (mdF m Q U)) := Lib.hid (by rw [hT.out, show k = m by omega, mdF_take_all])
      have hnk : ¬ (k : Int) < (m : Int) := by omega
      clear hT hlt
      go_wp2_with fail
      go_ret
      first | exact ⟨⟨_, L, rfl, HT.out, hO.out⟩, hBr⟩ | exact ⟨⟨_, rfl, L, HT.out, hO.out⟩, hBr⟩
end Go.Proofs.Pw

/- up.One. Conditions: an index and a list that are short. -/
namespace Go.Proofs.Pw
open Go.RowKit
open Go.Lib hiding intOf

theorem own_snoc {w : World} {base e : Nat} {v : Value} {L : List (ByteArray × ByteArray)} {p q : ByteArray} (h : w.ownsRow base e 2 v (L.length + 1) (mdVs L ++ [.string p, .string q])) : ModsAt w v (mdTs L ++ [(p.data.toList, q.data.toList)]) := by
  rw [mdVs_snoc, show L.length + 1 = (L ++ [(p, q)]).length by simp] at h
  have := modsAt_own h
  rwa [mdTs_sn] at this
set_option maxHeartbeats 4000000 in
set_option maxRecDepth 100000 in
theorem upOne_in (ks : List Nat) (A : Nat → Addr) (hks : IdxKs ks) (a : Option Addr) (n cap : Nat) (P V : Nat → ByteArray) (R : Nat → List Md) (K : Nat → List Str) (Bk : Nat → Bool) (Rv Kv : Nat → Value) (rv : Value) (roots : List Md) (p v : ByteArray) (w : World) (hE : EnvP ks A w) (h : EntsIn w a n cap P V R K Bk Rv Kv) (hs : ShortI (enF n P V R K Bk)) (hr : ModsAt w rv roots) (hl : roots.length ≤ 10000) :
    Calls Tryz.prog 34 #[.slice a n cap, rv, .agg #[.string p, .string v]] w fun e w' => (∃ x ev, e = .returned (.tuple #[x, ev]) ∧ FaultAt A w' ev (oneErr (enF n P V R K Bk) roots (p.data.toList, v.data.toList)) ∧ ModsAt w' x (oneR (enF n P V R K Bk) roots (p.data.toList, v.data.toList))) ∧ Below w.heap.size w w' := by
  obtain ⟨i0, hi, hz0, hz1, hz2⟩ := info_parts Tryz.infoMod
  have hB := below_alloc w (.cells #[.string p, .string v] 38)
  have hz := box2_alloc w (.string p) (.string v) 38
  obtain ⟨ar, rn, rc, _, _, rfl, _⟩ := id hr
  have hn : n ≤ 1000000 := by have := hs.len; rwa [enF_length] at this
  have hbu := fun (W : World) (hb : Below w.heap.size w W) rv roots (hr : ModsAt W rv roots) (hl : roots.length ≤ 100000) => mvsBuild_in ks A hks a n cap P V R K Bk Rv Kv rv roots W (hE.below hb) (h.below hb) hs hr hl
  have hfo := fun (W : World) (hb : Below w.heap.size w W) => idxFind_in a n cap P V R K Bk Rv Kv p v W (h.below hb) hn
  have hcl := fun (W : World) (hb : Below w.heap.size w W) => cloneM_calls (.slice ar rn rc) roots W (hr.below hb) (by omega)
  have HE := Lib.hid hE
  have HR := Lib.hid hr
  have HL := Lib.hid hl
  generalize enF n P V R K Bk = l at *
  have hb1 := hbu _ hB _ _ (hr.below hB) (by omega)
  have HZ0 : Hid ((startErr l roots).1 ≠ 0 → oneErr l roots (p.data.toList, v.data.toList) = startErr l roots ∧ oneR l roots (p.data.toList, v.data.toList) = []) := Lib.hid (fun h0 => by
    have e : oneErr l roots (p.data.toList, v.data.toList) = startErr l roots := by unfold oneErr orE; rw [if_pos h0]
    exact ⟨e, by unfold oneR; rw [if_neg (by rw [e]; exact h0)]⟩)
  have HZ1 : Hid ((startErr l roots).1 = 0 → findE l (p.data.toList, v.data.toList) < 0 → oneErr l roots (p.data.toList, v.data.toList) = (5, -1) ∧ oneR l roots (p.data.toList, v.data.toList) = []) := Lib.hid (fun h0 h1 => by
    have e : oneErr l roots (p.data.toList, v.data.toList) = (5, -1) := by unfold oneErr orE; rw [if_neg (by simp [h0]), if_pos h1]
    exact ⟨e, by unfold oneR; rw [if_neg (by rw [e]; decide)]⟩)
  have HZ2 : Hid ((startErr l roots).1 = 0 → 0 ≤ findE l (p.data.toList, v.data.toList) → oneErr l roots (p.data.toList, v.data.toList) = (0, -1) ∧ oneR l roots (p.data.toList, v.data.toList) = buildR l (roots ++ [(p.data.toList, v.data.toList)]) ∧ startErr l (roots ++ [(p.data.toList, v.data.toList)]) = (0, -1)) := Lib.hid (fun h0 h1' => by
    have h1 : ¬ findE l (p.data.toList, v.data.toList) < 0 := by omega
    have e : oneErr l roots (p.data.toList, v.data.toList) = (0, -1) := by unfold oneErr orE; rw [if_neg (by simp [h0]), if_neg h1]
    have h2 := one_start h0 h1
    exact ⟨e, by unfold oneR buildR; rw [if_pos (by rw [e]), if_pos h2], startErr_at h2⟩)
  generalize oneErr l roots (p.data.toList, v.data.toList) = OE at *
  generalize oneR l roots (p.data.toList, v.data.toList) = OR at *
  generalize findE l (p.data.toList, v.data.toList) = x at *
  obtain ⟨z0, z1, zf⟩ := id hz
  replace hbu := Lib.hid hbu
  replace hfo := Lib.hid hfo
  replace hcl := Lib.hid hcl
  replace hb1 := Lib.hid hb1
  clear h hs hr hE hl
  go_enter Tryz.func34, Tryz.ntmps34
  go_wp2_with fail
  generalize hw1 : w.alloc (.cells #[.string p, .string v] 38) = w1 at *
  have hs1 : w.heap.size < w1.heap.size := by rw [← hw1]; simp
  clear hw1
  refine hb1.out.mono ?_
  rintro e w2 ⟨⟨x2, ev2, rfl, hf2, hx2⟩, hb⟩
  replace hB := below_step hB hb
  replace hz := hz.below hb
  have hs2 : w.heap.size < w2.heap.size := Nat.lt_of_lt_of_le hs1 hb.size
  obtain ⟨a2, n2, c2, _, _, rfl, -⟩ := id hx2
  clear hb hb1 z0 z1 zf hx2
  rcases fault_form hf2 with ⟨h0, rfl⟩ | ⟨h0, ty, q, rfl⟩
  · have hff := hfo.out _ hB
    obtain ⟨z0, z1, zf⟩ := id hz
    by_cases hx : x < 0
    · have HF := Lib.hid (HZ1.out h0 hx)
      replace hff := Lib.hid hff
      clear h0 hf2 HZ0 HZ1 HZ2
      go_wp2_with fail
      refine hff.out.mono ?_
      rintro e w3 ⟨rfl, hb⟩
      replace hB := below_step hB hb
      have g5 := (HE.out.below hB).errs.var 5 hks.2.2.1
      simp only [errG] at g5
      clear hb hff z0 z1 zf hz
      go_wp2_with fail
      go_region
      all_goals
        go_wp2_with fail
        go_ret2
        rw [HF.out.1, HF.out.2]
        refine ⟨⟨_, _, rfl, .inr (.inl ⟨by decide, rfl, ?_⟩), ModsAt.nil _⟩, hB.drew⟩
        show _ = errV A 5
        rw [errV_pos A (show (5 : Nat) ≠ 0 by decide)]
        rfl
    · have HF := Lib.hid (HZ2.out h0 (by omega))
      replace hff := Lib.hid hff
      clear h0 hf2 HZ0 HZ1 HZ2
      go_wp2_with fail
      refine hff.out.mono ?_
      rintro e w3 ⟨rfl, hb⟩
      replace hB := below_step hB hb
      replace hz := hz.below hb
      have hs3 : w.heap.size < w3.heap.size := Nat.lt_of_lt_of_le hs2 hb.size
      clear hb hff z0 z1 zf
      have HZB := Lib.hid hz
      have hbW := (Below.refl w3.heap.size w3).drew
      have HB3 := Lib.hid hB
      have hl2 := HL.out
      clear hz hB
      go_wp2_with fail
      go_region_held2 (fun W => (W.cell? ⟨w.heap.size, 0, none⟩ = some (.string p) ∧ W.cell? ⟨w.heap.size, 1, none⟩ = some (.string v)) ∧ Below w3.heap.size w3 W) (first | exact ⟨⟨(HZB.out.below hbW9).c0, (HZB.out.below hbW9).c1⟩, hbW9⟩ | exact ⟨⟨(HZB.out.below hbW8).c0, (HZB.out.below hbW8).c1⟩, hbW8⟩ | exact ⟨⟨(HZB.out.below (hbW.alloc hbW.size _)).c0, (HZB.out.below (hbW.alloc hbW.size _)).c1⟩, hbW.alloc hbW.size _⟩ | exact ⟨⟨(HZB.out.below hbW).c0, (HZB.out.below hbW).c1⟩, hbW⟩) (first
        | (go_at_call 83; refine (hcl.out w3.drew (below_step HB3.out hbW)).mono ?_; rintro e w7 ⟨v7, L7, rfl, hL7, ho7, hb7⟩; replace hbW := below_step hbW hb7; have hl7 : Hid (L7.length = roots.length ∧ roots = mdTs L7) := Lib.hid ⟨by rw [hL7, mdTs_length], hL7⟩; clear hL7; obtain ⟨a7, n7, c7, rfl⟩ := own_form ho7)
        | (go_at_call 83; refine (hcl.out (w3.drew.alloc (.cells #[.string p, .string v] 38)) (below_step HB3.out (hbW.alloc hbW.size _))).mono ?_; rintro e w7 ⟨v7, L7, rfl, hL7, ho7, hb7⟩; replace hbW := below_step (hbW.alloc hbW.size _) hb7; have hl7 : Hid (L7.length = roots.length ∧ roots = mdTs L7) := Lib.hid ⟨by rw [hL7, mdTs_length], hL7⟩; clear hL7; obtain ⟨a7, n7, c7, rfl⟩ := own_form ho7; replace ho7 := ho7.mono (base' := w3.heap.size) (by simp); have hcB : ∀ j u, ([.string p, .string v] : List Value)[j]? = some u → w7.cell? ((⟨w3.heap.size, 0, none⟩ : Addr).add j) = some u := fun j u h => Below.cell_some hb7 (cell_two_new w3.drew p v _ j u h))
        | (refine step_append_lies _ rfl (.tmp 26) (.tmp 28) 23 rfl w3.heap.size 38 i0 (.agg #[.string ⟨#[]⟩, .string ⟨#[]⟩]) 2 32 Tryz.underlying23 hi hz0 hz1 hz2 rfl (by decide) (.slice a7 n7 c7) L7.length (mdVs L7) (by simp [Act.eval]) ho7 ⟨w3.heap.size, 0, none⟩ 1 1 [.string p, .string v] (by simp [Act.eval]) rfl hcB (fun u hu => by simp at hu; rcases hu with rfl | rfl <;> rfl) (by decide) (by have := hl7.out.1; unfold maxLen; omega) (by have := hl7.out.1; omega) hbW.size _ rfl ?_; intro g8 c8 w8 hown8 hgrow8 hg8 hl8; have hbW8 := hbW.grown hgrow8 hbW.size (fun q hq => (ho7.lt q hq).1); have hM8 := own_snoc hown8; have hlen8 : (mdTs L7 ++ [(p.data.toList, v.data.toList)]).length ≤ 100000 := (by rw [List.length_append, mdTs_length, hl7.out.1]; simp; omega))
        | (refine step_append_lies _ rfl (.tmp 26) (.tmp 28) 23 rfl w3.heap.size 38 i0 (.agg #[.string ⟨#[]⟩, .string ⟨#[]⟩]) 2 32 Tryz.underlying23 hi hz0 hz1 hz2 rfl (by decide) (.slice a7 n7 c7) L7.length (mdVs L7) (by simp [Act.eval]) (World.ownsRow.alloc ho7 _) ⟨w7.heap.size, 0, none⟩ 1 1 [.string p, .string v] (by simp [Act.eval]) rfl (cell_two_new w7 p v _) (fun u hu => by simp at hu; rcases hu with rfl | rfl <;> rfl) (by decide) (by have := hl7.out.1; unfold maxLen; omega) (by have := hl7.out.1; omega) (by have := hbW.size; simp; omega) _ rfl ?_; intro g8 c8 w8 hown8 hgrow8 hg8 hl8; have hbW8 := (hbW.alloc hbW.size _).grown hgrow8 (by have := hbW.size; simp; omega) (fun q hq => (ho7.lt q hq).1); have hM8 := own_snoc hown8; have hlen8 : (mdTs L7 ++ [(p.data.toList, v.data.toList)]).length ≤ 100000 := (by rw [List.length_append, mdTs_length, hl7.out.1]; simp; omega))
        | (go_at_call 21; refine (hbu.out _ (below_step HB3.out hbW8) _ _ hM8 hlen8).mono ?_; rintro e w9 ⟨⟨x9, ev9, rfl, hf9, hx9⟩, hb9⟩; have hbW9 := below_step hbW8 hb9))
      all_goals
        rw [← hl7.out.2] at hf9 hx9
        go_wp2_with fail
        go_ret2
        rw [HF.out.1, HF.out.2.1]
        rw [HF.out.2.2] at hf9
        exact ⟨⟨_, _, rfl, hf9, hx9⟩, below_step HB3.out hbW9⟩
  · have HF := Lib.hid (HZ0.out h0)
    have HV := Lib.hid hf2
    clear h0 hf2 HZ0 HZ1 HZ2
    go_wp2_with fail
    go_ret2
    rw [HF.out.1, HF.out.2]
    exact ⟨⟨_, _, rfl, HV.out, ModsAt.nil _⟩, hB⟩
end Go.Proofs.Pw

/- up.All. Conditions: an index and a list that are short. -/
namespace Go.Proofs.Pw
open Go.RowKit
open Go.Lib hiding intOf

theorem ModsAt.uniq {w : World} {v : Value} {l m : List Md} (h : ModsAt w v l) (g : ModsAt w v m) : l = m := by
  obtain ⟨a, n, cap, P, V, rfl, rfl, _, _, hc⟩ := h
  obtain ⟨a', n', cap', Q, U, e, rfl, _, _, hd⟩ := g
  injection e with e1 e2 e3
  subst e1 e2 e3
  apply List.ext_getElem?
  intro i
  by_cases hi : i < n
  · rw [mdF_get n P V i hi, mdF_get n Q U i hi]
    obtain ⟨b, o, e, c0, c1⟩ := hc i hi
    obtain ⟨b', o', e', d0, d1⟩ := hd i hi
    rw [e] at e'
    injection e' with e'
    injection e' with e4 e5 _
    subst e4 e5
    rw [c0] at d0
    rw [c1] at d1
    injection d0 with d0
    injection d1 with d1
    injection d0 with d0
    injection d1 with d1
    rw [d0, d1]
  · rw [List.getElem?_eq_none (by rw [mdF_length]; omega), List.getElem?_eq_none (by rw [mdF_length]; omega)]
/-- the list that a slice holds -/
noncomputable def listAt (w : World) (v : Value) : List Md := @dite _ (∃ l, ModsAt w v l) (Classical.propDecidable _) (fun h => Classical.choose h) (fun _ => [])
theorem listAt_of {w : World} {v : Value} {l : List Md} (h : ModsAt w v l) : listAt w v = l := by
  unfold listAt
  rw [dif_pos ⟨l, h⟩]
  exact (Classical.choose_spec (⟨l, h⟩ : ∃ l, ModsAt w v l)).uniq h
/-- how far it is from what is all newer -/
noncomputable def farAt (l : List En) (w : World) (v : Value) : Nat := l.length - weight l (listAt w v)
theorem farAt_of {l : List En} {w : World} {v : Value} {x : List Md} (h : ModsAt w v x) : farAt l w v = l.length - weight l x := by unfold farAt; rw [listAt_of h]
theorem farAt_lt {l : List En} {w w' : World} {v v' : Value} {x : List Md} (h : ModsAt w v x) (h' : ModsAt w' v' (nextL l x)) (hx : SelOk l x) (hne : nextL l x ≠ x) : farAt l w' v' < farAt l w v := by
  rw [farAt_of h, farAt_of h']
  have h3 := weight_lt hx (next_ok hx.right) (next_over hx.right) hne
  have h4 := weight_le l (nextL l x)
  omega

set_option maxHeartbeats 4000000 in
set_option maxRecDepth 100000 in
theorem upAll_in (ks : List Nat) (A : Nat → Addr) (hks : IdxKs ks) (a : Option Addr) (n cap : Nat) (P V : Nat → ByteArray) (R : Nat → List Md) (K : Nat → List Str) (Bk : Nat → Bool) (Rv Kv : Nat → Value) (rv : Value) (roots : List Md) (w : World) (hE : EnvP ks A w) (h : EntsIn w a n cap P V R K Bk Rv Kv) (hs : ShortI (enF n P V R K Bk)) (hr : ModsAt w rv roots) (hl : roots.length ≤ 10000) :
    Calls Tryz.prog 31 #[.slice a n cap, rv] w fun e w' => (∃ x ev, e = .returned (.tuple #[x, ev]) ∧ FaultAt A w' ev (startErr (enF n P V R K Bk) roots) ∧ ModsAt w' x (allR (enF n P V R K Bk) roots)) ∧ Below w.heap.size w w' := by
  obtain ⟨ar, rn, rc, _, _, rfl, _⟩ := id hr
  have hbu := fun (W : World) (hb : Below w.heap.size w W) rv roots (hr : ModsAt W rv roots) (hl : roots.length ≤ 100000) => mvsBuild_in ks A hks a n cap P V R K Bk Rv Kv rv roots W (hE.below hb) (h.below hb) hs hr hl
  have hla := fun (W : World) (hb : Below w.heap.size w W) sv sel (hv : ModsAt W sv sel) (hl : sel.length ≤ 1000000) => upLatest_in ks A a n cap P V R K Bk Rv Kv sv sel W (hE.below hb) (h.below hb) hs hv hl
  generalize enF n P V R K Bk = l at *
  have hb1 := hbu _ (Below.refl _ _) _ _ hr (by omega)
  have HA0 : Hid ((startErr l roots).1 ≠ 0 → allR l roots = []) := Lib.hid (fun h0 => by unfold allR; rw [if_neg h0])
  have HA1 : Hid ((startErr l roots).1 = 0 → allR l roots = allF l (l.length + 1) (buildL l roots) ∧ startErr l roots = (0, -1) ∧ buildR l roots = buildL l roots) := Lib.hid (fun h0 => ⟨by unfold allR; rw [if_pos h0]; rfl, startErr_at h0, by unfold buildR; rw [if_pos h0]⟩)
  have HNX : Hid ((startErr l roots).1 = 0 → ∀ x, RightG l x → startErr l (x ++ latestM l x) = (0, -1) ∧ buildR l (x ++ latestM l x) = nextL l x) := Lib.hid (fun h0 x hx => by
    have h2 : (startErr l (x ++ latestM l x)).1 = 0 := by
      unfold startErr at h0 ⊢
      rw [orE_zero] at h0 ⊢
      exact ⟨h0.1, rootsErr_zero.2 (next_right hx).at_⟩
    exact ⟨startErr_at h2, by unfold buildR nextL; rw [if_pos h2]⟩)
  have HOK : Hid ((startErr l roots).1 = 0 → SelOk l (buildL l roots) ∧ (buildL l roots).length ≤ 100) := Lib.hid (fun h0 => ⟨build_ok (rightG_of h0), build_len (rightG_of h0)⟩)
  generalize startErr l roots = SE at *
  generalize allR l roots = AR at *
  generalize buildR l roots = BR at *
  generalize buildL l roots = BL at *
  replace hbu := Lib.hid hbu
  replace hla := Lib.hid hla
  replace hb1 := Lib.hid hb1
  clear h hs hr hE hl
  go_enter Tryz.func31, Tryz.ntmps31
  go_wp2_with fail
  refine hb1.out.mono ?_
  rintro e w1 ⟨⟨x1, ev1, rfl, hf1, hx1⟩, hB⟩
  obtain ⟨a1, n1, c1, _, _, rfl, -⟩ := id hx1
  rcases fault_form hf1 with ⟨h0, rfl⟩ | ⟨h0, ty, q, rfl⟩
  · have H1 := HA1.out h0
    rw [H1.2.2] at hx1
    have HAR := Lib.hid (And.intro H1.1 H1.2.1)
    have HN := Lib.hid (HNX.out h0)
    have HOK1 := Lib.hid (HOK.out h0)
    have HX1 := Lib.hid hx1
    clear hf1 h0 H1 HA0 HA1 HNX HOK hx1 hb1
    go_wp2_with fail
    go_loopw [6, 8, 9] (fun s _ _ wr => ∃ x : List Md, Hid (ModsAt wr s x) ∧ Below w.heap.size w wr ∧ Hid (SelOk l x ∧ x.length ≤ 100 ∧ allF l (l.length + 1) x = allF l (l.length + 1) BL)) (fun s _ _ W => farAt l W s)
    case atStart => exact ⟨BL, HX1, hB, Lib.hid ⟨HOK1.out.1, HOK1.out.2, rfl⟩⟩
    case round =>
      clear hB HX1
      obtain ⟨x, hX, hB, hI⟩ := hrel
      obtain ⟨xa, xn, xc, _, _, rfl, -⟩ := id hX.out
      have hlt := hla.out wr hB _ _ hX.out (by have := hI.out.2.1; omega)
      have HFW : Hid (farAt l wr (.slice xa xn xc) = l.length - weight l x) := Lib.hid (farAt_of hX.out)
      have HX0 := Lib.hid hX.out
      replace hlt := Lib.hid hlt
      go_wp2_with fail
      refine hlt.out.mono ?_
      rintro e w2 ⟨⟨v2, L2, rfl, hL2, ho2⟩, hb2⟩
      have hM2 := modsAt_own ho2
      rw [hL2] at hM2
      obtain ⟨a2, n2, c2, rfl⟩ := own_form ho2
      have hX2 := hX.out.below hb2
      have hba := below_alloc w2 (.cells #[.slice xa xn xc, .slice a2 n2 c2] 23)
      have y0 : (w2.alloc (.cells #[.slice xa xn xc, .slice a2 n2 c2] 23)).cell? ⟨w2.heap.size, 0, none⟩ = some (.slice xa xn xc) := by simp
      have y1 : (w2.alloc (.cells #[.slice xa xn xc, .slice a2 n2 c2] 23)).cell? ⟨w2.heap.size, 1, none⟩ = some (.slice a2 n2 c2) := by simp
      have hct := concatM_calls w2.heap.size _ _ _ _ (w2.alloc (.cells #[.slice xa xn xc, .slice a2 n2 c2] 23)) (hX2.below hba) (hM2.below hba) (by have := hI.out.2.1; omega) (by rw [latestM_len]; have := hI.out.2.1; omega) y0 y1
      have hB2 := below_step hB (below_step hb2 hba)
      have hR2 := below_step hb2 hba
      replace hct := Lib.hid hct
      clear hM2 hX2 ho2 hL2 y0 y1 hb2 hba hlt
      go_wp2_with fail
      refine hct.out.mono ?_
      rintro e w3 ⟨⟨v3, L3, rfl, hL3, ho3⟩, hb3⟩
      have hM3 := modsAt_own ho3
      rw [hL3] at hM3
      obtain ⟨a3, n3, c3, rfl⟩ := own_form ho3
      have hB3 := below_step hB2 hb3
      have hR3 := below_step hR2 hb3
      have hbd := hbu.out w3 hB3 _ _ hM3 (by rw [List.length_append, latestM_len]; have := hI.out.2.1; omega)
      rw [(HN.out x hI.out.1.right).1, (HN.out x hI.out.1.right).2] at hbd
      replace hbd := Lib.hid hbd
      clear hM3 ho3 hL3 hb3 hct hB2 hR2
      go_wp2_with fail
      refine hbd.out.mono ?_
      rintro e w4 ⟨⟨x4, ev4, rfl, hf4, hx4⟩, hb4⟩
      obtain rfl : ev4 = .nilIface := by
        rcases fault_form hf4 with ⟨_, h⟩ | ⟨h, _⟩
        · exact h
        · exact absurd rfl h
      have hB4 := below_step hB3 hb4
      have hR4 := below_step hR3 hb4
      have hXw := HX0.out.below hR4
      have heq := equalM_calls _ _ _ _ w4 hx4 hXw
      obtain ⟨a4, n4, c4, _, _, rfl, -⟩ := id hx4
      have HX4 := Lib.hid (And.intro hx4 hXw)
      by_cases hst : nextL l x = x
      · rw [decide_eq_true hst] at heq
        have HF : Hid (AR = x) := Lib.hid (by rw [HAR.out.1, ← hI.out.2.2, allF_stop hst])
        replace heq := Lib.hid heq
        clear hf4 hx4 hXw hb4 hbd hst hB3 hR3
        go_wp2_with fail
        refine heq.out.mono ?_
        rintro e w5 ⟨rfl, hb5⟩
        go_wp2_with fail
        go_ret2
        rw [HF.out, HAR.out.2]
        exact ⟨⟨_, _, rfl, .inl ⟨rfl, rfl, rfl⟩, HX4.out.2.below hb5⟩, below_step hB4 hb5⟩
      · rw [decide_eq_false hst] at heq
        have HST := Lib.hid hst
        replace heq := Lib.hid heq
        clear hf4 hx4 hXw hb4 hbd hst hB3 hR3
        go_wp2_with fail
        refine heq.out.mono ?_
        rintro e w5 ⟨rfl, hb5⟩
        go_wp2_with fail
        go_roundw
        case rel =>
          refine ⟨nextL l x, Lib.hid (HX4.out.1.below hb5), below_step hB4 hb5, Lib.hid ⟨next_ok hI.out.1.right, next_len hI.out.1.right, ?_⟩⟩
          rw [← hI.out.2.2]
          have h3 := weight_lt hI.out.1 (next_ok hI.out.1.right) (next_over hI.out.1.right) HST.out
          have h4 := weight_le l (nextL l x)
          have h5 : allF l (l.length + 1) x = allF l l.length (nextL l x) := by rw [allF, if_neg HST.out]
          rw [h5]
          exact allF_fuel _ _ (next_ok hI.out.1.right) (by omega) (by omega)
        case measure => exact farAt_lt HX0.out (HX4.out.1.below hb5) hI.out.1 HST.out
  · have HAR := Lib.hid (HA0.out h0)
    have HV := Lib.hid hf1
    clear h0 hf1 HA0 HA1 HNX HOK hx1
    go_wp2_with fail
    go_ret2
    rw [HAR.out]
    exact ⟨⟨_, _, rfl, HV.out, ModsAt.nil _⟩, hB⟩
end Go.Proofs.Pw

/- upped of the statements: a closed fact. -/
namespace Go.Proofs.Pw
open Go.RowKit
open Go.Lib hiding intOf

def smRoots0 : List Md := [(sA.data.toList, v100.data.toList)]
theorem sm_err0 : startErr smL smRoots0 = (0, -1) := by decide +kernel
theorem sm_right0 : RightG smL smRoots0 := rightG_of (by rw [sm_err0])
theorem sm_build0 : buildL smL smRoots0 = smRoots0 := by
  have hT : ∀ x, Reached smL smRoots0 x → x ∈ smRoots0 := fun x hx => reached_closed (fun m hm => hm) (by decide +kernel) hx
  refine rises_ext modCmp_ord sm_right0.great.rises (by simp [Rises, smRoots0]) fun m => ?_
  rw [build_mem sm_right0]
  constructor
  · rintro ⟨h1, _⟩
    exact hT m h1
  · intro h
    refine ⟨.root h, fun x hx _ => ?_⟩
    have h3 := hT x hx
    simp only [smRoots0, List.mem_singleton] at h3 h
    rw [h3, h, verCmp_ord.self]
    decide
theorem sm_latest0 : latestM smL smRoots0 = [(sA.data.toList, v110.data.toList)] := by decide +kernel
theorem sm_latestX : latestM smL smX = smX := by decide +kernel
theorem sm_next0 : nextL smL smRoots0 = smX := by
  unfold nextL
  rw [sm_latest0]
  exact sm_build2
theorem reach_twice {l : List En} {x : List Md} (h : RightG l x) : buildL l (x ++ x) = buildL l x := by
  have h2 : RightG l (x ++ x) := ⟨h.idx, fun m hm => by rcases List.mem_append.1 hm with h1 | h1 <;> exact h.at_ m h1⟩
  unfold buildL
  congr 1
  exact h.is (reachL_rises h.idx _) (fun m => by rw [h2.mem, reached_app, or_self])
theorem sm_nextX : nextL smL smX = smX := by
  unfold nextL
  rw [sm_latestX, reach_twice smX_right]
  exact smX_build
theorem sm_all : allR smL smRoots0 = smX := by
  unfold allR
  rw [if_pos (by rw [sm_err0])]
  unfold allL
  rw [sm_build0]
  show allF smL (0 + 1 + 1 + 1 + 1) smRoots0 = smX
  rw [allF, sm_next0, if_neg (by decide +kernel), allF, sm_nextX, if_pos rfl]

set_option maxHeartbeats 2000000 in
set_option maxRecDepth 100000 in
theorem upped_calls (ks : List Nat) (A : Nat → Addr) (hks : IdxKs ks) (w : World) (hE : EnvP ks A w) :
    Calls Tryz.prog 30 #[] w fun e w' => e = .returned (.bool true) ∧ Below w.heap.size w w' := by
  have hsm := small_calls w
  have hB := smW_below w
  have hb := below_alloc (smW w) (.cells #[.string sA, .string v100] 38)
  have hB2 := below_step hB hb
  have hmods : ModsAt ((smW w).alloc (.cells #[.string sA, .string v100] 38)) (.slice (some ⟨(smW w).heap.size, 0, none⟩) 1 1) smRoots0 := by
    refine ⟨_, 1, 1, fun _ => sA, fun _ => v100, rfl, rfl, Nat.le_refl _, by decide, fun i hi => ?_⟩
    have hc : ∀ (c : Nat) (u : Value), ([.string sA, .string v100] : List Value)[c]? = some u → ((smW w).alloc (.cells #[.string sA, .string v100] 38)).cell? ⟨(smW w).heap.size, c, none⟩ = some u := fun c u h => new_cell _ _ _ rfl h
    match i, hi with
    | 0, _ => exact ⟨_, 0, rfl, hc _ _ rfl, hc _ _ rfl⟩
  have hre := upAll_in ks A hks (some ⟨w.heap.size + 1, 0, none⟩) 3 3 smP smV smR smK smB (smRv w.heap.size) (fun _ => .slice none 0 0) (.slice (some ⟨(smW w).heap.size, 0, none⟩) 1 1) smRoots0 ((smW w).alloc (.cells #[.string sA, .string v100] 38)) (hE.below hB2) ((smW_in w).below hb) sm_short hmods (by decide)
  rw [show enF 3 smP smV smR smK smB = smL from rfl, sm_err0, sm_all] at hre
  generalize smW w = w1 at *
  unfold sA v100 at hre hB2
  replace hsm := Lib.hid hsm
  replace hre := Lib.hid hre
  clear hB hb hmods hE
  go_enter Tryz.func30, Tryz.ntmps30
  go_wp2_with fail
  refine hsm.out.mono ?_
  rintro e w' ⟨rfl, rfl⟩
  go_wp2_with fail
  refine hre.out.mono ?_
  rintro e w3 ⟨⟨x, ev, rfl, hf, hx⟩, hb3⟩
  have hev : ev = .nilIface := by
    rcases hf with ⟨_, _, h⟩ | ⟨h, _⟩ | ⟨h, _⟩
    · exact h
    · exact absurd rfl h
    · exact absurd rfl h
  subst hev
  obtain ⟨b0, o0, c0, e0, _, _, d1⟩ := hx.cell (k := 0) (p := sA) (q := v110) rfl
  subst e0
  have hB3 := below_step hB2 hb3
  unfold v110 at d1
  simp only [Nat.zero_mul, Nat.add_zero, show smX.length = 2 from rfl] at d1 ⊢
  clear hf hx hre hsm hB2 hb3
  go_wp2_with fail
  go_ret
  exact ⟨rfl, hB3⟩
end Go.Proofs.Pw

/- mod.Rise; slices.IsSortedFunc and slices.CompactFunc with its tests. Conditions: lists of at most 1000000. -/
namespace Go.Proofs.Pw
open Go.RowKit
open Go.Lib hiding intOf

theorem Tryz.enters_rise1 : ∀ args w, (callFunc 121 args).run Tryz.prog w = .ok (.enter 121 args) w := Go.Proofs.enters_of Tryz.func121 (by kernel_rfl) rfl
theorem Tryz.enters_rise2 : ∀ args w, (callFunc 123 args).run Tryz.prog w = .ok (.enter 123 args) w := Go.Proofs.enters_of Tryz.func123 (by kernel_rfl) rfl
theorem rise1_calls (p v q u : ByteArray) (w : World) :
    Calls Tryz.prog 121 #[.agg #[.string p, .string v], .agg #[.string q, .string u]] w fun e w' => e = .returned (.int .i64 (compareBytes p.data.toList q.data.toList)) ∧ Below w.heap.size w w' := by
  have hb1 := below_alloc w (.cells #[.string p, .string v] 38)
  have hb2 := below_alloc (w.alloc (.cells #[.string p, .string v] 38)) (.cells #[.string q, .string u] 38)
  have hB := below_step hb1 hb2
  obtain ⟨m0, m1, _⟩ := (box2_alloc w (.string p) (.string v) 38).below hb2
  obtain ⟨f0, f1, _⟩ := box2_alloc (w.alloc (.cells #[.string p, .string v] 38)) (.string q) (.string u) 38
  simp only [World.size_alloc] at f0 f1
  have hS := Tryz.strings_Compare p q
  replace hS := Lib.hid hS
  go_enter Tryz.func121, Tryz.ntmps121
  go_wp2_with fail
  refine (hS.out _).mono ?_
  rintro e w' ⟨rfl, rfl⟩
  go_wp2_with fail
  go_ret
  exact ⟨rfl, hB⟩
theorem rise2_calls (p v q u : ByteArray) (w : World) :
    Calls Tryz.prog 123 #[.agg #[.string p, .string v], .agg #[.string q, .string u]] w fun e w' => e = .returned (.bool (decide (p = q))) ∧ Below w.heap.size w w' := by
  have hb1 := below_alloc w (.cells #[.string p, .string v] 38)
  have hb2 := below_alloc (w.alloc (.cells #[.string p, .string v] 38)) (.cells #[.string q, .string u] 38)
  have hB := below_step hb1 hb2
  obtain ⟨m0, m1, _⟩ := (box2_alloc w (.string p) (.string v) 38).below hb2
  obtain ⟨f0, f1, _⟩ := box2_alloc (w.alloc (.cells #[.string p, .string v] 38)) (.string q) (.string u) 38
  simp only [World.size_alloc] at f0 f1
  have HD : Hid (decide (p = q) = (p.toList == q.toList)) := Lib.hid (by
    rw [toList_data, toList_data, Bool.eq_iff_iff, decide_eq_true_iff, beq_iff_eq, bytes_eq])
  go_enter Tryz.func123, Tryz.ntmps123
  go_wp2_with fail
  go_ret
  rw [HD.out]
  exact ⟨rfl, hB⟩

/-- are the paths in order (equal ones allowed) -/
def SortP (n : Nat) (P : Nat → ByteArray) : Prop := ∀ j, j + 1 < n → 0 ≤ compareBytes (P (j + 1)).data.toList (P j).data.toList
noncomputable def sortB (n : Nat) (P : Nat → ByteArray) : Bool := @decide (SortP n P) (Classical.propDecidable _)
theorem sortB_iff {n : Nat} {P : Nat → ByteArray} : sortB n P = true ↔ SortP n P := by
  unfold sortB
  exact @decide_eq_true_iff _ (Classical.propDecidable _)
set_option maxHeartbeats 2000000 in
set_option maxRecDepth 100000 in
theorem isSortedM_calls (a : Option Addr) (n cap : Nat) (P V : Nat → ByteArray) (w : World) (hn : n ≤ 1000000)
    (hc : ∀ j, j < n → ∃ b o, a = some ⟨b, o, none⟩ ∧ w.cell? ⟨b, o + j * 2, none⟩ = some (.string (P j)) ∧ w.cell? ⟨b, o + j * 2 + 1, none⟩ = some (.string (V j))) :
    Calls Tryz.prog 120 #[.slice a n cap, .func (.func 121) #[] #[]] w fun e w' => e = .returned (.bool (sortB n P)) ∧ Below w.heap.size w w' := by
  have eg := Tryz.enters_rise1
  have hDS := sortB_iff (n := n) (P := P)
  generalize sortB n P = DS at hDS ⊢
  replace hc := Lib.hid hc
  replace hDS := Lib.hid hDS
  go_enter Tryz.func120, Tryz.ntmps120
  have hn1 := wrap_nat n (by omega)
  go_wp2_with fail
  go_loopw [5] (fun i wr => ∃ k : Nat, (k : Int) ≤ n ∧ i = .int .i64 ((k : Int) - 1) ∧ Below w.heap.size w wr ∧ Hid (∀ j, k ≤ j + 1 → j + 1 < n → 0 ≤ compareBytes (P (j + 1)).data.toList (P j).data.toList)) (fun i _ => (intOf i).toNat)
  case atStart => exact ⟨n, by omega, rfl, Below.refl _ _, Lib.hid (fun j h1 h2 => by omega)⟩
  case round =>
    obtain ⟨k, hk, rfl, hB, HA⟩ := hrel
    by_cases hlt : (0 : Int) < (k : Int) - 1
    · obtain ⟨m, rfl⟩ : ∃ m, k = m + 2 := ⟨k - 2, by omega⟩
      have hm1 : ((m + 2 : Nat) : Int) - 1 = (m : Int) + 1 := by omega
      rw [hm1] at hlt ⊢
      obtain ⟨b1, o1, ea, c0, c1⟩ := hc.out (m + 1) (by omega)
      obtain ⟨b2, o2, eb, c2, c3⟩ := hc.out m (by omega)
      rw [ea] at eb
      injection eb with eb
      injection eb with eb1 eb2 _
      subst eb1 eb2 ea
      replace c0 := Below.cell_some hB c0
      replace c1 := Below.cell_some hB c1
      replace c2 := Below.cell_some hB c2
      replace c3 := Below.cell_some hB c3
      have hm2 : (m : Int) + 1 < (n : Int) := by omega
      have hm3 : (m : Int) < (n : Int) := by omega
      have hm4 : ((m : Int) + 1).toNat = m + 1 := by omega
      have hm5 : (0 : Int) ≤ (m : Int) + 1 := by omega
      have hm6 : (m : Int) + 1 - 1 = (m : Int) := by omega
      have hm7 := wrap_nat m (by omega)
      have hm8 : ¬ ((m : Int) + 1 < 0) := by omega
      have hcall := fun W => rise1_calls (P (m + 1)) (V (m + 1)) (P m) (V m) W
      obtain ⟨D, hD⟩ : ∃ D, D = compareBytes (P (m + 1)).data.toList (P m).data.toList := ⟨_, rfl⟩
      rw [← hD] at hcall
      have HD := Lib.hid hD
      replace hcall := Lib.hid hcall
      clear hD hk
      go_wp2_with fail
      by_cases h0 : D < 0
      ·
        have kqc0 := fun d os => cell_patch (d := d) (os := os) c0
        have kqc1 := fun d os => cell_patch (d := d) (os := os) c1
        have kqc2 := fun d os => cell_patch (d := d) (os := os) c2
        have kqc3 := fun d os => cell_patch (d := d) (os := os) c3
        refine wp_region_quiet_patch (by kernel_rfl) (by kernel_rfl) ?_
        repeat (go_big_quiet_step ((go_at_fn 121; exact Calls.patch_of (hcall.out _))))
        refine wpQuiet_nil ?_
        intro _ hw'
        obtain ⟨⟨dq, osq⟩, hw''⟩ := hw'
        subst hw''
        clear kqc0 kqc1 kqc2 kqc3
        have hb := below_patch wr dq osq
        replace hB := below_step hB hb
        clear hb
        generalize patch wr dq osq = w2 at hB ⊢
        clear c0 c1 c2 c3
        go_wp2_with fail
        go_ret
        have hF : DS = false := by
          cases DS with
          | false => rfl
          | true =>
            have := hDS.out.1 rfl m (by omega)
            rw [← HD.out] at this
            omega
        rw [hF]
        exact ⟨rfl, hB⟩
      ·
        have kqc0 := fun d os => cell_patch (d := d) (os := os) c0
        have kqc1 := fun d os => cell_patch (d := d) (os := os) c1
        have kqc2 := fun d os => cell_patch (d := d) (os := os) c2
        have kqc3 := fun d os => cell_patch (d := d) (os := os) c3
        refine wp_region_quiet_patch (by kernel_rfl) (by kernel_rfl) ?_
        repeat (go_big_quiet_step ((go_at_fn 121; exact Calls.patch_of (hcall.out _))))
        refine wpQuiet_nil ?_
        intro _ hw'
        obtain ⟨⟨dq, osq⟩, hw''⟩ := hw'
        subst hw''
        clear kqc0 kqc1 kqc2 kqc3
        have hb := below_patch wr dq osq
        replace hB := below_step hB hb
        clear hb
        generalize patch wr dq osq = w2 at hB ⊢
        clear c0 c1 c2 c3
        go_wp2_with fail
        go_roundw
        case rel =>
          refine ⟨m + 1, by omega, by go_num, hB, Lib.hid (fun j h1 h2 => ?_)⟩
          by_cases e : j = m
          · subst e; rw [← HD.out]; omega
          · exact HA.out j (by omega) h2
        case measure => simp [intOf]
    · have hk1 : ¬ ((k : Int) - 1 > 0) := by omega
      go_wp2_with fail
      go_ret
      rw [hDS.out.2 (fun j hj => HA.out j (by omega) hj)]
      exact ⟨rfl, hB⟩
end Go.Proofs.Pw

/- slices.DeleteFunc of modules out of a row of one's own, with a test that may lay blocks. -/
namespace Go.Proofs.Pw
open Go.RowKit
open Go.Lib hiding intOf

/-- a test of modules by a function value, in whatever world that stands over w from block base on -/
def TestsL (g : Nat) (lb : Array Value) (p : Md → Bool) (L : List (ByteArray × ByteArray)) (base : Nat) (w : World) : Prop :=
  ∀ W, Below base w W → ∀ x y, (x, y) ∈ L → Calls Tryz.prog g (#[.agg #[.string x, .string y]] ++ lb) W fun e w'' => e = .returned (.bool (p (x.data.toList, y.data.toList))) ∧ Below W.heap.size W w''
def pOf (p : Md → Bool) (m : ByteArray × ByteArray) : Bool := p (m.1.data.toList, m.2.data.toList)
theorem mdTs_filter (L : List (ByteArray × ByteArray)) (p : Md → Bool) : mdTs (L.filter (pOf p)) = (mdTs L).filter p := by
  unfold mdTs
  rw [List.filter_map]
  rfl
/-- the row within the loop: what is kept stands ahead, what is not yet looked at stands as it was -/
structure DelInv (q : ByteArray × ByteArray → Bool) (L M : List (ByteArray × ByteArray)) (i j : Nat) : Prop where
  len : M.length = L.length
  lt : i < j
  le : j ≤ L.length
  low : M.take i = (L.take j).filter q
  high : M.drop j = L.drop j
theorem DelInv.get {q : ByteArray × ByteArray → Bool} {L M : List (ByteArray × ByteArray)} {i j : Nat} (h : DelInv q L M i j) : M[j]? = L[j]? := by
  have := congrArg (fun l => l[0]?) h.high
  simpa using this
theorem take_sn {α : Type} {l : List α} {j : Nat} {x : α} (h : l[j]? = some x) : l.take (j + 1) = l.take j ++ [x] := by
  rw [List.take_add_one, h]; rfl
theorem DelInv.skip {q : ByteArray × ByteArray → Bool} {L M : List (ByteArray × ByteArray)} {i j : Nat} {x : ByteArray × ByteArray} (h : DelInv q L M i j) (hx : L[j]? = some x) (hq : q x = false) : DelInv q L M i (j + 1) := by
  have hl := (List.getElem?_eq_some_iff.1 hx).1
  have h1 := h.lt
  refine ⟨h.len, by omega, hl, ?_, ?_⟩
  · rw [take_sn hx, List.filter_append, ← h.low]; simp [hq]
  · rw [← List.drop_drop, ← List.drop_drop, h.high]
theorem DelInv.keep {q : ByteArray × ByteArray → Bool} {L M : List (ByteArray × ByteArray)} {i j : Nat} {x : ByteArray × ByteArray} (h : DelInv q L M i j) (hx : L[j]? = some x) (hq : q x = true) : DelInv q L (M.set i x) (i + 1) (j + 1) := by
  have hl := (List.getElem?_eq_some_iff.1 hx).1
  have h1 := h.lt
  have h2 := h.len
  refine ⟨by rw [List.length_set]; exact h.len, by omega, hl, ?_, ?_⟩
  · rw [take_sn (x := x) (by rw [List.getElem?_set_self (by omega)]), List.take_set_of_le (by omega), h.low, take_sn hx, List.filter_append]
    simp [hq]
  · rw [List.drop_set_of_lt (by omega), ← List.drop_drop, ← List.drop_drop, h.high]
theorem DelInv.start {q : ByteArray × ByteArray → Bool} {L : List (ByteArray × ByteArray)} {k : Nat} {x : ByteArray × ByteArray} (hk : L[k]? = some x) (hq : q x = false) (h0 : ∀ y ∈ L.take k, q y = true) : DelInv q L L k (k + 1) := by
  have hl := (List.getElem?_eq_some_iff.1 hk).1
  refine ⟨rfl, Nat.lt_succ_self _, hl, ?_, rfl⟩
  rw [take_sn hk, List.filter_append, List.filter_eq_self.2 h0]; simp [hq]
theorem filter_len {q : ByteArray × ByteArray → Bool} {L M : List (ByteArray × ByteArray)} {i : Nat} (h : DelInv q L M i L.length) : L.filter q = M.take i ∧ i < L.length := by
  have := h.low
  rw [List.take_length] at this
  exact ⟨this.symm, h.lt⟩

theorem splice_take {α : Type} {L cs : List α} {o : Nat} (h : o + cs.length ≤ L.length) : (splice L o cs).take o = L.take o := by
  unfold splice
  rw [List.take_append_of_le_length (by simp; omega), List.take_take, Nat.min_self]
theorem zeroMd_one (n : Nat) : ∀ u ∈ (Builtin.zeroCells (Value.agg #[.string ⟨#[]⟩, .string ⟨#[]⟩]).cells n).toList, u.oneCell' = true := by
  intro u hu
  have h2 : ((Value.agg #[.string ⟨#[]⟩, .string ⟨#[]⟩]).cells).size = 2 := rfl
  simp only [Builtin.zeroCells, Array.toList_map, List.mem_map] at hu
  obtain ⟨i, _, rfl⟩ := hu
  rw [h2]
  rcases Nat.mod_two_eq_zero_or_one i with h | h <;> rw [h] <;> rfl
theorem findI_list (p : Md → Bool) (L : List (ByteArray × ByteArray)) : (findI p (mdTs L) = -1 ∧ ∀ m ∈ L, pOf p m = false) ∨ ∃ (k : Nat) (x : ByteArray × ByteArray), findI p (mdTs L) = (k : Int) ∧ L[k]? = some x ∧ pOf p x = true ∧ ∀ y ∈ L.take k, pOf p y = false := by
  cases h : (mdTs L).findIdx? p with
  | none =>
    left
    refine ⟨by unfold findI; rw [h], fun m hm => ?_⟩
    rw [List.findIdx?_eq_none_iff] at h
    exact h _ (List.mem_map.2 ⟨m, hm, rfl⟩)
  | some k =>
    right
    have hf : findI p (mdTs L) = (k : Int) := by unfold findI; rw [h]
    rw [List.findIdx?_eq_some_iff_getElem] at h
    obtain ⟨hk, h1, h2⟩ := h
    have hkl : k < L.length := by rwa [mdTs_length] at hk
    have e : ∀ j (hj : j < L.length), (mdTs L)[j]'(by rw [mdTs_length]; exact hj) = (L[j].1.data.toList, L[j].2.data.toList) := fun j hj => by simp [mdTs]
    refine ⟨k, L[k], hf, List.getElem?_eq_getElem hkl, by rw [e k hkl] at h1; exact h1, fun y hy => ?_⟩
    obtain ⟨j, hj⟩ := List.getElem?_of_mem hy
    have hjk : j < k := by
      have := (List.getElem?_eq_some_iff.1 hj).1
      rw [List.length_take] at this
      omega
    rw [List.getElem?_take, if_pos hjk, List.getElem?_eq_getElem (by omega)] at hj
    have h3 := h2 j hjk
    rw [e j (by omega)] at h3
    rw [← Option.some.inj hj]
    simpa [pOf] using h3

set_option maxHeartbeats 4000000 in
set_option maxRecDepth 100000 in
theorem deleteFuncM_calls (g : Nat) (lb : Array Value) (eg : ∀ args w, (callFunc g args).run Tryz.prog w = .ok (.enter g args) w) (p : Md → Bool) (base : Nat) (v : Value) (L : List (ByteArray × ByteArray)) (w : World) (hown : w.ownsRow base 38 2 v L.length (mdVs L)) (hbase : base ≤ w.heap.size) (hl : L.length ≤ 1000000) (hT : TestsL g lb p L base w) :
    Calls Tryz.prog 94 #[v, .func (.func g) #[] lb] w fun e w' => (∃ v', e = .returned v' ∧ w'.ownsRow base 38 2 v' (L.filter fun m => !pOf p m).length (mdVs (L.filter fun m => !pOf p m))) ∧ Below base w w' := by
  have hm := modsAt_own hown
  obtain ⟨a0, n0, cap0, P, V, e0, e1, hnc, hcap, hc⟩ := id hm
  have hn0 : n0 = L.length := by have := congrArg List.length e1; rw [mdF_length, mdTs_length] at this; exact this.symm
  subst hn0
  have hPV : ∀ j, j < L.length → (P j, V j) ∈ L := fun j hj => by
    have h1 := mdF_get L.length P V j hj
    rw [← e1] at h1
    unfold mdTs at h1
    rw [List.getElem?_map, List.getElem?_eq_getElem hj] at h1
    have h2 := Option.some.inj h1
    have h3 := bytes_pair.1 h2
    rw [← h3.1, ← h3.2]
    exact List.getElem_mem hj
  have hIF := indexFuncM_calls g lb eg p a0 L.length cap0 base P V w hl hbase hc (fun W hW j hj => hT W hW _ _ (hPV j hj))
  rw [← e1] at hIF
  subst e0
  clear hc hPV e1 hm hnc
  rcases findI_list p L with ⟨h1, hall⟩ | ⟨k0, x0, h1, hk0, ht, hall⟩
  · rw [h1] at hIF
    have hF : L.filter (fun m => !pOf p m) = L := List.filter_eq_self.2 (fun m hm => by rw [hall m hm]; rfl)
    rw [hF]
    have HO := Lib.hid hown
    clear hT hall hF h1 hown
    go_enter Tryz.func94, Tryz.ntmps94
    go_wp2_with fail
    refine hIF.mono ?_
    rintro e w1 ⟨rfl, hb1⟩
    go_wp2_with fail
    go_ret
    exact ⟨⟨_, rfl, ownsRow_kept HO.out hb1⟩, hb1.mono hbase⟩
  · rw [h1] at hIF
    have hkl : k0 < L.length := (List.getElem?_eq_some_iff.1 hk0).1
    have hI0 : DelInv (fun m => !pOf p m) L L k0 (k0 + 1) := DelInv.start hk0 (by rw [ht]; rfl) (fun y hy => by rw [hall y hy]; rfl)
    have hne1 : ((k0 : Int) == -1) = false := beq_eq_false_iff_ne.2 (by omega)
    rcases hown.2 with ⟨_, h2⟩ | ⟨g0, c0, cur, e1, hbg, hg, hn2, hm2, hcs, htk⟩
    · omega
    · injection e1 with e1 _ e3
      subst e1 e3
      have zr := Tryz.zeroValue38
      have HO := Lib.hid hown
      have HT := Lib.hid hT
      have HI := Lib.hid hI0
      have hgw : g0 < w.heap.size := (Array.getElem?_eq_some_iff.1 hg).1
      generalize hnL : L.length = n at *
      replace hnL := Lib.hid hnL
      clear hall h1 ht hk0 hT hown hI0 hg htk hcs
      go_enter Tryz.func94, Tryz.ntmps94
      go_wp2_with fail
      refine hIF.mono ?_
      rintro e w1 ⟨rfl, hb1⟩
      go_wp2_with fail
      go_loopg [5, 6, 7] n (fun gg s5 s6 _ wr => ∃ (i j : Nat) (M : List (ByteArray × ByteArray)), s5 = .int .i64 i ∧ s6 = .int .i64 j ∧ j ≤ n ∧ n - j ≤ gg ∧ Below base w wr ∧ Hid (wr.ownsRow base 38 2 (.slice (some ⟨g0, 0, none⟩) n cap0) M.length (mdVs M)) ∧ Hid (DelInv (fun m => !pOf p m) L M i j))
      case atStart => exact ⟨k0, k0 + 1, L, rfl, by go_num, by omega, by omega, hb1.mono hbase, Lib.hid (by rw [hnL.out]; exact ownsRow_kept HO.out hb1), HI⟩
      case round =>
        obtain ⟨i, j, M, rfl, rfl, hjd, hgg, hB, hOM, hI⟩ := hrel
        have hij := hI.out.lt
        have hML := hI.out.len
        have hBs := hB.size
        by_cases hlt : j < n
        · have hltz : (j : Int) < (n : Int) := by omega
          obtain ⟨⟨x, y⟩, hxy⟩ : ∃ m, L[j]? = some m := ⟨_, List.getElem?_eq_getElem (by have := hnL.out; omega)⟩
          obtain ⟨cx, cy, -⟩ := own_cells hOM.out (hI.out.get.trans hxy)
          have hba := below_alloc wr (.cells #[.string x, .string y] 38)
          obtain ⟨z0, z1, _⟩ := box2_alloc wr (.string x) (.string y) 38
          have hcall := HT.out (wr.alloc (.cells #[.string x, .string y] 38)) (hB.trans (hba.mono (Nat.le_trans hbase hBs))) x y (List.mem_of_getElem? hxy)
          have hOa := ownsRow_kept hOM.out hba
          have hBa := hB.trans (hba.mono (Nat.le_trans hbase hBs))
          have hin : (i : Int) < (n : Int) := by omega
          have HJ := Lib.hid (And.intro hI.out (And.intro hxy (And.intro hij hML)))
          obtain ⟨⟨u, s⟩, hus⟩ : ∃ m, M[i]? = some m := ⟨_, List.getElem?_eq_getElem (by have := hnL.out; omega)⟩
          have HOA := Lib.hid (And.intro hOa hus)
          cases hq : p (x.data.toList, y.data.toList) with
          | false =>
            rw [hq] at hcall
            have HQ : Hid (pOf p (x, y) = false) := Lib.hid hq
            clear hq hOa hus hI hxy hij hML hOM
            go_wp2_with (go_at_fn g; refine hcall.mono ?_; rintro e w2 ⟨rfl, hb2⟩; (have hO2 := Lib.hid (ownsRow_kept HOA.out.1 hb2)); (have hB2 := hBa.trans (hb2.mono (Nat.le_trans hbase (Nat.le_trans hBs hba.size)))); (replace z0 := Below.cell_some hb2 z0); (replace z1 := Below.cell_some hb2 z1); (obtain ⟨d0, d1, -⟩ := own_cells (i := i) hO2.out HOA.out.2); (have f0 := own_frozen (j := i * 2) hO2.out); (have f1 := own_frozen (j := i * 2 + 1) hO2.out); (have s1 : (w2.setCell ⟨g0, i * 2, none⟩ (.string x)).cell? ⟨g0, i * 2 + 1, none⟩ = some (.string s) := by rw [set_off _ (by omega)]; exact d1); (have s2 : (w2.setCell ⟨g0, i * 2, none⟩ (.string x)).frozen? ⟨g0, i * 2 + 1, none⟩ = false := by simpa using f1))
            go_roundg (n - (j + 1))
            case measure => omega
            case rel =>
              refine ⟨i + 1, j + 1, M.set i (x, y), by go_num, by go_num, by omega, Nat.le_refl _, below_put hB2 hbg _ _, Lib.hid (own_put (i := i) hO2.out x y), Lib.hid (HJ.out.1.keep HJ.out.2.1 (by rw [HQ.out]; rfl))⟩
          | true =>
            rw [hq] at hcall
            have HQ : Hid (pOf p (x, y) = true) := Lib.hid hq
            clear hq hOa hus hI hxy hij hML hOM
            go_wp2_with (go_at_fn g; refine hcall.mono ?_; rintro e w2 ⟨rfl, hb2⟩)
            go_roundg (n - (j + 1))
            case measure => omega
            case rel => exact ⟨i, j + 1, M, rfl, by go_num, by omega, Nat.le_refl _, hBa.trans (hb2.mono (Nat.le_trans hbase (Nat.le_trans hBs hba.size))), Lib.hid (ownsRow_kept HOA.out.1 hb2), Lib.hid (HJ.out.1.skip HJ.out.2.1 (by rw [HQ.out]; rfl))⟩
        · obtain rfl : j = n := by omega
          have hltz : ¬ (j : Int) < (j : Int) := by omega
          have hfl := filter_len (q := fun m => !pOf p m) (L := L) (M := M) (i := i) (by rw [hnL.out]; exact hI.out)
          have hMn : M.length = j := by rw [hML]; exact hnL.out
          have hlen : (M.take i).length = i := by rw [List.length_take]; omega
          have HFL : Hid (L.filter (fun m => !pOf p m) = M.take i ∧ (M.take i).length = i) := Lib.hid ⟨hfl.1, hlen⟩
          rcases hOM.out.2 with ⟨h2, _⟩ | ⟨g5, c5, cur5, e5, _, hg5, _, _, hcs5, htk5⟩
          · cases h2
          · injection e5 with e5 e7 e6
            clear e7
            injection e5 with e5
            injection e5 with e5
            subst e5 e6
            have hfit : i * 2 + (j - i) * 2 ≤ cur5.toList.length := by rw [Array.length_toList, hcs5]; omega
            have hg5' : wr.heap[g0]? = some (.cells cur5.toList.toArray 38 (0, 0)) := by rw [Array.toArray_toList]; exact hg5
            have hzl := zeroCells_len (Value.agg #[.string ⟨#[]⟩, .string ⟨#[]⟩]).cells rfl (j - i)
            have hz1c : ∀ u ∈ (Builtin.zeroCells (Value.agg #[.string ⟨#[]⟩, .string ⟨#[]⟩]).cells (j - i)).toList, u.oneCell' = true := zeroMd_one (j - i)
            have hmv : (mdVs M).take (i * 2) = mdVs (M.take i) := (mdVs_take M i).symm
            have htk6 : cur5.toList.take (i * 2) = mdVs (M.take i) := by
              rw [← hmv, ← htk5, List.take_take]
              congr 1
              omega
            have HF := Lib.hid (And.intro hfit (And.intro hzl (And.intro htk6 hcs5)))
            have HG := Lib.hid hg5'
            have HZ := Lib.hid hz1c
            have hi1 : (i : Int) ≤ (j : Int) := by omega
            have hi2 : ¬ (cap0 = i) := by omega
            have hi3 : i ≤ cap0 := by omega
            have hi4 : (i : Int) ≤ (cap0 : Int) := by omega
            have hi5 : (j : Int) ≤ (cap0 : Int) := by omega
            have hzv : ∀ w, (zeroValue 38).run Tryz.prog w = .ok (.agg #[.string ⟨#[]⟩, .string ⟨#[]⟩]) w := Tryz.zeroValue38
            clear hfl hMn hlen hOM hg5 hg5' hfit hzl hz1c hmv htk6 htk5 hcs5 hI hML
            go_wp2_with (refine wpList_clearK rfl _ 23 rfl 38 (.agg #[.string ⟨#[]⟩, .string ⟨#[]⟩]) (j - i) Tryz.underlying23 hzv HF.out.2.1 HZ.out g0 (i * 2) _ (by omega) rfl _ 38 HG.out HF.out.1 base w hB hbg ?_; intro w5 hg5 hb15 hc15)
            go_ret
            have hg5 := hg5.out
            refine ⟨⟨_, rfl, ?_⟩, hb15⟩
            rw [HFL.out.1, HFL.out.2]
            refine ⟨by rw [mdVs_length, HFL.out.2], .inr ⟨g0, cap0, _, rfl, hbg, hg5, by omega, hm2, ?_, ?_⟩⟩
            · have h1 := splice_length (L := cur5.toList) (cs := (Builtin.zeroCells (Value.agg #[.string ⟨#[]⟩, .string ⟨#[]⟩]).cells (j - i)).toList) (o := i * 2) (by rw [HF.out.2.1]; exact HF.out.1)
              rw [List.size_toArray, h1, Array.length_toList]
              exact HF.out.2.2.2
            · have h2 := splice_take (L := cur5.toList) (cs := (Builtin.zeroCells (Value.agg #[.string ⟨#[]⟩, .string ⟨#[]⟩]).cells (j - i)).toList) (o := i * 2) (by rw [HF.out.2.1]; exact HF.out.1)
              rw [List.toList_toArray, h2]
              exact HF.out.2.2.1
end Go.Proofs.Pw

/- slices.CompactFunc with mod.Rise's test, in a row of one's own; mod.Rise. Conditions: lists of at most 1000000. -/
namespace Go.Proofs.Pw
open Go.RowKit
open Go.Lib hiding intOf

/-- no two neighbours of one path -/
def NoTwin (L : List (ByteArray × ByteArray)) : Prop := ∀ (i : Nat) (x y : ByteArray × ByteArray), L[i]? = some x → L[i + 1]? = some y → x.1 ≠ y.1
/-- what CompactFunc hands back: a slice that is as long if and only if there were no twins -/
def CompOut (L : List (ByteArray × ByteArray)) (e : Ending) : Prop := ∃ a m c, e = .returned (.slice a m c) ∧ m ≤ L.length ∧ (m = L.length ↔ NoTwin L)

set_option maxHeartbeats 8000000 in
set_option maxRecDepth 100000 in
theorem compactM_calls (base : Nat) (v : Value) (L : List (ByteArray × ByteArray)) (w : World) (hown : w.ownsRow base 38 2 v L.length (mdVs L)) (hbase : base ≤ w.heap.size) (hl : L.length ≤ 1000000) :
    Calls Tryz.prog 122 #[v, .func (.func 123) #[] #[]] w fun e w' => CompOut L e ∧ Below base w w' := by
  have eg := Tryz.enters_rise2
  by_cases h2 : L.length < 2
  · obtain ⟨a, m, c, rfl⟩ := own_form hown
    obtain rfl := own_len hown
    have hOut : CompOut L (.returned (.slice a L.length c)) := ⟨a, L.length, c, rfl, Nat.le_refl _, iff_of_true rfl (fun i x y _ hy => by have := (List.getElem?_eq_some_iff.1 hy).1; omega)⟩
    have h2' : (L.length : Int) < 2 := by omega
    have HO := Lib.hid hOut
    clear hOut h2
    go_enter Tryz.func122, Tryz.ntmps122
    go_wp2_with fail
    go_ret
    exact ⟨HO.out, Below.refl _ _⟩
  · rcases hown.2 with ⟨_, h3⟩ | ⟨g, cap, cur, rfl, hbg, hg, hnc, hm, hcs, htk⟩
    · omega
    · have h2' : ¬ (L.length : Int) < 2 := by omega
      have HO := Lib.hid hown
      have hgw : g < w.heap.size := (Array.getElem?_eq_some_iff.1 hg).1
      generalize hnL : L.length = n at *
      replace hnL := Lib.hid hnL
      clear hg htk hcs hown
      go_enter Tryz.func122, Tryz.ntmps122
      go_wp2_with fail
      go_loopw [5] (fun i wr => ∃ j : Nat, j + 1 ≤ n ∧ i = .int .i64 ((j : Int) + 1) ∧ Below w.heap.size w wr ∧ Hid (∀ (i : Nat) (x y : ByteArray × ByteArray), i < j → L[i]? = some x → L[i + 1]? = some y → x.1 ≠ y.1)) (fun i _ => n - (intOf i).toNat)
      case atStart => exact ⟨0, by omega, rfl, Below.refl _ _, Lib.hid (fun i x y h => absurd h (Nat.not_lt_zero _))⟩
      case round =>
        obtain ⟨j, hj, rfl, hB, HA⟩ := hrel
        have hj1 : (0 : Int) ≤ (j : Int) + 1 := by omega
        have hj2 : ((j : Int) + 1).toNat = j + 1 := by omega
        have hj3 := wrap_nat j (by omega)
        have hj4 : (j : Int) + 1 - 1 = (j : Int) := by omega
        have hj5 := wrap_nat (j + 1 + 1) (by omega)
        by_cases hlt : j + 1 < n
        · have hlt' : (j : Int) + 1 < (n : Int) := by omega
          have hj6 : (j : Int) < (n : Int) := by omega
          have hj7 : ¬ ((j : Int) + 1 < 0) := by omega
          obtain ⟨⟨x1, y1⟩, hx1⟩ : ∃ m, L[j + 1]? = some m := ⟨_, List.getElem?_eq_getElem (by have := hnL.out; omega)⟩
          obtain ⟨⟨x0, y0⟩, hx0⟩ : ∃ m, L[j]? = some m := ⟨_, List.getElem?_eq_getElem (by have := hnL.out; omega)⟩
          have hOr : wr.ownsRow base 38 2 (.slice (some ⟨g, 0, none⟩) n cap) L.length (mdVs L) := by rw [hnL.out]; exact ownsRow_kept HO.out hB
          obtain ⟨c0, c1, -⟩ := own_cells hOr hx1
          obtain ⟨c2, c3, -⟩ := own_cells hOr hx0
          have hcall := fun W => rise2_calls x1 y1 x0 y0 W
          have HX := Lib.hid (And.intro hx0 (And.intro hx1 hOr))
          replace hcall := Lib.hid hcall
          clear hx0 hx1 hOr
          go_wp2_with fail
          by_cases he : x1 = x0
          · subst he
            rw [decide_eq_true rfl] at hcall
            have kqc0 := fun d os => cell_patch (d := d) (os := os) c0
            have kqc1 := fun d os => cell_patch (d := d) (os := os) c1
            have kqc2 := fun d os => cell_patch (d := d) (os := os) c2
            have kqc3 := fun d os => cell_patch (d := d) (os := os) c3
            refine wp_region_quiet_patch (by kernel_rfl) (by kernel_rfl) ?_
            repeat (go_big_quiet_step ((go_at_fn 123; exact Calls.patch_of (hcall.out _))))
            refine wpQuiet_nil ?_
            intro _ hw'
            obtain ⟨⟨dq, osq⟩, hw''⟩ := hw'
            subst hw''
            clear kqc0 kqc1 kqc2 kqc3
            have hb := below_patch wr dq osq
            replace hB := below_step hB hb
            clear hb
            generalize patch wr dq osq = w2 at hB ⊢
            have hnt : ¬ NoTwin L := fun h => h j (x1, y0) (x1, y1) HX.out.1 HX.out.2.1 rfl
            have HNT := Lib.hid hnt
            clear c0 c1 c2 c3 hcall hnt HX HA
            have HQ : Hid (n = j + 1 + (n - (j + 1)) ∧ 1 ≤ n - (j + 1)) := Lib.hid ⟨by omega, by omega⟩
            have hq1 : 1 ≤ n - (j + 1) := by omega
            have hB2 := hB.mono hbase
            have hO2 : Hid (w2.ownsRow base 38 2 (.slice (some ⟨g, 0, none⟩) n cap) L.length (mdVs L)) := Lib.hid (by rw [hnL.out]; exact ownsRow_kept HO.out hB)
            go_wp2_with fail
            generalize n - (j + 1) = q at *
            have hq9 : q ≤ 1000000 := by have := HQ.out; omega
            go_loopw [5, 7] (fun i5 i7 wr => ∃ (k m : Nat) (M : List (ByteArray × ByteArray)), i5 = .int .i64 k ∧ i7 = .int .i64 ((m : Int) + 1) ∧ m + 1 ≤ q ∧ k ≤ j + 1 + m ∧ Below base w wr ∧ Hid (wr.ownsRow base 38 2 (.slice (some ⟨g, 0, none⟩) n cap) M.length (mdVs M)) ∧ Hid (M.length = n)) (fun _ i7 _ => q - (intOf i7).toNat)
            case atStart => exact ⟨j + 1, 0, L, by go_num, rfl, hq1, Nat.le_refl _, hB2, hO2, Lib.hid hnL.out⟩
            case round =>
              clear hB2 hO2
              obtain ⟨k, m, M, rfl, rfl, hmq, hkm, hBr, hOM, hMl⟩ := hrel
              have hBs := hBr.size
              have hm1 : (0 : Int) ≤ (m : Int) + 1 := by omega
              have hm2 : ((m : Int) + 1).toNat = m + 1 := by omega
              have hm3 := wrap_nat m (by have := HQ.out; omega)
              have hm4 : (m : Int) + 1 - 1 = (m : Int) := by omega
              have hm5 := wrap_nat (m + 1 + 1) (by have := HQ.out; omega)
              have hm7 : ¬ ((m : Int) + 1 < 0) := by omega
              by_cases hlt2 : m + 1 < q
              · have hlt3 : (m : Int) + 1 < (q : Int) := by omega
                have hm6 : (m : Int) < (q : Int) := by omega
                obtain ⟨⟨xa, ya⟩, hxa⟩ : ∃ z, M[j + 1 + (m + 1)]? = some z := ⟨_, List.getElem?_eq_getElem (by have := hMl.out; have := HQ.out; omega)⟩
                obtain ⟨⟨xb, yb⟩, hxb⟩ : ∃ z, M[j + 1 + m]? = some z := ⟨_, List.getElem?_eq_getElem (by have := hMl.out; have := HQ.out; omega)⟩
                obtain ⟨⟨xc, yc⟩, hxc⟩ : ∃ z, M[k]? = some z := ⟨_, List.getElem?_eq_getElem (by have := hMl.out; have := HQ.out; omega)⟩
                obtain ⟨c0, c1, -⟩ := own_cells hOM.out hxa
                obtain ⟨c2, c3, -⟩ := own_cells hOM.out hxb
                rw [show (j + 1 + (m + 1)) * 2 = (j + 1) * 2 + (m + 1) * 2 by omega] at c0 c1
                rw [show (j + 1 + m) * 2 = (j + 1) * 2 + m * 2 by omega] at c2 c3
                have hkn : (k : Int) < (n : Int) := by have := HQ.out; omega
                have hk0 : (0 : Int) ≤ (k : Int) := by omega
                have hcall := fun W => rise2_calls xa ya xb yb W
                obtain ⟨D, hD⟩ : ∃ D, D = decide (xa = xb) := ⟨_, rfl⟩
                rw [← hD] at hcall
                have HXC := Lib.hid hxc
                have hBq := Below.refl wr.heap.size wr
                replace hcall := Lib.hid hcall
                clear hD hxa hxb hxc
                cases D with
                | true =>
                  go_wp2_with fail
                  have kqc0 := fun d os => cell_patch (d := d) (os := os) c0
                  have kqc1 := fun d os => cell_patch (d := d) (os := os) c1
                  have kqc2 := fun d os => cell_patch (d := d) (os := os) c2
                  have kqc3 := fun d os => cell_patch (d := d) (os := os) c3
                  refine wp_region_quiet_patch (by kernel_rfl) (by kernel_rfl) ?_
                  repeat (go_big_quiet_step ((go_at_fn 123; exact Calls.patch_of (hcall.out _))))
                  refine wpQuiet_nil ?_
                  intro _ hw'
                  obtain ⟨⟨dq, osq⟩, hw''⟩ := hw'
                  subst hw''
                  clear kqc0 kqc1 kqc2 kqc3
                  have hb := below_patch wr dq osq
                  replace hBq := below_step hBq hb
                  clear hb
                  generalize patch wr dq osq = w3 at hBq ⊢
                  clear c0 c1 c2 c3
                  go_wp2_with fail
                  go_roundw
                  case rel => exact ⟨k, m + 1, M, rfl, by go_num, by omega, by omega, hBr.trans (hBq.mono (Nat.le_trans hbase hBs)), Lib.hid (ownsRow_kept hOM.out hBq), hMl⟩
                  case measure => simp [intOf]; omega
                | false =>
                  go_wp2_with fail
                  have kqc0 := fun d os => cell_patch (d := d) (os := os) c0
                  have kqc1 := fun d os => cell_patch (d := d) (os := os) c1
                  have kqc2 := fun d os => cell_patch (d := d) (os := os) c2
                  have kqc3 := fun d os => cell_patch (d := d) (os := os) c3
                  refine wp_region_quiet_patch (by kernel_rfl) (by kernel_rfl) ?_
                  repeat (go_big_quiet_step ((go_at_fn 123; exact Calls.patch_of (hcall.out _))))
                  refine wpQuiet_nil ?_
                  intro _ hw'
                  obtain ⟨⟨dq, osq⟩, hw''⟩ := hw'
                  subst hw''
                  clear kqc0 kqc1 kqc2 kqc3
                  have hb := below_patch wr dq osq
                  replace hBq := below_step hBq hb
                  replace c0 := Below.cell_some hb c0
                  replace c1 := Below.cell_some hb c1
                  clear hb
                  generalize patch wr dq osq = w3 at hBq c0 c1 ⊢
                  clear c2 c3
                  have hOq := ownsRow_kept hOM.out hBq
                  obtain ⟨d0, d1, -⟩ := own_cells (i := k) hOq HXC.out
                  have f0 := own_frozen (j := k * 2) hOq
                  have f1 := own_frozen (j := k * 2 + 1) hOq
                  have s1 : (w3.setCell ⟨g, k * 2, none⟩ (.string xa)).cell? ⟨g, k * 2 + 1, none⟩ = some (.string yc) := by rw [set_off _ (by omega)]; exact d1
                  have s2 : (w3.setCell ⟨g, k * 2, none⟩ (.string xa)).frozen? ⟨g, k * 2 + 1, none⟩ = false := by simpa using f1
                  have HP := Lib.hid (own_put (i := k) hOq xa ya)
                  have hB3 := hBr.trans (hBq.mono (Nat.le_trans hbase hBs))
                  have hwk := wrap_nat (k + 1) (by have := HQ.out; omega)
                  clear hOq
                  go_wp2_with fail
                  go_roundw
                  case rel => exact ⟨k + 1, m + 1, M.set k (xa, ya), by go_num, by go_num, by omega, by omega, below_put hB3 hbg _ _, HP, Lib.hid (by rw [List.length_set]; exact hMl.out)⟩
                  case measure => simp [intOf]; omega
              · obtain rfl : q = m + 1 := by omega
                have hkn : k < n := by have := HQ.out; omega
                have hOut : ∀ c, CompOut L (.returned (.slice (some ⟨g, 0, none⟩) k c)) := fun c => ⟨_, k, c, rfl, by rw [hnL.out]; omega, iff_of_false (by rw [hnL.out]; omega) HNT.out⟩
                rcases hOM.out.2 with ⟨h9, _⟩ | ⟨g5, c5, cur5, e5, _, hg5, _, _, hcs5, htk5⟩
                · cases h9
                · injection e5 with e5 e7 e6
                  clear e7
                  injection e5 with e5
                  injection e5 with e5
                  subst e5 e6
                  have hfit : k * 2 + (n - k) * 2 ≤ cur5.toList.length := by rw [Array.length_toList, hcs5]; omega
                  have hg5' : wr.heap[g]? = some (.cells cur5.toList.toArray 38 (0, 0)) := by rw [Array.toArray_toList]; exact hg5
                  have hzl := zeroCells_len (Value.agg #[.string ⟨#[]⟩, .string ⟨#[]⟩]).cells rfl (n - k)
                  have HF := Lib.hid (And.intro hfit (And.intro hzl (zeroMd_one (n - k))))
                  have HG := Lib.hid hg5'
                  have HOut := Lib.hid hOut
                  have hi1 : (k : Int) ≤ (n : Int) := by omega
                  have hi2 : ¬ (cap = k) := by omega
                  have hi3 : k ≤ cap := by omega
                  have hi4 : (k : Int) ≤ (cap : Int) := by omega
                  have hi5 : (n : Int) ≤ (cap : Int) := by omega
                  have hltz : ¬ (m : Int) + 1 < (m : Int) + 1 := by omega
                  have hzv : ∀ w, (zeroValue 38).run Tryz.prog w = .ok (.agg #[.string ⟨#[]⟩, .string ⟨#[]⟩]) w := Tryz.zeroValue38
                  clear hOM hg5 hg5' hfit hzl htk5 hcs5 hMl hOut
                  go_wp2_with (refine wpList_clearK rfl _ 23 rfl 38 (.agg #[.string ⟨#[]⟩, .string ⟨#[]⟩]) (n - k) Tryz.underlying23 hzv HF.out.2.1 HF.out.2.2 g (k * 2) _ (by omega) rfl _ 38 HG.out HF.out.1 base w hBr hbg ?_; intro w5 hg5 hb15 hc15)
                  go_ret
                  exact ⟨HOut.out _, hb15⟩
          · rw [decide_eq_false he] at hcall
            have kqc0 := fun d os => cell_patch (d := d) (os := os) c0
            have kqc1 := fun d os => cell_patch (d := d) (os := os) c1
            have kqc2 := fun d os => cell_patch (d := d) (os := os) c2
            have kqc3 := fun d os => cell_patch (d := d) (os := os) c3
            refine wp_region_quiet_patch (by kernel_rfl) (by kernel_rfl) ?_
            repeat (go_big_quiet_step ((go_at_fn 123; exact Calls.patch_of (hcall.out _))))
            refine wpQuiet_nil ?_
            intro _ hw'
            obtain ⟨⟨dq, osq⟩, hw''⟩ := hw'
            subst hw''
            clear kqc0 kqc1 kqc2 kqc3
            have hb := below_patch wr dq osq
            replace hB := below_step hB hb
            clear hb
            generalize patch wr dq osq = w2 at hB ⊢
            clear c0 c1 c2 c3
            have HE := Lib.hid he
            clear he
            go_wp2_with fail
            go_roundw
            case rel =>
              refine ⟨j + 1, by omega, by go_num, hB, Lib.hid (fun i x y hi h3 h4 => ?_)⟩
              by_cases e : i = j
              · subst e
                rw [HX.out.1] at h3
                rw [HX.out.2.1] at h4
                cases h3
                cases h4
                exact fun e => HE.out e.symm
              · exact HA.out i x y (by omega) h3 h4
            case measure => simp [intOf]; omega
        · have hlt' : ¬ (j : Int) + 1 < (n : Int) := by omega
          have hOut : CompOut L (.returned (.slice (some ⟨g, 0, none⟩) n cap)) := ⟨_, n, cap, rfl, by rw [hnL.out]; exact Nat.le_refl _, iff_of_true hnL.out.symm (fun i x y hx hy => HA.out i x y (by have := (List.getElem?_eq_some_iff.1 hy).1; have := hnL.out; omega) hx hy)⟩
          have HOut := Lib.hid hOut
          clear hOut
          go_wp2_with fail
          go_ret
          exact ⟨HOut.out, hB.mono hbase⟩

/-- the paths rise: in order, and no twins -/
theorem rise_parts {n : Nat} {P V : Nat → ByteArray} {L : List (ByteArray × ByteArray)} (hL : mdF n P V = mdTs L) : riseB (mdF n P V) = true ↔ SortP n P ∧ NoTwin L := by
  have hlen : L.length = n := by have := congrArg List.length hL; rw [mdF_length, mdTs_length] at this; exact this.symm
  have hget : ∀ i, i < n → ∃ y, L[i]? = some (P i, y) := fun i hi => by
    have h1 := mdF_get n P V i hi
    rw [hL] at h1
    unfold mdTs at h1
    rw [List.getElem?_map, List.getElem?_eq_getElem (by omega)] at h1
    have h2 := bytes_pair.1 (Option.some.inj h1)
    refine ⟨L[i].2, ?_⟩
    rw [List.getElem?_eq_getElem (by omega), ← h2.1]
  unfold riseB
  rw [List.all_eq_true, mdF_length]
  constructor
  · intro h
    have h1 : ∀ i, i + 1 < n → compareBytes (P i).data.toList (P (i + 1)).data.toList < 0 := fun i hi => by
      have := of_decide_eq_true (h i (by rw [List.mem_range]; omega))
      rw [mdAt_mdF (by omega), mdAt_mdF hi] at this
      exact this
    refine ⟨fun j hj => ?_, fun i x y hx hy => ?_⟩
    · have := (compareBytes_ord.anti _ _).1 (h1 j hj)
      omega
    · have hi := (List.getElem?_eq_some_iff.1 hy).1
      obtain ⟨u, hu⟩ := hget i (by omega)
      obtain ⟨v, hv⟩ := hget (i + 1) (by omega)
      rw [hu] at hx
      rw [hv] at hy
      cases hx
      cases hy
      intro e
      have := h1 i (by omega)
      rw [show P i = P (i + 1) from e, compareBytes_ord.self] at this
      omega
  · rintro ⟨h1, h2⟩ i hi
    rw [List.mem_range] at hi
    rw [mdAt_mdF (show i < n by omega), mdAt_mdF (show i + 1 < n by omega)]
    refine decide_eq_true ?_
    have h3 := h1 i (by omega)
    obtain ⟨u, hu⟩ := hget i (by omega)
    obtain ⟨v, hv⟩ := hget (i + 1) (by omega)
    have h4 := h2 i _ _ hu hv
    have h5 : compareBytes (P (i + 1)).data.toList (P i).data.toList ≠ 0 := fun e => h4 (bytes_eq.1 (compareBytes_zero e).symm)
    show compareBytes (P i).data.toList (P (i + 1)).data.toList < 0
    exact (compareBytes_ord.anti _ _).2 (by omega)

set_option maxHeartbeats 2000000 in
set_option maxRecDepth 100000 in
theorem modRise_calls (v : Value) (l : List Md) (w : World) (h : ModsAt w v l) (hl : l.length ≤ 1000000) :
    Calls Tryz.prog 81 #[v] w fun e w' => e = .returned (.bool (riseB l)) ∧ Below w.heap.size w w' := by
  have hcl := fun W hb => cloneM_calls v l W (h.below hb) hl
  obtain ⟨a, n, cap, P, V, rfl, rfl, hnc, hcap, hc⟩ := h
  rw [mdF_length] at hl
  have hso := isSortedM_calls a n cap P V w hl hc
  have hSI := sortB_iff (n := n) (P := P)
  have HRP := Lib.hid (fun L hL => rise_parts (n := n) (P := P) (V := V) (L := L) hL)
  generalize sortB n P = DS at hso hSI
  generalize hRB : riseB (mdF n P V) = RB at *
  replace hso := Lib.hid hso
  replace hcl := Lib.hid hcl
  replace hSI := Lib.hid hSI
  clear hc hRB
  cases DS with
  | false =>
    have hF : RB = false := by
      cases RB with
      | false => rfl
      | true =>
        obtain ⟨L, hL⟩ : ∃ L, mdF n P V = mdTs L := ⟨mdL n P V, (mdL_ts n P V).symm⟩
        exact absurd (hSI.out.2 ((HRP.out L hL).1 rfl).1) (by decide)
    rw [hF]
    clear HRP hF
    go_enter Tryz.func81, Tryz.ntmps81
    go_wp2_with fail
    refine hso.out.mono ?_
    rintro e w1 ⟨rfl, hb⟩
    go_wp2_with fail
    go_ret
    exact ⟨rfl, hb⟩
  | true =>
    go_enter Tryz.func81, Tryz.ntmps81
    go_wp2_with fail
    refine hso.out.mono ?_
    rintro e w1 ⟨rfl, hb⟩
    have hcl1 := hcl.out w1 hb
    replace hcl1 := Lib.hid hcl1
    clear hso hcl
    go_wp2_with fail
    refine hcl1.out.mono ?_
    rintro e w2 ⟨v2, L2, rfl, hL2, ho2, hb2⟩
    have hl2 : L2.length = n := by have := congrArg List.length hL2; rw [mdF_length, mdTs_length] at this; exact this.symm
    have hco := compactM_calls w1.heap.size v2 L2 w2 ho2 hb2.size (by omega)
    have hR := HRP.out L2 hL2
    have HB : Hid (∀ m : Nat, (m = L2.length ↔ NoTwin L2) → (((m : Int) == (n : Int)) = RB)) := Lib.hid (fun m hm => by
      rw [Bool.eq_iff_iff, hR, beq_iff_eq]
      constructor
      · intro e
        exact ⟨by first | exact hSI.out.1 rfl | exact hSI.out.1 trivial, hm.1 (by omega)⟩
      · intro e
        have := hm.2 e.2
        omega)
    obtain ⟨a2, n2, c2, rfl⟩ := own_form ho2
    have hB2 := below_step hb hb2
    have hbs := hb2.size
    replace hco := Lib.hid hco
    clear hcl1 hL2 ho2 hl2 hR
    go_wp2_with fail
    refine hco.out.mono ?_
    rintro e w3 ⟨⟨a3, m3, c3, rfl, _, hm3⟩, hb3⟩
    have HM := Lib.hid (HB.out m3 hm3)
    clear hco hm3 HB
    go_wp2_with fail
    go_ret
    refine ⟨?_, hB2.trans (hb3.mono (Nat.le_trans hb.size (Nat.le_refl _)))⟩
    rw [← HM.out]
    rfl
end Go.Proofs.Pw

/- up.News. Conditions: an index and a list that are short. -/
namespace Go.Proofs.Pw
open Go.RowKit
open Go.Lib hiding intOf

theorem latestL_size {l : List En} (h : ShortI l) (p : Str) : (latestL l p).length ≤ 1000000 := by
  unfold latestL
  by_cases e : likedL l p (vsort (versL l p)) = []
  · rw [e]; exact Nat.zero_le _
  · exact (versL_size h).2 _ ((vsort_mem _ _).1 (likedL_sub (lastS_mem e))).1

set_option maxHeartbeats 4000000 in
set_option maxRecDepth 100000 in
theorem upNews_in (ks : List Nat) (A : Nat → Addr) (hks : IdxKs ks) (a : Option Addr) (n cap : Nat) (P V : Nat → ByteArray) (R : Nat → List Md) (K : Nat → List Str) (Bk : Nat → Bool) (Rv Kv : Nat → Value) (sv : Value) (sel : List Md) (w : World) (hE : EnvP ks A w) (h : EntsIn w a n cap P V R K Bk Rv Kv) (hs : ShortI (enF n P V R K Bk)) (hv : ModsAt w sv sel) (hl : sel.length ≤ 10000) (hss : ∀ m ∈ sel, m.2.length ≤ 1000000) :
    Calls Tryz.prog 33 #[.slice a n cap, sv] w fun e w' => (∃ x ev, e = .returned (.tuple #[x, ev]) ∧ FaultAt A w' ev (newsErr (enF n P V R K Bk) sel) ∧ ModsAt w' x (newsR (enF n P V R K Bk) sel)) ∧ Below w.heap.size w w' := by
  obtain ⟨i0, hi, hz0, hz1, hz2⟩ := info_parts Tryz.infoMod
  have hck := idxCheck_in ks A hks a n cap P V R K Bk Rv Kv w hE h hs
  have hla := fun (W : World) (hb : Below w.heap.size w W) => upLatest_in ks A a n cap P V R K Bk Rv Kv sv sel W (hE.below hb) (h.below hb) hs (hv.below hb) (by omega)
  have hri := fun (W : World) (hb : Below w.heap.size w W) => modRise_calls sv sel W (hv.below hb) (by omega)
  obtain ⟨sa, m, sc, Q, U, rfl, e2, _, _, hc⟩ := id hv
  have hm : m ≤ 10000 := by rw [e2, mdF_length] at hl; exact hl
  have hlz := fun p => latestL_size hs p
  have HE := Lib.hid hE
  generalize enF n P V R K Bk = l at *
  have hless := fun (x y : ByteArray) (hx : x.size ≤ 1000000000) (hy : y.size ≤ 1000000000) (W : World) (hb : Below w.heap.size w W) => verLess_calls ks A x y W (hE.below hb) hx hy
  have HSZ : Hid (∀ j, j < m → (U j).size ≤ 1000000) := Lib.hid (fun j hj => by
    have h2 := hss _ (by rw [e2]; exact List.mem_of_getElem? (mdF_get m Q U j hj))
    simp only [Array.length_toList] at h2
    exact h2)
  have HNE : Hid (newsErr l sel = orE (idxErr l) (if riseB sel = true then (0, -1) else (8, -1)) ∧ ((newsErr l sel).1 ≠ 0 → newsR l sel = []) ∧ ((newsErr l sel).1 = 0 → newsR l sel = newsL l sel)) := Lib.hid ⟨rfl, fun h0 => by unfold newsR; rw [if_neg h0], fun h0 => by unfold newsR; rw [if_pos h0]⟩
  have HLM : Hid (latestM l sel = mdF m Q (fun j => ⟨(latestL l (Q j).data.toList).toArray⟩)) := Lib.hid (by
    rw [e2]
    unfold latestM mdF
    rw [List.map_map]
    rfl)
  have HSE := Lib.hid e2
  have HLZ : Hid (∀ j, (⟨(latestL l (Q j).data.toList).toArray⟩ : ByteArray).size ≤ 1000000) := Lib.hid (fun j => by
    have := hlz (Q j).data.toList
    simpa [ByteArray.size] using this)
  generalize newsErr l sel = NE at *
  generalize newsR l sel = NR at *
  generalize riseB sel = RB at *
  replace hck := Lib.hid hck
  replace hla := Lib.hid hla
  replace hri := Lib.hid hri
  replace hless := Lib.hid hless
  replace hc := Lib.hid hc
  clear h hs hE hl hlz hss e2 hv
  go_enter Tryz.func33, Tryz.ntmps33
  go_wp2_with fail
  refine hck.out.mono ?_
  rintro e w1 ⟨⟨v1, rfl, hf1⟩, hB⟩
  rcases fault_form hf1 with ⟨h0, rfl⟩ | ⟨h0, ty, q, rfl⟩
  · have HIZ := Lib.hid h0
    have hr2 := hri.out _ hB
    replace hr2 := Lib.hid hr2
    clear hf1 h0 hck
    cases RB with
    | false =>
      have HF : Hid (NE = (8, -1) ∧ NR = []) := Lib.hid (by
        have e : NE = (8, -1) := by rw [HNE.out.1]; unfold orE; rw [if_neg (by simp [HIZ.out])]; rfl
        exact ⟨e, HNE.out.2.1 (by rw [e]; decide)⟩)
      clear HNE
      go_wp2_with fail
      refine hr2.out.mono ?_
      rintro e w2 ⟨rfl, hb⟩
      replace hB := below_step hB hb
      have g8 := (HE.out.below hB).errs.var 8 hks.2.2.2.2
      simp only [errG] at g8
      clear hb hr2
      go_wp2_with fail
      go_region
      all_goals
        go_wp2_with fail
        go_ret2
        rw [HF.out.1, HF.out.2]
        refine ⟨⟨_, _, rfl, .inr (.inl ⟨by decide, rfl, ?_⟩), ModsAt.nil _⟩, hB.drew⟩
        show _ = errV A 8
        rw [errV_pos A (show (8 : Nat) ≠ 0 by decide)]
        rfl
    | true =>
      have HF : Hid (NE = (0, -1) ∧ NR = newsL l (mdF m Q U)) := Lib.hid (by
        have e : NE = (0, -1) := by rw [HNE.out.1]; unfold orE; rw [if_neg (by simp [HIZ.out])]; rfl
        exact ⟨e, by rw [HNE.out.2.2 (by rw [e]), HSE.out]⟩)
      clear HNE
      go_wp2_with fail
      refine hr2.out.mono ?_
      rintro e w2 ⟨rfl, hb⟩
      replace hB := below_step hB hb
      have hl3 := hla.out _ hB
      replace hl3 := Lib.hid hl3
      clear hb hr2
      go_wp2_with fail
      refine hl3.out.mono ?_
      rintro e w3 ⟨⟨v3, L3, rfl, hL3, ho3⟩, hb⟩
      have hM3 := modsAt_own ho3
      rw [hL3, HLM.out] at hM3
      replace hB := below_step hB hb
      obtain ⟨a3, n3, c3, P3, V3, rfl, e3, _, _, hc3⟩ := hM3
      have hn3 : n3 = m := by have := congrArg List.length e3; rw [mdF_length, mdF_length] at this; exact this.symm
      have HPV : Hid (∀ j, j < m → P3 j = Q j ∧ V3 j = ⟨(latestL l (Q j).data.toList).toArray⟩) := Lib.hid (fun j hj => by
        have h1 := mdF_get n3 P3 V3 j (by omega)
        rw [← e3, mdF_get m _ _ j hj] at h1
        have h2 := Option.some.inj h1
        exact ⟨(bytes_eq.1 (Prod.mk.inj h2).1).symm, (bytes_eq.1 (Prod.mk.inj h2).2).symm⟩)
      subst hn3
      replace hc3 := Lib.hid hc3
      clear e3 hL3 ho3 hb hl3
      go_wp2_with fail
      go_loopw [7, 8, 23] (fun o _ i wr => ∃ (k : Nat) (L : List (ByteArray × ByteArray)), k ≤ n3 ∧ i = .int .i64 k ∧ Hid (wr.ownsRow w3.heap.size 38 2 o L.length (mdVs L)) ∧ L.length ≤ k ∧ Hid (mdTs L = newsL l ((mdF n3 Q U).take k)) ∧ Below w3.heap.size w3 wr) (fun _ _ i _ => n3 - (intOf i).toNat)
      case atStart => exact ⟨0, [], Nat.zero_le _, rfl, Lib.hid (World.ownsRow_nil _ _ _ _), Nat.le_refl _, Lib.hid rfl, Below.refl _ _⟩
      case round =>
        obtain ⟨k, L, hk, rfl, hO, hLk, hT, hBr⟩ := hrel
        obtain ⟨ao, no, co, rfl⟩ := own_form hO.out
        have hown := Lib.hid (fun q (e : (Value.slice ao no co).ownBlock = some q) => (hO.out.lt q e).1)
        by_cases hlt : k < n3
        · have hkn : (k : Int) < (n3 : Int) := by omega
          obtain ⟨b1, o1, ea, c0, c1⟩ := hc3.out k hlt
          obtain ⟨b2, o2, eb, d0, d1⟩ := hc.out k hlt
          replace c0 := Below.cell_some hBr c0
          replace c1 := Below.cell_some hBr c1
          have hBw := below_step hB hBr
          replace d0 := Below.cell_some hBw d0
          replace d1 := Below.cell_some hBw d1
          obtain ⟨p1, p2⟩ := HPV.out k hlt
          rw [p1] at c0
          have hlz := HLZ.out k
          have hnb : newsB l ((Q k).data.toList, (U k).data.toList) = verLess (U k).data.toList (latestL l (Q k).data.toList) := rfl
          have hTk : newsL l ((mdF n3 Q U).take (k + 1)) = newsL l ((mdF n3 Q U).take k) ++ (if newsB l ((Q k).data.toList, (U k).data.toList) = true then [((Q k).data.toList, latestL l (Q k).data.toList)] else []) := by
            rw [mdF_take_succ n3 Q U k hlt, newsL_snoc]
          obtain ⟨LX, hLX⟩ : ∃ LX : ByteArray, LX = ⟨(latestL l (Q k).data.toList).toArray⟩ := ⟨_, rfl⟩
          have hLX2 : latestL l (Q k).data.toList = LX.data.toList := by rw [hLX]
          rw [p2, ← hLX] at c1
          rw [← hLX] at hlz
          rw [hLX2] at hnb hTk
          have hls := fun W hb => hless.out (U k) LX (by have := HSZ.out k hlt; omega) (by omega) W hb
          rw [← hnb] at hls
          have hba := below_alloc wr (.cells #[.string (Q k), .string LX] 38)
          have hz := box2_alloc wr (.string (Q k)) (.string LX) 38
          have hO2 := hO.out.below hba
          have hB2 := below_step hBr hba
          replace d1 := Below.cell_some hba d1
          obtain ⟨w4, hW⟩ : ∃ W, wr.alloc (.cells #[.string (Q k), .string LX] 38) = W := ⟨_, rfl⟩
          rw [hW] at hz hO2 hB2 d1
          obtain ⟨z0, z1, zf⟩ := hz
          subst ea eb
          generalize newsB l ((Q k).data.toList, (U k).data.toList) = NB at *
          cases NB with
          | true =>
            have HN : Hid (mdTs (L ++ [(Q k, LX)]) = newsL l ((mdF n3 Q U).take (k + 1))) := Lib.hid (by rw [hTk, if_pos rfl, mdTs_sn, hT.out])
            have HO2 := hO2
            replace hls := Lib.hid hls
            clear hba hTk hnb hLX hLX2 p1 p2 hT hO d0 hO2
            go_wp2_with fail
            clear hW c0 c1
            have kqd1 := fun d os => cell_patch (d := d) (os := os) d1
            have kqz1 := fun d os => cell_patch (d := d) (os := os) z1
            refine wp_region_quiet_patch (by kernel_rfl) (by kernel_rfl) ?_
            repeat (go_big_quiet_step ((go_at_call 82; exact Calls.patch_of (hls.out _ (below_step hB (below_step hB2 (below_patch _ _ _)))))))
            refine wpQuiet_nil ?_
            intro _ hw'
            obtain ⟨⟨dq, osq⟩, hw''⟩ := hw'
            subst hw''
            clear kqd1 kqz1
            have hb := below_patch w4 dq osq
            replace hB2 := below_step hB2 hb
            replace HO2 := HO2.below hb
            replace z0 := Below.cell_some hb z0
            replace z1 := Below.cell_some hb z1
            clear hb
            generalize patch w4 dq osq = w5 at hB2 HO2 z0 z1 ⊢
            have HO := Lib.hid HO2
            clear HO2
            go_wp2_with (at_builtin; refine wpList_append_own _ rfl _ _ 23 rfl w3.heap.size 38 i0 (.agg #[.string ⟨#[]⟩, .string ⟨#[]⟩]) 2 32 Tryz.underlying23 hi hz0 hz1 hz2 rfl (by decide) _ _ _ rfl (HO.out.alloc _) ⟨w5.heap.size, 0, none⟩ 1 1 [.string (Q k), .string LX] rfl rfl (cell_two_new _ _ _ _) (by intro u hu; simp at hu; rcases hu with rfl | rfl <;> rfl) (by unfold maxLen; omega) (by omega) (by have := hB2.size; simp; omega) ?_; intro o' w6 hown4 hgrow4 _)
            go_roundw
            case rel =>
              refine ⟨k + 1, L ++ [(Q k, LX)], by omega, by go_num, Lib.hid ?_, by simp; omega, HN, ?_⟩
              · rw [List.length_append, List.length_singleton, ← mdVs_snoc]
                exact hown4
              · exact (hB2.alloc hB2.size _).grown hgrow4 (by have := hB2.size; simp; omega) hown.out
            case measure => simp [intOf]; omega
          | false =>
            have HN : Hid (mdTs L = newsL l ((mdF n3 Q U).take (k + 1))) := Lib.hid (by rw [hTk, if_neg (by decide), List.append_nil, hT.out])
            have HO2 := hO2
            replace hls := Lib.hid hls
            clear hba hTk hnb hLX hLX2 p1 p2 hT hO d0 hO2
            go_wp2_with fail
            clear hW c0 c1
            have kqd1 := fun d os => cell_patch (d := d) (os := os) d1
            have kqz1 := fun d os => cell_patch (d := d) (os := os) z1
            refine wp_region_quiet_patch (by kernel_rfl) (by kernel_rfl) ?_
            repeat (go_big_quiet_step ((go_at_call 82; exact Calls.patch_of (hls.out _ (below_step hB (below_step hB2 (below_patch _ _ _)))))))
            refine wpQuiet_nil ?_
            intro _ hw'
            obtain ⟨⟨dq, osq⟩, hw''⟩ := hw'
            subst hw''
            clear kqd1 kqz1
            have hb := below_patch w4 dq osq
            replace hB2 := below_step hB2 hb
            replace HO2 := HO2.below hb
            clear hb
            generalize patch w4 dq osq = w5 at hB2 HO2 ⊢
            have HO := Lib.hid HO2
            clear HO2
            go_wp2_with fail
            go_roundw
            case rel => exact ⟨k + 1, L, by omega, by go_num, HO, by omega, HN, hB2⟩
            case measure => simp [intOf]; omega
        · have HT : Hid (mdTs L = NR) := Lib.hid (by rw [hT.out, show k = n3 by omega, mdF_take_all, HF.out.2])
          have hM := modsAt_own hO.out
          rw [HT.out] at hM
          have HM := Lib.hid hM
          have hnk : ¬ (k : Int) < (n3 : Int) := by omega
          clear hT hlt hM
          go_wp2_with fail
          go_ret2
          rw [HF.out.1]
          exact ⟨⟨_, _, rfl, .inl ⟨rfl, rfl, rfl⟩, HM.out⟩, below_step hB hBr⟩
  · have HF : Hid (NE = idxErr l ∧ NR = []) := Lib.hid (by
      have e : NE = idxErr l := by rw [HNE.out.1]; unfold orE; rw [if_pos h0]
      exact ⟨e, HNE.out.2.1 (by rw [e]; exact h0)⟩)
    have HV := Lib.hid hf1
    clear h0 hf1 HNE
    go_wp2_with fail
    go_ret2
    rw [HF.out.1, HF.out.2]
    exact ⟨⟨_, _, rfl, HV.out, ModsAt.nil _⟩, hB⟩
end Go.Proofs.Pw
