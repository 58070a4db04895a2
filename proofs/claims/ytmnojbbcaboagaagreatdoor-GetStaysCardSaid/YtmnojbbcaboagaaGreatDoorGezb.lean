/- Ge: walks and plain laws, joined: DnLawMath GetMath QSplitMath PickMath JoinMath HoldMath GetPick. Conditions: at each theorem. -/
import Derived.Test.YtmnojbbcaboagaaGreatDoorGeza
import Derived.Test.YtmnojbbcaboagaaGreatDoorGeu
import Derived.Test.YtmnojbbcaboagaaGreatDoorGem
import Derived.Test.YtmnojbbcaboagaaGreatDoorGev
import Derived.Test.YtmnojbbcaboagaaGreatDoorGen
import Derived.Test.YtmnojbbcaboagaaGreatDoorGeb
import Derived.Test.YtmnojbbcaboagaaGreatDoorGel

namespace Go.Proofs.Pw
open Go.Lib hiding intOf
theorem bestT_spec {l : List En} {M : Nat → Bool} {m : Md} : ∀ {t k : Nat}, bestT l M m t = some k → k < t ∧ (enAt l k).md.1 = m.1 ∧ verLess m.2 (enAt l k).md.2 = false ∧ M k = false
  | 0, _, h => by cases h
  | t + 1, k, h => by
    rw [bestT] at h
    split at h
    · rename_i h1
      obtain rfl := Option.some.inj h
      exact ⟨Nat.lt_succ_self _, h1⟩
    · obtain ⟨h2, h3⟩ := bestT_spec h
      exact ⟨by omega, h3⟩
theorem verLess_self {v : Str} : verLess v v = false := verLess_of_le (by rw [verCmp_ord.self]; exact Int.le_refl _)
theorem bestT_self {l : List En} {M : Nat → Bool} (hR : RightI l) {k : Nat} (hM : M k = false) : ∀ {t : Nat}, k < t → t ≤ l.length → bestT l M (enAt l k).md t = some k
  | 0, hk, _ => absurd hk (Nat.not_lt_zero _)
  | t + 1, hk, ht => by
    by_cases e : k = t
    · subst e
      rw [bestT, if_pos ⟨rfl, verLess_self, hM⟩]
    · rw [bestT, if_neg, bestT_self hR hM (by omega) (by omega)]
      rintro ⟨h1, h2, _⟩
      have hp := List.pairwise_iff_getElem.1 hR.rise k t (by rw [List.length_map]; omega) (by rw [List.length_map]; omega) (by omega)
      rw [List.getElem_map, List.getElem_map, ← enAt_elem (by omega), ← enAt_elem (by omega)] at hp
      unfold modCmp at hp
      rw [orI_lt, h1, compareBytes_ord.self] at hp
      have h3 := (modErr_zero (hR.mds _ (enAt_mem (l := l) (i := k) (by omega)))).2
      have h4 := (modErr_zero (hR.mds _ (enAt_mem (l := l) (i := t) (by omega)))).2
      have h5 : verLess (enAt l k).md.2 (enAt l t).md.2 = true := by
        unfold verLess
        refine decide_eq_true ⟨h3, h4, ?_⟩
        rcases hp with hp | hp
        · exact absurd hp (by decide)
        · exact hp.2
      rw [h5] at h2
      cases h2
theorem toP_mem {l : List En} {caps roots T : List Md} (hR : RightI l) (h : ToP l caps roots T) {m : Md} (hm : m ∈ T) : (∃ e ∈ l, e.md = m) ∧ ¬ BadP l caps m ∧ ∃ r ∈ roots, r.1 = m.1 ∧ verLess r.2 m.2 = false := by
  obtain ⟨M, hM, -, h1⟩ := h
  rw [h1, lowsF_best hR] at hm
  obtain ⟨r, hr, k, hb, rfl⟩ := hm
  obtain ⟨hk, h2, h3, h4⟩ := bestT_spec hb
  exact ⟨⟨_, enAt_mem hk, rfl⟩, fun (h5 : BadP l caps (enAt l k).md) => (by rw [← hM k hk, h4] at h5; cases h5), r, hr, h2.symm, h3⟩
theorem toP_self {l : List En} {caps roots T : List Md} (hR : RightI l) (h : ToP l caps roots T) {m : Md} (hm : m ∈ roots) (he : ∃ e ∈ l, e.md = m) (hb : ¬ BadP l caps m) : m ∈ T := by
  obtain ⟨M, hM, -, h1⟩ := h
  obtain ⟨e, he, rfl⟩ := he
  obtain ⟨k, hk, rfl⟩ := mem_enAt he
  rw [h1, lowsF_best hR]
  refine ⟨_, hm, k, bestT_self hR ?_ hk (Nat.le_refl _), rfl⟩
  cases hMk : M k
  · rfl
  · exact absurd ((hM k hk).1 hMk) hb
theorem startErr_right {l : List En} {roots : List Md} (h0 : (idxErr l).1 = 0) (h : ∀ m ∈ roots, ∃ e ∈ l, e.md = m) : startErr l roots = (0, -1) := startErr_at (by
  unfold startErr
  rw [orE_zero]
  exact ⟨h0, rootsErr_zero.2 h⟩)
theorem good_of_reach {l : List En} {caps roots : List Md} (hG : RightG l roots) (h : ∀ m ∈ reachL l roots, aboveB caps m = false) {m : Md} (hm : m ∈ roots) : ¬ BadP l caps m := fun hb => by
  obtain ⟨e, he, rfl⟩ := hG.at_ m hm
  obtain ⟨f, hf, h1, h2⟩ := (badP_reached he).1 hb
  rw [h f.md (hG.mem.2 (reached_sub (fun x hx => by rw [List.mem_singleton] at hx; subst hx; exact .root hm) h1))] at h2
  cases h2
structure RightC (caps : List Md) : Prop where
  ok : ∀ m ∈ caps, cap1 m = 0
  rise : Rises compareBytes (caps.map (·.1))
theorem capsErr_of {caps : List Md} (h : RightC caps) : capsErr caps = (0, -1) := by
  unfold capsErr
  refine firstE_none fun j hj => ?_
  unfold capE
  have hm : mdAt caps j ∈ caps := List.mem_of_getElem? (mdAt_get hj)
  rw [if_neg (by rw [h.ok _ hm]; simp), if_neg]
  rintro ⟨h0, hc⟩
  have hp := List.pairwise_iff_getElem.1 h.rise (j - 1) j (by rw [List.length_map]; omega) (by rw [List.length_map]; omega) (by omega)
  have e1 := mdAt_get (l := caps) (i := j - 1) (by omega)
  have e2 := mdAt_get (l := caps) (i := j) hj
  rw [List.getElem?_eq_getElem (by omega)] at e1 e2
  rw [List.getElem_map, List.getElem_map, Option.some.inj e1, Option.some.inj e2] at hp
  have := (compareBytes_ord.anti _ _).1 hp
  omega
theorem RightC.sub {caps less : List Md} (h : RightC caps) (hs : less.Sublist caps) : RightC less :=
  ⟨fun m hm => h.ok m (hs.mem hm), List.Pairwise.sublist (hs.map _) h.rise⟩
theorem aboveB_iff {caps : List Md} (h : RightC caps) {m : Md} : aboveB caps m = true ↔ ∃ c ∈ caps, c.1 = m.1 ∧ (c.2 = noneS ∨ verLess c.2 m.2 = true) := by
  unfold aboveB
  rw [Bool.and_eq_true, decide_eq_true_iff, Bool.or_eq_true, decide_eq_true_iff]
  constructor
  · rintro ⟨h0, h1⟩
    have e : findI (hasP m.1) caps = ((findI (hasP m.1) caps).toNat : Int) := by omega
    obtain ⟨c, hc, hp⟩ := findI_spec e
    have hl := (List.getElem?_eq_some_iff.1 hc).1
    have hd := mdAt_get hl
    rw [hc] at hd
    rw [← Option.some.inj hd] at h1
    exact ⟨c, List.mem_of_getElem? hc, of_decide_eq_true hp, h1⟩
  · rintro ⟨c, hc, hp, h1⟩
    have h0 : ¬ findI (hasP m.1) caps < 0 := fun h2 => by
      have := findI_eq_none.1 h2 c hc
      unfold hasP at this
      rw [decide_eq_true hp] at this
      cases this
    have e : findI (hasP m.1) caps = ((findI (hasP m.1) caps).toNat : Int) := by omega
    obtain ⟨d, hd, hp2⟩ := findI_spec e
    have hl := (List.getElem?_eq_some_iff.1 hd).1
    have hd2 := mdAt_get hl
    rw [hd] at hd2
    have hcd : c = d := rises_inj compareBytes_ord (k := (·.1)) h.rise hc (List.mem_of_getElem? hd) (hp.trans (of_decide_eq_true hp2).symm)
    rw [← Option.some.inj hd2, ← hcd]
    exact ⟨by omega, h1⟩
end Go.Proofs.Pw

namespace Go.Proofs.Pw
open Go.Lib hiding intOf
def nowOf (b : List Md) (p : Str) : Str := if 0 ≤ findI (hasP p) b then (mdAt b (findI (hasP p) b).toNat).2 else []
def pinPath (l : List En) (b : List Md) (q : Str) (wild : Bool) (p : Str) (S : List PinM) : Nat × List PinM :=
  if (pickErr l p q (nowOf b p)).1 ≠ 0 then ((pickErr l p q (nowOf b p)).1, [])
  else match pinAdd S ⟨p, pickS l p q (nowOf b p), wild⟩ with
    | none => (9, [])
    | some S' => (0, S')
def pinPaths (l : List En) (b : List Md) (q : Str) (wild : Bool) : List Str → List PinM → Nat × List PinM
  | [], S => (0, S)
  | p :: r, S => if (pinPath l b q wild p S).1 ≠ 0 then ((pinPath l b q wild p S).1, []) else pinPaths l b q wild r (pinPath l b q wild p S).2
def pinArg (l : List En) (b : List Md) (p q : Str) (S : List PinM) : Nat × List PinM :=
  if pathsE l p ≠ 0 then (pathsE l p, []) else pinPaths l b q (contains p dots) (pathsO l b p) S
def pinArgs (l : List En) (b : List Md) : List Str → Nat → List PinM → (Nat × Int) × List PinM
  | [], _, S => ((0, -1), S)
  | s :: r, i, S => if (pinArg l b (argP s) (argQ s) S).1 ≠ 0 then (((pinArg l b (argP s) (argQ s) S).1, (i : Int)), []) else pinArgs l b r (i + 1) (pinArg l b (argP s) (argQ s) S).2
def pinVer (S : List PinM) (p : Str) : Str := match pinAt S p with
  | some x => x.ver
  | none => []
def capsL (S : List PinM) : List Md := (insAll compareBytes (S.map (·.path))).map fun p => (p, pinVer S p)
def liveL (caps : List Md) : List Md := caps.filter fun m => decide (m.2 ≠ noneS)
open Classical in
noncomputable def toT (l : List En) (caps roots : List Md) : List Md := if h : ∃ T, ToP l caps roots T then Classical.choose h else []
noncomputable def nextErr (l : List En) (b caps : List Md) : Nat × Int := orE (toErr l b caps) (startErr l (toT l caps b ++ liveL caps))
noncomputable def nextB (l : List En) (b caps : List Md) : List Md := buildL l (toT l caps b ++ liveL caps)
def pinOff (S : List PinM) (sel : List Md) (p : Str) : Bool :=
  !decide (decide (pinVer S p = noneS) = decide (findI (hasP p) sel < 0)) || (decide (0 ≤ findI (hasP p) sel) && !decide ((mdAt sel (findI (hasP p) sel).toNat).2 = pinVer S p))
def keptB (l : List En) (b : List Md) (S : List PinM) (p : Str) (sel : List Md) : Bool := decide (pathsE l p = 0) && !((pathsO l b p).any (pinOff S sel))
def brokenI (l : List En) (b : List Md) (S : List PinM) (args : List Str) (sel : List Md) : Int := findI (fun s => !keptB l b S (argP s) sel) args
noncomputable def doneErr (l : List En) (x sel : List Md) : Nat × Int :=
  if isOutM x sel then (9, -1) else orE (trimErr l sel) (if 20 < (trimR l sel).length then (7, -1) else (0, -1))
def argsErr (args : List Str) : Nat × Int := firstE (fun i => argE (args.getD i [])) args.length
def chkErr (l : List En) (f : Fl) (args : List Str) : Nat × Int :=
  orE (idxErr l) (orE ((fileErr f).1, -1) (orE (if 10 < args.length then (7, -1) else (0, -1)) (argsErr args)))
structure GetR where
  err : Nat × Int
  file : Fl
  sel : List Md
def GetR.bad (e : Nat × Int) : GetR := ⟨e, noFl, []⟩
noncomputable def getR4 (l : List En) (f : Fl) (args : List Str) (b : List Md) (S : List PinM) (sel : List Md) : GetR :=
  if 0 ≤ brokenI l b S args sel then .bad (9, brokenI l b S args sel)
  else if (doneErr l f.excl sel).1 ≠ 0 then .bad (doneErr l f.excl sel)
  else ⟨(0, -1), ⟨f.path, trimR l sel, f.excl⟩, sel⟩
noncomputable def getR3 (l : List En) (f : Fl) (args : List Str) (b : List Md) (S : List PinM) : GetR :=
  if (nextErr l b (capsL S)).1 ≠ 0 then .bad (nextErr l b (capsL S)) else getR4 l f args b S (nextB l b (capsL S))
noncomputable def getR2 (l : List En) (f : Fl) (args : List Str) (b : List Md) : GetR :=
  if isOutM f.excl b then .bad (9, -1)
  else if (pinArgs l b args 0 []).1.1 ≠ 0 then .bad (pinArgs l b args 0 []).1
  else getR3 l f args b (pinArgs l b args 0 []).2
noncomputable def getR (l : List En) (f : Fl) (args : List Str) : GetR :=
  if (chkErr l f args).1 ≠ 0 then .bad (chkErr l f args)
  else if (startErr l f.reqs).1 ≠ 0 then .bad ((startErr l f.reqs).1, -1)
  else getR2 l f args (buildL l f.reqs)
theorem pinAdd_len : ∀ {l k : List PinM} {p : PinM}, pinAdd l p = some k → k.length ≤ l.length + 1
  | [], k, p, h => by
    rw [pinAdd] at h
    rw [← Option.some.inj h]
    exact Nat.le_refl _
  | x :: r, k, p, h => by
    rw [pinAdd] at h
    by_cases hx : x.path = p.path
    · rw [if_pos hx] at h
      split at h
      · rw [← Option.some.inj h]
        simp
      · cases h
    · rw [if_neg hx] at h
      obtain ⟨k', hk, rfl⟩ := Option.map_eq_some_iff.1 h
      have := pinAdd_len hk
      simp only [List.length_cons]
      omega
theorem pinAdd_all {Q : PinM → Prop} : ∀ {l k : List PinM} {p : PinM}, pinAdd l p = some k → (∀ x ∈ l, Q x) → Q p → ∀ x ∈ k, Q x
  | [], k, p, h, _, hp => by
    rw [pinAdd] at h
    rw [← Option.some.inj h]
    intro x hx
    rw [List.mem_singleton.1 hx]
    exact hp
  | y :: r, k, p, h, hl, hp => by
    rw [pinAdd] at h
    by_cases hx : y.path = p.path
    · rw [if_pos hx] at h
      split at h
      · rw [← Option.some.inj h]
        intro x hx
        rcases List.mem_cons.1 hx with rfl | hx
        · unfold pinOne
          split
          · exact hp
          · exact hl y (by simp)
        · exact hl x (by simp [hx])
      · cases h
    · rw [if_neg hx] at h
      obtain ⟨k', hk, rfl⟩ := Option.map_eq_some_iff.1 h
      intro x hx
      rcases List.mem_cons.1 hx with rfl | hx
      · exact hl x (by simp)
      · exact pinAdd_all hk (fun z hz => hl z (by simp [hz])) hp x hx
structure PinsOk (Q : PinM → Prop) (S : List PinM) : Prop where
  nodup : (S.map (·.path)).Nodup
  all : ∀ x ∈ S, Q x
theorem PinsOk.nil (Q : PinM → Prop) : PinsOk Q [] := ⟨by simp, by simp⟩
theorem pinPath_ok {Q : PinM → Prop} {l : List En} {b : List Md} {q p : Str} {wild : Bool} {S : List PinM} (h : PinsOk Q S) (hQ : (pickErr l p q (nowOf b p)).1 = 0 → Q ⟨p, pickS l p q (nowOf b p), wild⟩) : PinsOk Q (pinPath l b q wild p S).2 ∧ (pinPath l b q wild p S).2.length ≤ S.length + 1 := by
  unfold pinPath
  by_cases h0 : (pickErr l p q (nowOf b p)).1 = 0
  · rw [if_neg (by simp [h0])]
    cases hk : pinAdd S ⟨p, pickS l p q (nowOf b p), wild⟩ with
    | none => exact ⟨.nil _, Nat.zero_le _⟩
    | some S' => exact ⟨⟨pinAdd_nodup hk h.nodup, pinAdd_all hk h.all (hQ h0)⟩, pinAdd_len hk⟩
  · rw [if_pos h0]
    exact ⟨.nil _, Nat.zero_le _⟩
theorem pinPaths_ok {Q : PinM → Prop} {l : List En} {b : List Md} {q : Str} {wild : Bool} : ∀ {ps : List Str} {S : List PinM}, PinsOk Q S → (∀ p ∈ ps, (pickErr l p q (nowOf b p)).1 = 0 → Q ⟨p, pickS l p q (nowOf b p), wild⟩) → PinsOk Q (pinPaths l b q wild ps S).2 ∧ (pinPaths l b q wild ps S).2.length ≤ S.length + ps.length
  | [], S, h, _ => ⟨h, Nat.le_refl _⟩
  | p :: r, S, h, hQ => by
    obtain ⟨h1, h2⟩ := pinPath_ok (l := l) (b := b) (q := q) (p := p) (wild := wild) h (hQ p (by simp))
    rw [pinPaths]
    by_cases h0 : (pinPath l b q wild p S).1 = 0
    · rw [if_neg (by simp [h0])]
      obtain ⟨h3, h4⟩ := pinPaths_ok (ps := r) h1 (fun x hx => hQ x (by simp [hx]))
      exact ⟨h3, by simp only [List.length_cons]; omega⟩
    · rw [if_pos h0]
      exact ⟨.nil _, Nat.zero_le _⟩
theorem pathsO_len (l : List En) (b : List Md) (p : Str) : (pathsO l b p).length ≤ b.length + 1 := by
  unfold pathsO
  split
  · unfold wildL
    rw [List.length_map]
    have := List.length_filter_le (fun m : Md => pMatch p m.1) b
    omega
  · split
    · exact Nat.zero_le _
    · simp
theorem pinArg_ok {Q : PinM → Prop} {l : List En} {b : List Md} {p q : Str} {S : List PinM} (h : PinsOk Q S) (hQ : ∀ x ∈ pathsO l b p, (pickErr l x q (nowOf b x)).1 = 0 → Q ⟨x, pickS l x q (nowOf b x), contains p dots⟩) : PinsOk Q (pinArg l b p q S).2 ∧ (pinArg l b p q S).2.length ≤ S.length + b.length + 1 := by
  unfold pinArg
  by_cases h0 : pathsE l p = 0
  · rw [if_neg (by simp [h0])]
    obtain ⟨h1, h2⟩ := pinPaths_ok h hQ
    have := pathsO_len l b p
    exact ⟨h1, by omega⟩
  · rw [if_pos h0]
    exact ⟨.nil _, Nat.zero_le _⟩
theorem pinArgs_ok {Q : PinM → Prop} {l : List En} {b : List Md} : ∀ {args : List Str} {i : Nat} {S : List PinM}, PinsOk Q S → (∀ s ∈ args, ∀ x ∈ pathsO l b (argP s), (pickErr l x (argQ s) (nowOf b x)).1 = 0 → Q ⟨x, pickS l x (argQ s) (nowOf b x), contains (argP s) dots⟩) → PinsOk Q (pinArgs l b args i S).2 ∧ (pinArgs l b args i S).2.length ≤ S.length + args.length * (b.length + 1)
  | [], i, S, h, _ => ⟨h, by simp [pinArgs]⟩
  | s :: r, i, S, h, hQ => by
    obtain ⟨h1, h2⟩ := pinArg_ok (l := l) (b := b) (p := argP s) (q := argQ s) h (hQ s (by simp))
    rw [pinArgs]
    by_cases h0 : (pinArg l b (argP s) (argQ s) S).1 = 0
    · rw [if_neg (by simp [h0])]
      obtain ⟨h3, h4⟩ := pinArgs_ok (args := r) (i := i + 1) h1 (fun x hx => hQ x (by simp [hx]))
      exact ⟨h3, by simp only [List.length_cons, Nat.add_mul, Nat.one_mul]; omega⟩
    · rw [if_pos h0]
      exact ⟨.nil _, Nat.zero_le _⟩
theorem pinAt_get : ∀ {S : List PinM} {x : PinM}, (S.map (·.path)).Nodup → x ∈ S → pinAt S x.path = some x
  | y :: r, x, hn, hx => by
    rw [List.map_cons] at hn
    obtain ⟨h1, h2⟩ := List.nodup_cons.1 hn
    unfold pinAt
    rw [List.find?_cons]
    rcases List.mem_cons.1 hx with rfl | hx
    · simp
    · rw [decide_eq_false (p := y.path = x.path) (fun e => h1 (by rw [e]; exact List.mem_map.2 ⟨x, hx, rfl⟩))]
      exact pinAt_get h2 hx
theorem pinVer_get {S : List PinM} {x : PinM} (hn : (S.map (·.path)).Nodup) (hx : x ∈ S) : pinVer S x.path = x.ver := by
  unfold pinVer
  rw [pinAt_get hn hx]
def pathCmp (a b : Md) : Int := compareBytes a.1 b.1
theorem capsL_mem {S : List PinM} {m : Md} (hn : (S.map (·.path)).Nodup) : m ∈ capsL S ↔ ∃ x ∈ S, m = (x.path, x.ver) := by
  unfold capsL
  rw [List.mem_map]
  constructor
  · rintro ⟨p, hp, rfl⟩
    rw [insAll_mem] at hp
    obtain ⟨x, hx, rfl⟩ := List.mem_map.1 hp
    exact ⟨x, hx, by rw [pinVer_get hn hx]⟩
  · rintro ⟨x, hx, rfl⟩
    exact ⟨x.path, by rw [insAll_mem]; exact List.mem_map.2 ⟨x, hx, rfl⟩, by rw [pinVer_get hn hx]⟩
theorem capsL_rises (S : List PinM) : Rises pathCmp (capsL S) := by
  have h : Rises compareBytes (insAll compareBytes (S.map (·.path))) := insAll_rises compareBytes_ord (fun _ => True) (fun a b _ _ e => compareBytes_zero e) _ (fun _ _ => trivial)
  unfold capsL Rises
  rw [List.pairwise_map]
  exact h
theorem pathCmp_ord : Ord3 pathCmp := compareBytes_ord.comap fun m : Md => m.1
theorem capsL_of {S : List PinM} {C : List Md} (hn : (S.map (·.path)).Nodup) (hp : C.Perm (S.map fun x => (x.path, x.ver))) (hs : C.Pairwise fun a b => pathCmp a b ≤ 0) : C = capsL S := by
  refine rises_ext pathCmp_ord ?_ (capsL_rises S) fun m => ?_
  · have hnd : (C.map (·.1)).Nodup := (hp.map (·.1)).nodup_iff.2 (by rw [List.map_map]; exact hn)
    rw [List.nodup_iff_pairwise_ne, List.pairwise_map] at hnd
    unfold Rises
    refine (hs.and hnd).imp fun {a b} h => ?_
    rcases Int.lt_or_eq_of_le h.1 with h1 | h1
    · exact h1
    · exact absurd (compareBytes_zero h1) h.2
  · rw [capsL_mem hn, hp.mem_iff, List.mem_map]
    exact ⟨fun ⟨x, h1, h2⟩ => ⟨x, h1, h2.symm⟩, fun ⟨x, h1, h2⟩ => ⟨x, h1, h2.symm⟩⟩
theorem capsL_len (S : List PinM) : (capsL S).length ≤ S.length := by
  unfold capsL
  rw [List.length_map]
  have h : Rises compareBytes (insAll compareBytes (S.map (·.path))) := insAll_rises compareBytes_ord (fun _ => True) (fun a b _ _ e => compareBytes_zero e) _ (fun _ _ => trivial)
  have := List.Nodup.length_le_of_subset (l₁ := insAll compareBytes (S.map (·.path))) (l₂ := S.map (·.path)) (by
    unfold Rises at h
    exact h.imp fun {x y} h e => by subst e; rw [compareBytes_ord.self] at h; omega) (fun x hx => (insAll_mem _ _ _).1 hx)
  rwa [List.length_map] at this
theorem toP_one {l : List En} {caps roots T T' : List Md} (hR : RightI l) (h : ToP l caps roots T) (h' : ToP l caps roots T') : T' = T := by
  obtain ⟨M, hM, _⟩ := id h
  have e := fun X hX => toP_out (T := X) (S := fun k => @decide (∃ r ∈ roots, bestT l M r l.length = some k) (Classical.propDecidable _)) hR M hM (fun k _ => @decide_eq_true_iff _ (Classical.propDecidable _)) hX
  rw [e T h, e T' h']
theorem toT_of {l : List En} {caps roots T : List Md} (hR : RightI l) (h : ToP l caps roots T) : toT l caps roots = T := by
  have he : ∃ T, ToP l caps roots T := ⟨T, h⟩
  unfold toT
  rw [dif_pos he]
  exact toP_one hR h (Classical.choose_spec he)
end Go.Proofs.Pw

namespace Go.Proofs.Pw
open Go.Lib hiding intOf
theorem ver_v {v : Str} (h : verErr v = 0) : ∃ r, v = 118 :: r := by
  have h1 := ((verErr_zero v).1 h).1
  cases v with
  | nil => simp [hasPrefix] at h1
  | cons c r =>
    simp [hasPrefix] at h1
    exact ⟨r, by rw [h1]⟩
theorem pick_ver {l : List En} {p v now : Str} (h0 : (idxErr l).1 = 0) (hv : verErr v = 0) : qWord v = false ∧ ((pickErr l p v now).1 = 0 ↔ v ∈ vsort (versL l p)) ∧ ((pickErr l p v now).1 = 0 → pickS l p v now = v) := by
  have hw : qWord v = false := by
    obtain ⟨r, rfl⟩ := ver_v hv
    simp [qWord, wLatest, wUpgrade, wPatch, wNone]
  have hb : qBound v = none := by
    obtain ⟨r, rfl⟩ := ver_v hv
    simp [qBound, signs, boundF, hasPrefix]
  have hq : qErr v = 0 := by
    unfold qErr
    rw [hw, hb]
    simp [hv]
  have hpf : pickF l p v now = if v ∈ vsort (versL l p) then some v else none := by
    unfold pickF
    rw [hw, hb]
    simp [hv]
  have hpe : pickErr l p v now = orE (idxErr l) (if (pickF l p v now).isNone then (5, -1) else (0, -1)) := by
    unfold pickErr
    rw [if_neg (by rw [hq]; simp)]
  refine ⟨hw, ?_, fun h => ?_⟩
  · rw [hpe, orE_zero, hpf]
    by_cases hm : v ∈ vsort (versL l p)
    · rw [if_pos hm]; exact ⟨fun _ => hm, fun _ => ⟨h0, rfl⟩⟩
    · rw [if_neg hm]
      exact ⟨fun h => (by cases h.2), fun h => absurd h hm⟩
  · unfold pickS
    rw [if_pos h]
    rw [hpe, orE_zero, hpf] at h
    rw [hpf]
    by_cases hm : v ∈ vsort (versL l p)
    · rw [if_pos hm]; rfl
    · rw [if_neg hm] at h; cases h.2
end Go.Proofs.Pw

namespace Go.Proofs.Pw
open Go.Lib hiding intOf
end Go.Proofs.Pw

namespace Go.Proofs.Pw
open Go.Lib hiding intOf
end Go.Proofs.Pw

namespace Go.Proofs.Pw
open Go.Lib hiding intOf
theorem likedF_mem {l : List En} {p : Str} {vs : List Str} {b : Bool} {s : Str} (h : likedF l p vs b = some s) : s ∈ vs := by
  unfold likedF at h
  split at h
  · cases h
  · rename_i h0
    obtain rfl := Option.some.inj h
    cases b with
    | false => exact likedL_sub (lastS_mem h0)
    | true =>
      refine likedL_sub (l := l) (p := p) ?_
      cases hL : likedL l p vs with
      | nil => exact absurd hL h0
      | cons x r => simp
theorem pickE_zero {l : List En} {p q now : Str} (h0 : (idxErr l).1 = 0) (hq : qErr q = 0) : (pickErr l p q now).1 = 0 ↔ ∃ s, pickF l p q now = some s := by
  unfold pickErr
  rw [if_neg (by rw [hq]; simp), orE_zero]
  cases pickF l p q now <;> simp [h0]
theorem pickS_some {l : List En} {p q now s : Str} (h : (pickErr l p q now).1 = 0) (hs : pickF l p q now = some s) : pickS l p q now = s := by
  unfold pickS
  rw [if_pos h, hs]
  rfl
theorem patch_in {l : List En} {p now s : Str} (h : patchF l p now (vsort (versL l p)) = some s) : s ∈ vsort (versL l p) ∧ (now ∈ vsort (versL l p) → verLess s now = false) := by
  unfold patchF at h
  by_cases hn : verErr now = 0
  · rw [if_neg (by simp [hn])] at h
    have h2 := List.mem_filter.1 (likedF_mem h)
    refine ⟨h2.1, fun _ => ?_⟩
    have h3 := h2.2
    unfold patchOut at h3
    cases hl : verLess s now with
    | false => rfl
    | true => rw [hl] at h3; simp at h3
  · rw [if_pos hn] at h
    exact ⟨likedF_mem h, fun hm => absurd ((vsort_mem _ _).1 hm).2 hn⟩
end Go.Proofs.Pw

namespace Go.Proofs.Pw
open Go.Lib hiding intOf
theorem verMax_or {a b : Str} (h : verErr a = 0) : verMax a b = a ∨ verMax a b = b := by
  unfold verMax
  rw [if_neg (by simp [h]), if_neg (by simp [h])]
  split
  · exact .inl rfl
  · split
    · exact .inr rfl
    · exact .inl rfl
theorem pickF_mem {l : List En} {p q now v : Str} (h : pickF l p q now = some v) : v ∈ vsort (versL l p) ∨ v = noneS ∨ v = now := by
  unfold pickF at h
  split at h
  · unfold namedF at h
    split at h
    · rename_i e
      exact .inr (.inl ((Option.some.inj h).symm.trans e))
    · split at h
      · exact .inl (patch_in h).1
      · obtain ⟨s, hs, e⟩ := Option.map_eq_some_iff.1 h
        have hm := likedF_mem hs
        split at e
        · rcases verMax_or (b := now) ((vsort_mem _ _).1 hm).2 with h1 | h1
          · exact .inl (by rw [← e, h1]; exact hm)
          · exact .inr (.inr (by rw [← e, h1]))
        · exact .inl (by rw [← e]; exact hm)
  · split at h
    · exact .inl (List.mem_filter.1 (likedF_mem h)).1
    · split at h
      · split at h
        · rename_i hm
          exact .inl (by rw [← Option.some.inj h]; exact hm)
        · cases h
      · exact .inl (List.mem_filter.1 (likedF_mem h)).1
theorem pickE_parts {l : List En} {p q now : Str} (h : (pickErr l p q now).1 = 0) : qErr q = 0 ∧ (idxErr l).1 = 0 ∧ ∃ v, pickF l p q now = some v ∧ pickS l p q now = v := by
  have h' := h
  unfold pickErr at h
  by_cases hq : qErr q = 0
  · rw [if_neg (by simp [hq]), orE_zero] at h
    obtain ⟨v, hv⟩ := (pickE_zero h.1 hq).1 h'
    exact ⟨hq, h.1, v, hv, pickS_some h' hv⟩
  · rw [if_pos hq] at h
    exact absurd h hq
theorem pickS_mem {l : List En} {p q now : Str} (h : (pickErr l p q now).1 = 0) : pickS l p q now ∈ vsort (versL l p) ∨ pickS l p q now = noneS ∨ pickS l p q now = now := by
  obtain ⟨_, _, v, hv, e⟩ := pickE_parts h
  rw [e]
  exact pickF_mem hv
theorem findI_some {p : Md → Bool} {b : List Md} (h : 0 ≤ findI p b) : mdAt b (findI p b).toNat ∈ b ∧ p (mdAt b (findI p b).toNat) = true := by
  obtain ⟨k, hk⟩ : ∃ k : Nat, findI p b = k := ⟨(findI p b).toNat, by omega⟩
  obtain ⟨x, hx, hp⟩ := findI_spec hk
  have hl := (List.getElem?_eq_some_iff.1 hx).1
  rw [mdAt_get hl] at hx
  rw [hk, Int.toNat_natCast, Option.some.inj hx]
  exact ⟨Option.some.inj hx ▸ mdAt_mem hl, hp⟩
theorem nowOf_mem {b : List Md} {p : Str} (h : nowOf b p ≠ []) : (p, nowOf b p) ∈ b := by
  unfold nowOf at h ⊢
  split at h
  · rename_i h0
    rw [if_pos h0]
    obtain ⟨h1, h2⟩ := findI_some h0
    have e : (mdAt b (findI (hasP p) b).toNat).1 = p := of_decide_eq_true h2
    have h3 : ((p, (mdAt b (findI (hasP p) b).toNat).2) : Md) = mdAt b (findI (hasP p) b).toNat := Prod.ext e.symm rfl
    rw [h3]
    exact h1
  · exact absurd rfl h
theorem pathsO_mem {l : List En} {b : List Md} {p x : Str} (h : x ∈ pathsO l b p) : (contains p dots = false ∧ x = p) ∨ (contains p dots = true ∧ ∃ m ∈ b, m.1 = x ∧ pMatch p x = true) := by
  unfold pathsO at h
  split at h
  · rename_i hc
    unfold wildL at h
    obtain ⟨m, hm, e⟩ := List.mem_map.1 h
    obtain ⟨h1, h2⟩ := List.mem_filter.1 hm
    exact .inr ⟨hc, m, h1, e, by rw [← e]; exact h2⟩
  · rename_i hc
    split at h
    · cases h
    · exact .inl ⟨by simpa using hc, List.mem_singleton.1 h⟩
def ShortP (x : PinM) : Prop := x.path.length ≤ 1000000 ∧ x.ver.length ≤ 1000000
theorem nowOf_len {b : List Md} {p : Str} (hb : ∀ m ∈ b, m.1.length ≤ 1000000 ∧ m.2.length ≤ 1000000) : (nowOf b p).length ≤ 1000000 := by
  by_cases h : nowOf b p = []
  · rw [h]; exact Nat.zero_le _
  · exact (hb _ (nowOf_mem h)).2
theorem pick_short {l : List En} {b : List Md} {s x : Str} (hs : ShortI l) (hb : ∀ m ∈ b, m.1.length ≤ 1000000 ∧ m.2.length ≤ 1000000) (hl : (argP s).length ≤ 1000000) (hx : x ∈ pathsO l b (argP s)) (h0 : (pickErr l x (argQ s) (nowOf b x)).1 = 0) : ShortP ⟨x, pickS l x (argQ s) (nowOf b x), contains (argP s) dots⟩ := by
  refine ⟨?_, ?_⟩
  · rcases pathsO_mem hx with ⟨_, rfl⟩ | ⟨_, m, hm, rfl, _⟩
    · exact hl
    · exact (hb m hm).1
  · show (pickS l x (argQ s) (nowOf b x)).length ≤ 1000000
    rcases pickS_mem h0 with h | h | h
    · exact (versL_size hs).2 _ ((vsort_mem _ _).1 h).1
    · rw [h]; decide
    · rw [h]; exact nowOf_len hb
theorem capsL_short {S : List PinM} (h : PinsOk ShortP S) (hl : S.length ≤ 1000000) : Short (capsL S) :=
  ⟨Nat.le_trans (capsL_len S) hl, fun m hm => by
    obtain ⟨x, hx, rfl⟩ := (capsL_mem h.nodup).1 hm
    exact h.all x hx⟩
end Go.Proofs.Pw
