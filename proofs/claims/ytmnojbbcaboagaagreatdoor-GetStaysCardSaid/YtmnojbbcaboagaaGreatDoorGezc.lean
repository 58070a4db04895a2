/- Ge: walks and plain laws, joined: StaysMath StaysMath2. Conditions: at each theorem. -/
import Derived.Test.YtmnojbbcaboagaaGreatDoorGezb
import Derived.Test.YtmnojbbcaboagaaGreatDoorGeu

namespace Go.Proofs.Pw
open Go.Lib hiding intOf
theorem index_in (u q v : Str) : contains (u ++ (q ++ v)) q = true := decide_eq_true (index_le u q v).1
theorem dots_in {s : Str} (h : contains s dots = true) : ∃ u v, s = u ++ (dots ++ v) := by
  have h0 : 0 ≤ index s dots := of_decide_eq_true h
  obtain ⟨k, hk⟩ : ∃ k : Nat, index s dots = k := ⟨(index s dots).toNat, by omega⟩
  exact ⟨_, _, index_spec s dots k hk⟩
theorem join_dots : ∀ (ws : List Str) (u v : Str), join ws [47] = u ++ (dots ++ v) → ∃ w ∈ ws, ∃ u' v', w = u' ++ (dots ++ v')
  | [], u, v, h => by
    rw [join_nil] at h
    have := congrArg List.length h
    simp [dots] at this
  | [a], u, v, h => by
    rw [join_one] at h
    exact ⟨a, by simp, u, v, h⟩
  | a :: b :: r, u, v, h => by
    rw [join_two] at h
    rw [List.append_assoc] at h
    rcases List.append_eq_append_iff.1 h with ⟨t, h1, h2⟩ | ⟨t, h1, h2⟩
    · cases t with
      | nil => simp [dots] at h2
      | cons c t =>
        simp only [List.cons_append, List.nil_append, List.cons.injEq] at h2
        obtain ⟨_, h3⟩ := h2
        obtain ⟨w, hw, u', v', e⟩ := join_dots (b :: r) t v h3
        exact ⟨w, by simp [hw], u', v', e⟩
    · unfold dots at h2
      match t, h1, h2 with
      | [], _, h2 => simp at h2
      | [c1], _, h2 => simp at h2
      | [c1, c2], _, h2 => simp at h2
      | c1 :: c2 :: c3 :: t, h1, h2 =>
        simp only [List.cons_append, List.nil_append, List.cons.injEq] at h2
        obtain ⟨rfl, rfl, rfl, _⟩ := h2
        exact ⟨a, by simp, u, t, by rw [h1]; rfl⟩
theorem path_dots {p : Str} (h : pathErr p = 0) : contains p dots = false := by
  cases hc : contains p dots with
  | false => rfl
  | true =>
    exfalso
    obtain ⟨u, v, e⟩ := dots_in hc
    rw [← join_split 47 p] at e
    obtain ⟨w, hw, u', v', rfl⟩ := join_dots _ u v e
    have hok : elemOk (u' ++ (dots ++ v')) = false := by
      unfold elemOk
      rw [index_in]
      simp
    rw [pathErr_elem hw hok] at h
    cases h
theorem md_parts {m : Md} (h : mdErr m = 0) : pathErr m.1 = 0 ∧ verErr m.2 = 0 := modErr_zero h
theorem text_split {m : Md} (h : mdErr m = 0) : split (mdText m) [64] = [m.1, m.2] := by
  obtain ⟨h1, h2⟩ := md_parts h
  unfold mdErr at h
  unfold mdText modText
  rw [if_pos h]
  exact split_at (path_no h1 64 (by decide) (by decide)) (ver_no h2 64 (by decide) (by decide))
theorem argP_text {m : Md} (h : mdErr m = 0) : argP (mdText m) = m.1 := by unfold argP; rw [text_split h]; rfl
theorem argQ_text {m : Md} (h : mdErr m = 0) : argQ (mdText m) = m.2 := by
  unfold argQ
  rw [text_split h]
  rfl
theorem patEr_path {p : Str} (h : pathErr p = 0) : patEr p = 0 := by
  have hc := path_dots h
  have hi : index p dots = -1 := by
    have h1 := of_decide_eq_false hc
    have h2 := index_ge p dots
    omega
  have hx : xs (toks p) = p := by
    rw [toks_none p hi]
    unfold xs
    rw [List.map_map]
    exact List.map_id' p
  unfold patEr
  rw [hx, h]
  rfl
theorem qErr_ver {v : Str} (h : verErr v = 0) : qErr v = 0 := by
  obtain ⟨r, rfl⟩ := ver_v h
  have hw : qWord (118 :: r) = false := by simp [qWord, wLatest, wUpgrade, wPatch, wNone]
  have hb : qBound (118 :: r) = none := by simp [qBound, signs, boundF, hasPrefix]
  unfold qErr
  rw [hw, hb]
  simp [h]
theorem argE_text {m : Md} (h : mdErr m = 0) : argE (mdText m) = 0 := by
  obtain ⟨h1, h2⟩ := md_parts h
  unfold argE
  rw [text_split h, argP_text h, argQ_text h, patEr_path h1, qErr_ver h2]
  rfl
theorem pinAt_path {S : List PinM} {p : Str} {x : PinM} (h : pinAt S p = some x) : x.path = p := by
  have := List.find?_some h
  exact of_decide_eq_true this
theorem pinAdd_keep {S S' : List PinM} {x : PinM} {p v : Str} (h : pinAt S p = some ⟨p, v, false⟩) (ha : pinAdd S x = some S') : pinAt S' p = some ⟨p, v, false⟩ := by
  rw [pinAdd_at ha]
  by_cases hp : p = x.path
  · rw [if_pos hp, h]
    unfold pinOne
    simp
  · rw [if_neg hp, h]
theorem pinAdd_counts {S S' : List PinM} {p v : Str} (ha : pinAdd S ⟨p, v, false⟩ = some S') : pinAt S' p = some ⟨p, v, false⟩ := by
  rw [pinAdd_at ha, if_pos rfl]
  cases hx : pinAt S p with
  | none => rfl
  | some x =>
    have ht : pinTakes x ⟨p, v, false⟩ := Classical.byContradiction fun hn => by
      have := pinAdd_none.2 ⟨x, hx, hn⟩
      rw [ha] at this
      cases this
    have hp := pinAt_path hx
    obtain ⟨xp, xv, xw⟩ := x
    simp only at hp
    subst hp
    unfold pinTakes pinBad at ht
    unfold pinOne
    cases xw with
    | true => simp
    | false =>
      simp at ht
      simp [ht]
theorem pinPath_step {l : List En} {b : List Md} {q p : Str} {wild : Bool} {S : List PinM} (h : (pinPath l b q wild p S).1 = 0) : (pickErr l p q (nowOf b p)).1 = 0 ∧ pinAdd S ⟨p, pickS l p q (nowOf b p), wild⟩ = some (pinPath l b q wild p S).2 := by
  unfold pinPath at h ⊢
  by_cases h0 : (pickErr l p q (nowOf b p)).1 = 0
  · rw [if_neg (by simp [h0])] at h ⊢
    cases hk : pinAdd S ⟨p, pickS l p q (nowOf b p), wild⟩ with
    | none => rw [hk] at h; cases h
    | some S' => exact ⟨h0, rfl⟩
  · rw [if_pos h0] at h
    exact absurd h h0
theorem pinPaths_step {l : List En} {b : List Md} {q : Str} {wild : Bool} {p : Str} {r : List Str} {S : List PinM} (h : (pinPaths l b q wild (p :: r) S).1 = 0) : (pinPath l b q wild p S).1 = 0 ∧ pinPaths l b q wild (p :: r) S = pinPaths l b q wild r (pinPath l b q wild p S).2 := by
  rw [pinPaths] at h ⊢
  by_cases h0 : (pinPath l b q wild p S).1 = 0
  · rw [if_neg (by simp [h0])]
    exact ⟨h0, rfl⟩
  · rw [if_pos h0] at h
    exact absurd h h0
theorem pinPaths_keep {l : List En} {b : List Md} {q : Str} {wild : Bool} {p v : Str} : ∀ {ps : List Str} {S : List PinM}, (pinPaths l b q wild ps S).1 = 0 → pinAt S p = some ⟨p, v, false⟩ → pinAt (pinPaths l b q wild ps S).2 p = some ⟨p, v, false⟩
  | [], S, _, h => h
  | x :: r, S, h0, h => by
    obtain ⟨h1, e⟩ := pinPaths_step h0
    rw [e] at h0 ⊢
    exact pinPaths_keep h0 (pinAdd_keep h (pinPath_step h1).2)
theorem pinArg_step {l : List En} {b : List Md} {p q : Str} {S : List PinM} (h : (pinArg l b p q S).1 = 0) : pathsE l p = 0 ∧ pinArg l b p q S = pinPaths l b q (contains p dots) (pathsO l b p) S := by
  unfold pinArg at h ⊢
  by_cases h0 : pathsE l p = 0
  · rw [if_neg (by simp [h0])]
    exact ⟨h0, rfl⟩
  · rw [if_pos h0] at h
    exact absurd h h0
theorem pinArgs_step {l : List En} {b : List Md} {s : Str} {r : List Str} {i : Nat} {S : List PinM} (h : (pinArgs l b (s :: r) i S).1.1 = 0) : (pinArg l b (argP s) (argQ s) S).1 = 0 ∧ pinArgs l b (s :: r) i S = pinArgs l b r (i + 1) (pinArg l b (argP s) (argQ s) S).2 := by
  rw [pinArgs] at h ⊢
  by_cases h0 : (pinArg l b (argP s) (argQ s) S).1 = 0
  · rw [if_neg (by simp [h0])]
    exact ⟨h0, rfl⟩
  · rw [if_pos h0] at h
    exact absurd h h0
theorem pinArgs_keep {l : List En} {b : List Md} {p v : Str} : ∀ {args : List Str} {i : Nat} {S : List PinM}, (pinArgs l b args i S).1.1 = 0 → pinAt S p = some ⟨p, v, false⟩ → pinAt (pinArgs l b args i S).2 p = some ⟨p, v, false⟩
  | [], _, S, _, h => h
  | s :: r, i, S, h0, h => by
    obtain ⟨h1, e⟩ := pinArgs_step h0
    rw [e] at h0 ⊢
    obtain ⟨_, e2⟩ := pinArg_step h1
    rw [e2] at h1
    have h3 := pinPaths_keep h1 h
    rw [← e2] at h3
    exact pinArgs_keep h0 h3
theorem pick_exact {l : List En} {p q now : Str} (hq : verErr q = 0 ∨ q = noneS) (h : (pickErr l p q now).1 = 0) : pickS l p q now = q := by
  obtain ⟨_, h0, v, hv, e⟩ := pickE_parts h
  rcases hq with hq | rfl
  · exact (pick_ver h0 hq).2.2 h
  · rw [e]
    unfold pickF at hv
    rw [if_pos (show qWord noneS = true by decide)] at hv
    unfold namedF at hv
    rw [if_pos (show noneS = wNone from rfl)] at hv
    exact (Option.some.inj hv).symm
theorem pathsO_one {l : List En} {b : List Md} {p : Str} (hw : contains p dots = false) (h : pathsE l p = 0) : pathsO l b p = [p] := by
  unfold pathsE at h
  unfold pathsO
  rw [hw] at h ⊢
  rw [if_neg (by simp)] at h ⊢
  by_cases h1 : vsort (versL l p) = []
  · rw [if_pos h1] at h; cases h
  · rw [if_neg h1]
theorem pinArg_exact {l : List En} {b : List Md} {p q : Str} {S : List PinM} (hw : contains p dots = false) (hq : verErr q = 0 ∨ q = noneS) (h : (pinArg l b p q S).1 = 0) : pinAt (pinArg l b p q S).2 p = some ⟨p, q, false⟩ := by
  obtain ⟨h0, e⟩ := pinArg_step h
  rw [e, hw, pathsO_one hw h0] at h ⊢
  obtain ⟨h1, e2⟩ := pinPaths_step h
  rw [e2]
  obtain ⟨h2, h3⟩ := pinPath_step h1
  have h4 := pinAdd_counts h3
  rw [pick_exact hq h2] at h4
  exact h4
theorem pinArgs_exact {l : List En} {b : List Md} : ∀ {args : List Str} {i : Nat} {S : List PinM}, (pinArgs l b args i S).1.1 = 0 → ∀ s ∈ args, contains (argP s) dots = false → (verErr (argQ s) = 0 ∨ argQ s = noneS) → pinAt (pinArgs l b args i S).2 (argP s) = some ⟨argP s, argQ s, false⟩
  | x :: r, i, S, h0, s, hs, hw, hq => by
    obtain ⟨h1, e⟩ := pinArgs_step h0
    rw [e] at h0 ⊢
    rcases List.mem_cons.1 hs with rfl | hs
    · exact pinArgs_keep h0 (pinArg_exact hw hq h1)
    · exact pinArgs_exact h0 s hs hw hq
structure GetOk (l : List En) (f : Fl) (args : List Str) (S : List PinM) (sel : List Md) : Prop where
  chk : (chkErr l f args).1 = 0
  start : (startErr l f.reqs).1 = 0
  was : isOutM f.excl (buildL l f.reqs) = false
  pins : (pinArgs l (buildL l f.reqs) args 0 []).1.1 = 0
  caps : S = (pinArgs l (buildL l f.reqs) args 0 []).2
  next : (nextErr l (buildL l f.reqs) (capsL S)).1 = 0
  selE : sel = nextB l (buildL l f.reqs) (capsL S)
  kept : brokenI l (buildL l f.reqs) S args sel < 0
  done : (doneErr l f.excl sel).1 = 0
  is : getR l f args = ⟨(0, -1), ⟨f.path, trimR l sel, f.excl⟩, sel⟩
theorem getR_bad {l : List En} {f : Fl} {args : List Str} (h : (getR l f args).err.1 ≠ 0) : (getR l f args).file = noFl ∧ (getR l f args).sel = [] := by
  unfold getR at h ⊢
  split
  · exact ⟨rfl, rfl⟩
  · rename_i h1
    rw [if_neg h1] at h
    split
    · exact ⟨rfl, rfl⟩
    · rename_i h2
      rw [if_neg h2] at h
      unfold getR2 at h ⊢
      split
      · exact ⟨rfl, rfl⟩
      · rename_i h3
        rw [if_neg h3] at h
        split
        · exact ⟨rfl, rfl⟩
        · rename_i h4
          rw [if_neg h4] at h
          unfold getR3 at h ⊢
          split
          · exact ⟨rfl, rfl⟩
          · rename_i h5
            rw [if_neg h5] at h
            unfold getR4 at h ⊢
            split
            · exact ⟨rfl, rfl⟩
            · rename_i h6
              rw [if_neg h6] at h
              split
              · exact ⟨rfl, rfl⟩
              · rename_i h7
                rw [if_neg h7] at h
                exact absurd rfl h
theorem getR_good {l : List En} {f : Fl} {args : List Str} (h : (getR l f args).err.1 = 0) : ∃ S sel, GetOk l f args S sel := by
  have e : getR l f args = getR l f args := rfl
  revert h
  generalize hR : getR l f args = R
  intro h
  have hR' := hR
  unfold getR at hR
  split at hR
  · rename_i h1; rw [← hR] at h; exact absurd h h1
  · rename_i h1
    split at hR
    · rename_i h2; rw [← hR] at h; exact absurd h h2
    · rename_i h2
      unfold getR2 at hR
      split at hR
      · rw [← hR] at h; cases h
      · rename_i h3
        split at hR
        · rename_i h4; rw [← hR] at h; exact absurd h h4
        · rename_i h4
          unfold getR3 at hR
          split at hR
          · rename_i h5; rw [← hR] at h; exact absurd h h5
          · rename_i h5
            unfold getR4 at hR
            split at hR
            · rw [← hR] at h; cases h
            · rename_i h6
              split at hR
              · rename_i h7; rw [← hR] at h; exact absurd h h7
              · rename_i h7
                exact ⟨_, _, Classical.not_not.1 h1, Classical.not_not.1 h2, by simpa using h3, Classical.not_not.1 h4, rfl, Classical.not_not.1 h5, rfl, by omega, Classical.not_not.1 h7, by rw [hR', ← hR]⟩
theorem GetOk.mk_ {l : List En} {f : Fl} {args : List Str} {S : List PinM} {sel : List Md} (h1 : (chkErr l f args).1 = 0) (h2 : (startErr l f.reqs).1 = 0) (h3 : isOutM f.excl (buildL l f.reqs) = false) (h4 : pinArgs l (buildL l f.reqs) args 0 [] = ((0, -1), S)) (h5 : (nextErr l (buildL l f.reqs) (capsL S)).1 = 0) (h6 : nextB l (buildL l f.reqs) (capsL S) = sel) (h7 : brokenI l (buildL l f.reqs) S args sel < 0) (h8 : (doneErr l f.excl sel).1 = 0) : getR l f args = ⟨(0, -1), ⟨f.path, trimR l sel, f.excl⟩, sel⟩ := by
  unfold getR
  rw [if_neg (by simp [h1]), if_neg (by simp [h2])]
  unfold getR2
  rw [if_neg (by simp [h3]), h4, if_neg (by simp)]
  unfold getR3
  simp only
  rw [if_neg (by simp [h5]), h6]
  unfold getR4
  rw [if_neg (by omega), if_neg (by simp [h8])]
end Go.Proofs.Pw

namespace Go.Proofs.Pw
open Go.Lib hiding intOf
theorem toP_ex {l : List En} (hR : RightI l) (caps roots : List Md) : ∃ T, ToP l caps roots T := by
  let M : Nat → Bool := fun j => @decide (BadP l caps (enAt l j).md) (Classical.propDecidable _)
  let S : Nat → Bool := fun k => @decide (∃ r ∈ roots, bestT l M r l.length = some k) (Classical.propDecidable _)
  refine ⟨outM l S l.length, M, fun j _ => @decide_eq_true_iff _ (Classical.propDecidable _), outM_rises hR S (Nat.le_refl _), fun m => ?_⟩
  rw [lowsF_best hR, mem_outM]
  constructor
  · rintro ⟨k, _, h2, rfl⟩
    obtain ⟨r, hr, hb⟩ := (@decide_eq_true_iff _ (Classical.propDecidable _)).1 h2
    exact ⟨r, hr, k, hb, rfl⟩
  · rintro ⟨r, hr, k, hb, rfl⟩
    exact ⟨k, (bestT_at hb).1, (@decide_eq_true_iff _ (Classical.propDecidable _)).2 ⟨r, hr, hb⟩, rfl⟩
theorem toT_is {l : List En} (hR : RightI l) (caps roots : List Md) : ToP l caps roots (toT l caps roots) := by
  obtain ⟨T, hT⟩ := toP_ex hR caps roots
  rw [toT_of hR hT]
  exact hT
theorem toT_same {l : List En} {caps roots : List Md} (hG : RightG l roots) (hr : Rises modCmp roots) (hg : ∀ m ∈ roots, ¬ BadP l caps m) : toT l caps roots = roots := by
  have hR := hG.idx
  have h2 := toT_is hR caps roots
  have hr2 : Rises modCmp (toT l caps roots) := h2.choose_spec.2.1
  refine rises_ext modCmp_ord hr2 hr fun m => ⟨fun hm => ?_, fun hm => toP_self hR h2 hm (hG.at_ m hm) (hg m hm)⟩
  obtain ⟨M, hM, -, h1⟩ := id h2
  rw [h1, lowsF_best hR] at hm
  obtain ⟨r, hrr, k, hb, rfl⟩ := hm
  obtain ⟨e, he, hre⟩ := hG.at_ r hrr
  obtain ⟨j, hj, rfl⟩ := mem_enAt he
  subst hre
  have hMj : M j = false := by
    cases hMk : M j
    · rfl
    · exact absurd ((hM j hj).1 hMk) (hg _ hrr)
  rw [bestT_self hR hMj hj (Nat.le_refl _)] at hb
  obtain rfl := Option.some.inj hb
  exact hrr
theorem bad_none {l : List En} {m : Md} : ¬ BadP l [] m := fun h => by
  induction h with
  | above _ h => simp [aboveB, findI] at h
  | req _ _ _ ih => exact ih
theorem build_rises {l : List En} {roots : List Md} (h : RightG l roots) : Rises modCmp (buildL l roots) := h.great.rises
theorem build_riseP {l : List En} {roots : List Md} (h : RightG l roots) : RiseP (buildL l roots) := h.great.rise
theorem get_nothing {l : List En} {f : Fl} (hG : RightG l f.reqs) (h : (getR l f []).err.1 = 0) : (getR l f []).sel = buildL l f.reqs ∧ (getR l f []).file.path = f.path := by
  obtain ⟨S, sel, hk⟩ := getR_good h
  rw [hk.is]
  refine ⟨?_, rfl⟩
  show sel = _
  rw [hk.selE, hk.caps]
  show nextB l (buildL l f.reqs) [] = _
  unfold nextB
  rw [toT_same hG.build (build_rises hG) (fun m _ => bad_none)]
  show buildL l (buildL l f.reqs ++ []) = _
  rw [List.append_nil, build_again hG]
structure SelOk2 (l : List En) (f : Fl) (sel : List Md) : Prop where
  idx : RightI l
  idx0 : (idxErr l).1 = 0
  file : Right f
  right : RightG l sel
  again : buildL l sel = sel
  start : (startErr l sel).1 = 0
  tr : trimErr l sel = (0, -1)
  trL : trimR l sel = trimL l sel
  out : isOutM f.excl sel = false
  few : (trimR l sel).length ≤ 20
theorem GetOk.selOk {l : List En} {f : Fl} {args : List Str} {S : List PinM} {sel : List Md} (h : GetOk l f args S sel) : SelOk2 l f sel := by
  have hc := h.chk
  unfold chkErr at hc
  rw [orE_zero, orE_zero] at hc
  have hn := h.next
  unfold nextErr at hn
  rw [orE_zero] at hn
  have hG := rightG_of hn.2
  have hd := h.done
  unfold doneErr at hd
  have hout : isOutM f.excl sel = false := by
    cases ho : isOutM f.excl sel with
    | false => rfl
    | true => rw [ho, if_pos rfl] at hd; cases hd
  rw [hout, if_neg (by simp), orE_zero] at hd
  have hsel : buildL l (toT l (capsL S) (buildL l f.reqs) ++ liveL (capsL S)) = sel := h.selE.symm
  have hr : RightG l sel := by rw [← hsel]; exact hG.build
  have ha : buildL l sel = sel := by rw [← hsel]; exact build_again hG
  have hs : startErr l sel = (0, -1) := startErr_right hc.1 hr.at_
  have ht : trimErr l sel = (0, -1) := by
    unfold trimErr
    rw [if_neg (by rw [hs]; simp), if_pos ha]
  refine ⟨hr.idx, hc.1, right_of hc.2.1, hr, ha, by rw [hs], ht, ?_, hout, ?_⟩
  · unfold trimR
    rw [if_pos ⟨by rw [hs], ha⟩]
  · have h2 := hd.2
    by_cases hl : 20 < (trimR l sel).length
    · rw [if_pos hl] at h2; cases h2
    · omega
theorem SelOk2.riseP {l : List En} {f : Fl} {sel : List Md} (h : SelOk2 l f sel) : RiseP sel := by
  have := build_riseP h.right
  rwa [h.again] at this
theorem SelOk2.md {l : List En} {f : Fl} {sel : List Md} (h : SelOk2 l f sel) {m : Md} (hm : m ∈ sel) : mdErr m = 0 := h.right.right (.root hm)
theorem SelOk2.facts {l : List En} {f : Fl} {sel : List Md} (h : SelOk2 l f sel) : TlFacts l sel (trimR l sel) := by
  rw [h.trL]
  exact trimL_facts h.right h.again
theorem findI_at {sel : List Md} (hr : RiseP sel) {m : Md} (hm : m ∈ sel) : 0 ≤ findI (hasP m.1) sel ∧ mdAt sel (findI (hasP m.1) sel).toNat = m := by
  have h0 : 0 ≤ findI (hasP m.1) sel := by
    rcases Int.lt_or_le (findI (hasP m.1) sel) 0 with h | h
    · have := findI_eq_none.1 h m hm
      unfold hasP at this
      simp at this
    · exact h
  obtain ⟨h1, h2⟩ := findI_some h0
  exact ⟨h0, RiseP.unique hr h1 hm (of_decide_eq_true h2)⟩
theorem isOutM_not {x S : List Md} (h : isOutM x S = false) {m : Md} (hm : m ∈ S) : m ∉ x := fun h2 => by
  rw [isOutM_yes hm h2] at h
  cases h
theorem SelOk2.fileOk {l : List En} {f : Fl} {sel : List Md} (h : SelOk2 l f sel) (hn : ∀ m ∈ sel, m.1 ≠ f.path) : Right ⟨f.path, trimR l sel, f.excl⟩ := by
  have hF := h.facts
  have hrp : RiseP (trimR l sel) := List.Pairwise.sublist hF.sub h.riseP
  refine ⟨h.file.path, h.few, h.file.excl, fun i hi => ?_, h.file.exc, fun i hi => ?_⟩
  · simp only at hi ⊢
    have hm := mdAt_mem hi
    have hms := hF.sub.subset hm
    unfold reqE
    rw [if_neg (by rw [h.md hms]; simp), if_neg (hn _ hms), if_neg]
    rintro ⟨h0, hc⟩
    have hp := List.pairwise_iff_getElem.1 hrp (i - 1) i (by omega) hi (by omega)
    have e1 := mdAt_get (l := trimR l sel) (i := i - 1) (by omega)
    have e2 := mdAt_get (l := trimR l sel) (i := i) hi
    rw [List.getElem?_eq_getElem (by omega)] at e1 e2
    rw [Option.some.inj e1, Option.some.inj e2] at hp
    have := (compareBytes_ord.anti _ _).1 hp
    omega
  · simp only at hi ⊢
    unfold claE
    rw [if_neg (isOutM_not h.out (hF.sub.subset (mdAt_mem hi)))]
def pinMd (m : Md) : PinM := ⟨m.1, m.2, false⟩
theorem pinAdd_new : ∀ {S : List PinM} {p : PinM}, p.path ∉ S.map (·.path) → pinAdd S p = some (S ++ [p])
  | [], p, _ => rfl
  | x :: r, p, h => by
    rw [List.map_cons, List.mem_cons, not_or] at h
    rw [pinAdd, if_neg (fun e => h.1 e.symm), pinAdd_new h.2]
    rfl
theorem vers_there {l : List En} {m : Md} (he : ∃ e ∈ l, e.md = m) (hm : mdErr m = 0) : m.2 ∈ vsort (versL l m.1) := (vsort_mem _ _).2 ⟨versL_mem.2 he, (md_parts hm).2⟩
theorem pathsE_there {l : List En} {m : Md} (he : ∃ e ∈ l, e.md = m) (hm : mdErr m = 0) : pathsE l m.1 = 0 := by
  unfold pathsE
  rw [path_dots (md_parts hm).1, if_neg (by simp), if_neg (fun e => by have := vers_there he hm; rw [e] at this; cases this)]
theorem pinArg_text {l : List En} {b : List Md} {m : Md} {S : List PinM} (h0 : (idxErr l).1 = 0) (he : ∃ e ∈ l, e.md = m) (hm : mdErr m = 0) (hn : m.1 ∉ S.map (·.path)) : pinArg l b (argP (mdText m)) (argQ (mdText m)) S = (0, S ++ [pinMd m]) := by
  rw [argP_text hm, argQ_text hm]
  have hw := path_dots (md_parts hm).1
  have hv := (md_parts hm).2
  have hpe := pathsE_there he hm
  unfold pinArg
  rw [if_neg (by rw [hpe]; simp), pathsO_one hw hpe, hw]
  obtain ⟨_, h2, h3⟩ := pick_ver (l := l) (p := m.1) (now := nowOf b m.1) h0 hv
  have h4 := h2.2 (vers_there he hm)
  have hp : pinPath l b m.2 false m.1 S = (0, S ++ [pinMd m]) := by
    unfold pinPath
    rw [if_neg (by rw [h4]; simp), h3 h4, pinAdd_new hn]
    rfl
  rw [pinPaths, hp, if_neg (by simp)]
  rfl
theorem pinArgs_texts {l : List En} {b : List Md} (h0 : (idxErr l).1 = 0) : ∀ {R D : List Md} {i : Nat}, (∀ m ∈ R, (∃ e ∈ l, e.md = m) ∧ mdErr m = 0) → RiseP (D ++ R) → pinArgs l b (R.map mdText) i (D.map pinMd) = ((0, -1), (D ++ R).map pinMd)
  | [], D, i, _, _ => by simp [pinArgs]
  | m :: R, D, i, hR, hr => by
    obtain ⟨he, hm⟩ := hR m (by simp)
    have hn : m.1 ∉ (D.map pinMd).map (·.path) := by
      intro hx
      rw [List.map_map] at hx
      obtain ⟨d, hd, e⟩ := List.mem_map.1 hx
      have h1 := (List.pairwise_append.1 hr).2.2 d hd m (by simp)
      rw [show d.1 = m.1 from e, compareBytes_self] at h1
      omega
    rw [List.map_cons, pinArgs, pinArg_text h0 he hm hn, if_neg (by simp)]
    have e : D.map pinMd ++ [pinMd m] = (D ++ [m]).map pinMd := by simp
    simp only
    rw [e, pinArgs_texts h0 (fun x hx => hR x (by simp [hx])) (by simpa using hr)]
    simp
theorem SelOk2.pins {l : List En} {f : Fl} {sel : List Md} (h : SelOk2 l f sel) (b : List Md) : pinArgs l b (sel.map mdText) 0 [] = ((0, -1), sel.map pinMd) := by
  have := pinArgs_texts (b := b) h.idx0 (R := sel) (D := []) (i := 0) (fun m hm => ⟨h.right.at_ m hm, h.md hm⟩) (by simpa using h.riseP)
  simpa using this
theorem pinMd_paths (sel : List Md) : (sel.map pinMd).map (·.path) = sel.map (·.1) := by rw [List.map_map]; rfl
theorem riseP_nodup {sel : List Md} (h : RiseP sel) : (sel.map (·.1)).Nodup := by
  rw [List.nodup_iff_pairwise_ne, List.pairwise_map]
  exact h.imp fun {a b} h e => by rw [e, compareBytes_self] at h; omega
theorem capsL_pins {sel : List Md} (h : RiseP sel) : capsL (sel.map pinMd) = sel := by
  refine (capsL_of (C := sel) (by rw [pinMd_paths]; exact riseP_nodup h) ?_ (h.imp fun {a b} h => by unfold pathCmp; omega)).symm
  rw [List.map_map]
  exact List.Perm.of_eq (List.map_id' sel).symm
theorem SelOk2.caps {l : List En} {f : Fl} {sel : List Md} (h : SelOk2 l f sel) : RightC sel := ⟨fun m hm => by
    obtain ⟨h1, h2⟩ := md_parts (h.md hm)
    unfold cap1
    rw [if_neg (by rw [h1]; simp), h2]
    split <;> rfl, by
    unfold Rises
    rw [List.pairwise_map]
    exact h.riseP⟩
theorem ver_none {v : Str} (h : verErr v = 0) : v ≠ noneS := fun e => by
  rw [e] at h
  exact absurd h (by decide +kernel)
theorem SelOk2.good {l : List En} {f : Fl} {sel : List Md} (h : SelOk2 l f sel) : ∀ m ∈ sel, ¬ BadP l sel m := fun m hm => by
  refine good_of_reach h.right (fun x hx => ?_) hm
  cases ha : aboveB sel x with
  | false => rfl
  | true =>
    exfalso
    obtain ⟨c, hc, hp, h1⟩ := (aboveB_iff h.caps).1 ha
    rcases h1 with h1 | h1
    · exact ver_none (md_parts (h.md hc)).2 h1
    · obtain ⟨y, hy, hy1, hy2⟩ := build_over h.right (h.right.mem.1 hx)
      rw [h.again] at hy
      have : y = c := RiseP.unique h.riseP hy hc (hy1.trans hp.symm)
      subst this
      rw [verLess_of_le hy2] at h1
      cases h1
theorem SelOk2.to {l : List En} {f : Fl} {sel : List Md} (h : SelOk2 l f sel) : toT l sel sel = sel := toT_same h.right (by have := build_rises h.right; rwa [h.again] at this) h.good
theorem SelOk2.live {l : List En} {f : Fl} {sel : List Md} (h : SelOk2 l f sel) : liveL sel = sel := by
  unfold liveL
  exact List.filter_eq_self.2 fun m hm => decide_eq_true (ver_none (md_parts (h.md hm)).2)
theorem build_twice {l : List En} {A : List Md} (h : RightG l A) : buildL l (A ++ A) = buildL l A := by
  have h2 : RightG l (A ++ A) := ⟨h.idx, fun m hm => h.at_ m (by simpa using hm)⟩
  refine build_between h h2 h (fun m hm => reached_app.2 (.inl hm)) (fun m hm => ?_) rfl
  rcases reached_app.1 hm with h | h <;> exact h
theorem get_again {l : List En} {f : Fl} {sel : List Md} (h : SelOk2 l f sel) (hl : sel.length ≤ 10) (hf : (fileErr ⟨f.path, trimR l sel, f.excl⟩).1 = 0) : getR l ⟨f.path, trimR l sel, f.excl⟩ (sel.map mdText) = ⟨(0, -1), ⟨f.path, trimR l sel, f.excl⟩, sel⟩ := by
  have hF := h.facts
  have hb : buildL l (trimR l sel) = sel := hF.same
  have hsx : startErr l (trimR l sel) = (0, -1) := startErr_right h.idx0 fun m hm => h.right.at_ m (hF.sub.subset hm)
  refine GetOk.mk_ (f := ⟨f.path, trimR l sel, f.excl⟩) (S := sel.map pinMd) ?_ (by rw [hsx]) ?_ (h.pins _) ?_ ?_ ?_ ?_
  · unfold chkErr
    rw [orE_zero, orE_zero, orE_zero]
    refine ⟨h.idx0, hf, by rw [List.length_map, if_neg (by omega)], ?_⟩
    unfold argsErr
    rw [firstE_none fun i hi => ?_]
    rw [List.length_map] at hi
    rw [List.getD_eq_getElem?_getD, List.getElem?_map, mdAt_get hi]
    exact argE_text (h.md (mdAt_mem hi))
  · simp only
    rw [hb]
    exact h.out
  · simp only
    rw [hb, capsL_pins h.riseP]
    unfold nextErr
    rw [orE_zero, h.to, h.live]
    refine ⟨?_, ?_⟩
    · unfold toErr badErr
      rw [orE_zero, orE_zero]
      exact ⟨⟨h.idx0, by rw [capsErr_of h.caps]⟩, rootsErr_zero.2 h.right.at_⟩
    · exact startErr_app.2 ⟨h.start, h.start⟩
  · simp only
    rw [hb, capsL_pins h.riseP]
    unfold nextB
    rw [h.to, h.live, build_twice h.right, h.again]
  · simp only
    rw [hb]
    unfold brokenI
    rw [findI_eq_none]
    intro s hs
    obtain ⟨m, hm, rfl⟩ := List.mem_map.1 hs
    have hmd := h.md hm
    rw [argP_text hmd]
    have hpe := pathsE_there (h.right.at_ m hm) hmd
    have hw := path_dots (md_parts hmd).1
    obtain ⟨h1, h2⟩ := findI_at h.riseP hm
    have hv : pinVer (sel.map pinMd) m.1 = m.2 := pinVer_get (x := pinMd m) (by rw [pinMd_paths]; exact riseP_nodup h.riseP) (List.mem_map.2 ⟨m, hm, rfl⟩)
    have hoff : pinOff (sel.map pinMd) sel m.1 = false := by
      unfold pinOff
      rw [hv, h2, decide_eq_false (ver_none (md_parts hmd).2), decide_eq_false (show ¬ findI (hasP m.1) sel < 0 by omega)]
      simp
    unfold keptB
    rw [hpe, pathsO_one hw hpe]
    simp [hoff]
  · unfold doneErr
    simp only
    rw [h.out, if_neg (by simp), orE_zero, h.tr, if_neg (by have := h.few; omega)]
    exact ⟨rfl, rfl⟩
theorem GetOk.pinned {l : List En} {f : Fl} {args : List Str} {S : List PinM} {sel : List Md} (h : GetOk l f args S sel) {s : Str} (hs : s ∈ args) (hw : contains (argP s) dots = false) (hq : verErr (argQ s) = 0 ∨ argQ s = noneS) :
    (argQ s = noneS → findI (hasP (argP s)) sel < 0) ∧ (argQ s ≠ noneS → 0 ≤ findI (hasP (argP s)) sel ∧ (mdAt sel (findI (hasP (argP s)) sel).toNat).2 = argQ s) := by
  have hp := pinArgs_exact h.pins s hs hw hq
  rw [← h.caps] at hp
  have hk := findI_eq_none.1 h.kept s hs
  unfold keptB at hk
  simp only [Bool.not_eq_false', Bool.and_eq_true, decide_eq_true_eq, Bool.not_eq_true'] at hk
  obtain ⟨h1, h2⟩ := hk
  rw [pathsO_one hw h1] at h2
  simp only [List.any_cons, List.any_nil, Bool.or_false] at h2
  have hv : pinVer S (argP s) = argQ s := by unfold pinVer; rw [hp]
  unfold pinOff at h2
  rw [hv] at h2
  simp only [Bool.or_eq_false_iff, Bool.not_eq_false', decide_eq_true_eq, Bool.and_eq_false_iff, decide_eq_false_iff_not] at h2
  obtain ⟨h3, h4⟩ := h2
  have h5 := decide_eq_decide.1 h3
  refine ⟨fun e => h5.1 e, fun e => ?_⟩
  have h6 : 0 ≤ findI (hasP (argP s)) sel := by
    have := mt h5.2 e
    omega
  refine ⟨h6, ?_⟩
  rcases h4 with h4 | h4
  · exact absurd h6 h4
  · exact h4
end Go.Proofs.Pw
