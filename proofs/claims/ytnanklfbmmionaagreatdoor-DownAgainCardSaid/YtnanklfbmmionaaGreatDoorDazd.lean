/- Da: walks and plain laws, joined: DnLawMath DropS DnCaps. Conditions: at each theorem. -/
import Derived.Test.YtnanklfbmmionaaGreatDoorDaw
import Derived.Test.YtnanklfbmmionaaGreatDoorDag
import Derived.Test.YtnanklfbmmionaaGreatDoorDazc
import Derived.Test.YtnanklfbmmionaaGreatDoorDaf
import Derived.Test.YtnanklfbmmionaaGreatDoorDab
import Derived.Test.YtnanklfbmmionaaGreatDoorDazb

namespace Go.Proofs.Pw
open Go.Lib hiding intOf
theorem bestT_spec {l : List En} {M : Nat → Bool} {m : Md} : ∀ {t k : Nat}, bestT l M m t = some k → k < t ∧ (enAt l k).md.1 = m.1 ∧ verLess m.2 (enAt l k).md.2 = false ∧ M k = false
  | 0, _, h => by cases h
  | t + 1, k, h => by
    rw [bestT] at h
    split at h
    · rename_i h1
      obtain rfl := Option.some.inj h
      exact ⟨Nat.lt_succ_self _, h1⟩
    · obtain ⟨h2, h3⟩ := bestT_spec h
      exact ⟨by omega, h3⟩
theorem verLess_self {v : Str} : verLess v v = false := verLess_of_le (by rw [verCmp_ord.self]; exact Int.le_refl _)
theorem bestT_self {l : List En} {M : Nat → Bool} (hR : RightI l) {k : Nat} (hM : M k = false) : ∀ {t : Nat}, k < t → t ≤ l.length → bestT l M (enAt l k).md t = some k
  | 0, hk, _ => absurd hk (Nat.not_lt_zero _)
  | t + 1, hk, ht => by
    by_cases e : k = t
    · subst e
      rw [bestT, if_pos ⟨rfl, verLess_self, hM⟩]
    · rw [bestT, if_neg, bestT_self hR hM (by omega) (by omega)]
      rintro ⟨h1, h2, _⟩
      have hp := List.pairwise_iff_getElem.1 hR.rise k t (by rw [List.length_map]; omega) (by rw [List.length_map]; omega) (by omega)
      rw [List.getElem_map, List.getElem_map, ← enAt_elem (by omega), ← enAt_elem (by omega)] at hp
      unfold modCmp at hp
      rw [orI_lt, h1, compareBytes_ord.self] at hp
      have h3 := (modErr_zero (hR.mds _ (enAt_mem (l := l) (i := k) (by omega)))).2
      have h4 := (modErr_zero (hR.mds _ (enAt_mem (l := l) (i := t) (by omega)))).2
      have h5 : verLess (enAt l k).md.2 (enAt l t).md.2 = true := by
        unfold verLess
        refine decide_eq_true ⟨h3, h4, ?_⟩
        rcases hp with hp | hp
        · exact absurd hp (by decide)
        · exact hp.2
      rw [h5] at h2
      cases h2
theorem toP_mem {l : List En} {caps roots T : List Md} (hR : RightI l) (h : ToP l caps roots T) {m : Md} (hm : m ∈ T) : (∃ e ∈ l, e.md = m) ∧ ¬ BadP l caps m ∧ ∃ r ∈ roots, r.1 = m.1 ∧ verLess r.2 m.2 = false := by
  obtain ⟨M, hM, -, h1⟩ := h
  rw [h1, lowsF_best hR] at hm
  obtain ⟨r, hr, k, hb, rfl⟩ := hm
  obtain ⟨hk, h2, h3, h4⟩ := bestT_spec hb
  exact ⟨⟨_, enAt_mem hk, rfl⟩, fun (h5 : BadP l caps (enAt l k).md) => (by rw [← hM k hk, h4] at h5; cases h5), r, hr, h2.symm, h3⟩
theorem toP_self {l : List En} {caps roots T : List Md} (hR : RightI l) (h : ToP l caps roots T) {m : Md} (hm : m ∈ roots) (he : ∃ e ∈ l, e.md = m) (hb : ¬ BadP l caps m) : m ∈ T := by
  obtain ⟨M, hM, -, h1⟩ := h
  obtain ⟨e, he, rfl⟩ := he
  obtain ⟨k, hk, rfl⟩ := mem_enAt he
  rw [h1, lowsF_best hR]
  refine ⟨_, hm, k, bestT_self hR ?_ hk (Nat.le_refl _), rfl⟩
  cases hMk : M k
  · rfl
  · exact absurd ((hM k hk).1 hMk) hb
theorem toP_right {l : List En} {caps roots T : List Md} (hR : RightI l) (h : ToP l caps roots T) : RightG l T := ⟨hR, fun _ hm => (toP_mem hR h hm).1⟩
theorem startErr_right {l : List En} {roots : List Md} (h0 : (idxErr l).1 = 0) (h : ∀ m ∈ roots, ∃ e ∈ l, e.md = m) : startErr l roots = (0, -1) := startErr_at (by
  unfold startErr
  rw [orE_zero]
  exact ⟨h0, rootsErr_zero.2 h⟩)
theorem toP_again {l : List En} {caps roots T T2 : List Md} (hR : RightI l) (h : ToP l caps roots T) (h2 : ToP l caps T T2) : T2 = T := by
  have hr1 : Rises modCmp T := h.choose_spec.2.1
  have hr2 : Rises modCmp T2 := h2.choose_spec.2.1
  refine rises_ext modCmp_ord hr2 hr1 fun m => ⟨fun hm => ?_, fun hm => toP_self hR h2 hm (toP_mem hR h hm).1 (toP_mem hR h hm).2.1⟩
  obtain ⟨M, hM, -, h1⟩ := id h2
  rw [h1, lowsF_best hR] at hm
  obtain ⟨r, hr, k, hb, rfl⟩ := hm
  obtain ⟨⟨e, he, hre⟩, hgood, _⟩ := toP_mem hR h hr
  obtain ⟨j, hj, rfl⟩ := mem_enAt he
  subst hre
  have hMj : M j = false := by
    cases hMk : M j
    · rfl
    · exact absurd ((hM j hj).1 hMk) hgood
  rw [bestT_self hR hMj hj (Nat.le_refl _)] at hb
  obtain rfl := Option.some.inj hb
  exact hr
theorem reach_good {l : List En} {caps T : List Md} (h : ∀ m ∈ T, ¬ BadP l caps m) {x : Md} (hx : Reached l T x) : ¬ BadP l caps x := by
  induction hx with
  | root hm => exact h _ hm
  | step he _ hr ih => exact fun hb => ih (.req he hr hb)
theorem above_good {l : List En} {caps : List Md} {m : Md} (he : ∃ e ∈ l, e.md = m) (h : ¬ BadP l caps m) : aboveB caps m = false := by
  obtain ⟨e, he, rfl⟩ := he
  cases hab : aboveB caps e.md
  · rfl
  · exact absurd (.above he hab) h
theorem build_good {l : List En} {caps roots T : List Md} (hR : RightI l) (h : ToP l caps roots T) {m : Md} (hm : m ∈ buildL l T) : aboveB caps m = false := by
  have hG := toP_right hR h
  have h1 := hG.mem.1 (hG.great.sub m hm)
  exact above_good (hG.entry h1) (reach_good (fun m hm => (toP_mem hR h hm).2.1) h1)
theorem good_of_reach {l : List En} {caps roots : List Md} (hG : RightG l roots) (h : ∀ m ∈ reachL l roots, aboveB caps m = false) {m : Md} (hm : m ∈ roots) : ¬ BadP l caps m := fun hb => by
  obtain ⟨e, he, rfl⟩ := hG.at_ m hm
  obtain ⟨f, hf, h1, h2⟩ := (badP_reached he).1 hb
  rw [h f.md (hG.mem.2 (reached_sub (fun x hx => by rw [List.mem_singleton] at hx; subst hx; exact .root hm) h1))] at h2
  cases h2
theorem badP_iff {l : List En} {caps : List Md} (hR : RightI l) {i : Nat} (hi : i < l.length) : BadP l caps (enAt l i).md ↔ aboveB caps (enAt l i).md = true ∨ ∃ r ∈ (enAt l i).reqs, BadP l caps r := by
  constructor
  · intro h
    generalize hm : (enAt l i).md = m at h
    cases h with
    | above he h => exact .inl h
    | @req e r he hr h =>
      have : e = enAt l i := rises_inj modCmp_ord (k := (·.md)) hR.rise he (enAt_mem hi) hm.symm
      subst this
      exact .inr ⟨r, hr, h⟩
  · rintro (h | ⟨r, hr, h⟩)
    · exact .above (enAt_mem hi) h
    · exact .req (enAt_mem hi) hr h
structure RightC (caps : List Md) : Prop where
  ok : ∀ m ∈ caps, cap1 m = 0
  rise : Rises compareBytes (caps.map (·.1))
theorem rightC_of {caps : List Md} (h : (capsErr caps).1 = 0) : RightC caps := by
  unfold capsErr at h
  have h0 := firstE_zero h
  have h1 : ∀ j, j < caps.length → cap1 (mdAt caps j) = 0 := fun j hj => by
    have := h0 j hj
    unfold capE at this
    by_cases e : cap1 (mdAt caps j) = 0
    · exact e
    · rw [if_pos e] at this; exact absurd this e
  refine ⟨fun m hm => ?_, rises_step compareBytes_ord fun i hi => ?_⟩
  · obtain ⟨j, hj⟩ := List.getElem?_of_mem hm
    have hjl := (List.getElem?_eq_some_iff.1 hj).1
    rw [mdAt_get hjl] at hj
    rw [← Option.some.inj hj]
    exact h1 j hjl
  · rw [List.length_map] at hi
    have := h0 (i + 1) hi
    unfold capE at this
    rw [if_neg (by rw [h1 _ hi]; simp), Nat.add_sub_cancel] at this
    by_cases hc : compareBytes (mdAt caps (i + 1)).1 (mdAt caps i).1 ≤ 0
    · rw [if_pos ⟨by omega, hc⟩] at this; cases this
    · have e1 := mdAt_get (l := caps) (i := i) (by omega)
      have e2 := mdAt_get (l := caps) (i := i + 1) hi
      rw [List.getElem?_eq_getElem (by omega)] at e1 e2
      rw [List.getElem_map, List.getElem_map, Option.some.inj e1, Option.some.inj e2]
      exact (compareBytes_ord.anti _ _).2 (by omega)
theorem capsErr_of {caps : List Md} (h : RightC caps) : capsErr caps = (0, -1) := by
  unfold capsErr
  refine firstE_none fun j hj => ?_
  unfold capE
  have hm : mdAt caps j ∈ caps := List.mem_of_getElem? (mdAt_get hj)
  rw [if_neg (by rw [h.ok _ hm]; simp), if_neg]
  rintro ⟨h0, hc⟩
  have hp := List.pairwise_iff_getElem.1 h.rise (j - 1) j (by rw [List.length_map]; omega) (by rw [List.length_map]; omega) (by omega)
  have e1 := mdAt_get (l := caps) (i := j - 1) (by omega)
  have e2 := mdAt_get (l := caps) (i := j) hj
  rw [List.getElem?_eq_getElem (by omega)] at e1 e2
  rw [List.getElem_map, List.getElem_map, Option.some.inj e1, Option.some.inj e2] at hp
  have := (compareBytes_ord.anti _ _).1 hp
  omega
theorem RightC.sub {caps less : List Md} (h : RightC caps) (hs : less.Sublist caps) : RightC less :=
  ⟨fun m hm => h.ok m (hs.mem hm), List.Pairwise.sublist (hs.map _) h.rise⟩
theorem aboveB_iff {caps : List Md} (h : RightC caps) {m : Md} : aboveB caps m = true ↔ ∃ c ∈ caps, c.1 = m.1 ∧ (c.2 = noneS ∨ verLess c.2 m.2 = true) := by
  unfold aboveB
  rw [Bool.and_eq_true, decide_eq_true_iff, Bool.or_eq_true, decide_eq_true_iff]
  constructor
  · rintro ⟨h0, h1⟩
    have e : findI (hasP m.1) caps = ((findI (hasP m.1) caps).toNat : Int) := by omega
    obtain ⟨c, hc, hp⟩ := findI_spec e
    have hl := (List.getElem?_eq_some_iff.1 hc).1
    have hd := mdAt_get hl
    rw [hc] at hd
    rw [← Option.some.inj hd] at h1
    exact ⟨c, List.mem_of_getElem? hc, of_decide_eq_true hp, h1⟩
  · rintro ⟨c, hc, hp, h1⟩
    have h0 : ¬ findI (hasP m.1) caps < 0 := fun h2 => by
      have := findI_eq_none.1 h2 c hc
      unfold hasP at this
      rw [decide_eq_true hp] at this
      cases this
    have e : findI (hasP m.1) caps = ((findI (hasP m.1) caps).toNat : Int) := by omega
    obtain ⟨d, hd, hp2⟩ := findI_spec e
    have hl := (List.getElem?_eq_some_iff.1 hd).1
    have hd2 := mdAt_get hl
    rw [hd] at hd2
    have hcd : c = d := rises_inj compareBytes_ord (k := (·.1)) h.rise hc (List.mem_of_getElem? hd) (hp.trans (of_decide_eq_true hp2).symm)
    rw [← Option.some.inj hd2, ← hcd]
    exact ⟨by omega, h1⟩
theorem badP_less {l : List En} {caps less : List Md} (hc : RightC caps) (hs : less.Sublist caps) {m : Md} (h : BadP l less m) : BadP l caps m := by
  induction h with
  | above he h =>
    obtain ⟨c, h1, h2⟩ := (aboveB_iff (hc.sub hs)).1 h
    exact .above he ((aboveB_iff hc).2 ⟨c, hs.mem h1, h2⟩)
  | req he hr _ ih => exact .req he hr ih
end Go.Proofs.Pw

namespace Go.Proofs.Pw
open Go.RowKit
open Go.Lib hiding intOf
theorem ModsAt.dropT {w : World} {b o n cap k : Nat} {l : List Md} (h : ModsAt w (.slice (some ⟨b, o, none⟩) n cap) l) (hk : k ≤ n) : ModsAt w (.slice (some ⟨b, o + k * 2, none⟩) (n - k) (cap - k)) (l.drop k) := by
  obtain ⟨a', n', cap', P, V, e, rfl, h3, h4, h5⟩ := h
  injection e with e1 e2 e3
  subst e1 e2 e3
  refine ⟨_, n - k, cap - k, fun j => P (k + j), fun j => V (k + j), rfl, ?_, by omega, by omega, fun j hj => ?_⟩
  · apply List.ext_getElem?
    intro i
    rw [List.getElem?_drop]
    by_cases hi : i < n - k
    · rw [mdF_get n P V (k + i) (by omega), mdF_get _ _ _ i hi]
    · rw [List.getElem?_eq_none (by rw [mdF_length]; omega), List.getElem?_eq_none (by rw [mdF_length]; omega)]
  · obtain ⟨b', o', e, c0, c1⟩ := h5 (k + j) (by omega)
    injection e with e
    injection e with e1 e2 _
    subst e1 e2
    refine ⟨b, o + k * 2, rfl, ?_, ?_⟩
    · rw [show o + k * 2 + j * 2 = o + (k + j) * 2 by omega]; exact c0
    · rw [show o + k * 2 + j * 2 + 1 = o + (k + j) * 2 + 1 by omega]; exact c1
theorem mods_noneT (w : World) (a : Option Addr) : ModsAt w (.slice a 0 0) [] := ⟨a, 0, 0, fun _ => ⟨#[]⟩, fun _ => ⟨#[]⟩, rfl, rfl, Nat.le_refl _, by decide, fun j hj => absurd hj (Nat.not_lt_zero _)⟩
theorem take_drop_eraseT {α : Type} (l : List α) (i : Nat) : l.take i ++ l.drop (i + 1) = l.eraseIdx i := (List.eraseIdx_eq_take_drop_succ l i).symm
theorem ModsAt.takeT {w : World} {a : Option Addr} {n cap k : Nat} {l : List Md} (h : ModsAt w (.slice a n cap) l) (hk : k ≤ n) : ModsAt w (.slice a k cap) (l.take k) := by
  obtain ⟨a', n', cap', P, V, e, rfl, h3, h4, h5⟩ := h
  injection e with e1 e2 e3
  subst e1 e2 e3
  refine ⟨a, k, cap, P, V, rfl, ?_, by omega, h4, fun j hj => h5 j (by omega)⟩
  unfold mdF
  rw [← List.map_take, List.take_range, Nat.min_eq_left hk]
theorem any_mdT {n : Nat} {P V : Nat → ByteArray} {m : Md} {q : Nat} (hq : q < n) : ((mdF n P V).take (q + 1)).any (fun x => decide (x = m)) = (((mdF n P V).take q).any (fun x => decide (x = m)) || decide (((P q).data.toList, (V q).data.toList) = m)) := by
  rw [mdF_take_succ n P V q hq, List.any_append]
  simp
end Go.Proofs.Pw

namespace Go.Proofs.Pw
open Go.RowKit
open Go.Lib hiding intOf
theorem outM_len {l : List En} {S : Nat → Bool} : ∀ {t : Nat}, (outM l S t).length ≤ t
  | 0 => Nat.le_refl _
  | t + 1 => by
    rw [outM, List.length_append]
    have := outM_len (l := l) (S := S) (t := t)
    split <;> simp <;> omega
theorem toP_len {l : List En} {caps roots T : List Md} (hR : RightI l) (h : ToP l caps roots T) : T.length ≤ l.length := by
  obtain ⟨M, hM, h2⟩ := id h
  rw [toP_out (S := fun k => @decide (∃ r ∈ roots, bestT l M r l.length = some k) (Classical.propDecidable _)) hR M hM (fun k _ => by rw [@decide_eq_true_iff _ (Classical.propDecidable _)]) h]
  exact outM_len
theorem toErr_parts {l : List En} {roots caps : List Md} (h : (toErr l roots caps).1 = 0) : (idxErr l).1 = 0 ∧ (capsErr caps).1 = 0 ∧ RightG l roots := by
  unfold toErr at h
  rw [orE_zero] at h
  have h1 := h.1
  unfold badErr at h1
  rw [orE_zero] at h1
  exact ⟨h1.1, h1.2, rightI_of h1.1, rootsErr_zero.1 h.2⟩
theorem ModsAt.cells2 {w : World} {x : Value} {l : List Md} (h : ModsAt w x l) : ∃ a n c P V, x = .slice a n c ∧ l = mdF n P V ∧ ∀ W, Below w.heap.size w W → ∀ j, j < n → ∃ b o, a = some ⟨b, o, none⟩ ∧ W.cell? ⟨b, o + j * 2, none⟩ = some (.string (P j)) ∧ W.cell? ⟨b, o + j * 2 + 1, none⟩ = some (.string (V j)) := by
  obtain ⟨a, n, c, P, V, e1, e2, _, _, h5⟩ := h
  exact ⟨a, n, c, P, V, e1, e2, fun W hW j hj => let ⟨b, o, e, c0, c1⟩ := h5 j hj; ⟨b, o, e, Below.cell_some hW c0, Below.cell_some hW c1⟩⟩
def okFrom (m r : Md) : Bool := decide (r.1 = m.1) && !verLess r.2 m.2
set_option maxHeartbeats 4000000 in
set_option maxRecDepth 100000 in
theorem downCaps_long (ks : List Nat) (A : Nat → Addr) (la : Option Addr) (ln lc : Nat) (P V : Nat → ByteArray) (R : Nat → List Md) (K : Nat → List Str) (Bk : Nat → Bool) (Rv Kv : Nat → Value) (av bv : Value) (Am Bm : List Md) (w : World) (H : DnArgs ks A la ln lc P V R K Bk Rv Kv av bv Am Bm w)
    (hlong : longIdx (enF ln P V R K Bk) = true ∨ (longIdx (enF ln P V R K Bk) = false ∧ ¬ (longMods Am 15 = false ∧ longMods Bm 15 = false))) :
    Calls Tryz.prog 5 #[.slice la ln lc, av, bv] w fun e w' => e = .returned (.bool true) ∧ Below w.heap.size w w' := by
  obtain ⟨a1, n1, c1, _, _, rfl, _⟩ := id H.a
  obtain ⟨a2, n2, c2, _, _, rfl, _⟩ := id H.b
  have hre := lowered_calls ks A H.idx w H.env
  have hlx := fun (W : World) (hb : Below w.heap.size w W) => longIndex_in la ln lc P V R K Bk Rv Kv W (H.l.below hb)
  have hlm1 := fun (W : World) (hb : Below w.heap.size w W) => longMods_calls (.slice a1 n1 c1) Am 15 W (H.a.below hb)
  have hlm2 := fun (W : World) (hb : Below w.heap.size w W) => longMods_calls (.slice a2 n2 c2) Bm 15 W (H.b.below hb)
  replace hre := Lib.hid hre
  replace hlx := Lib.hid hlx
  replace hlm1 := Lib.hid hlm1
  replace hlm2 := Lib.hid hlm2
  clear H
  rcases hlong with h1 | ⟨h1, h3⟩
  · rw [longII_yes h1] at hlx
    clear h1
    go_enter Tryz.func5, Tryz.ntmps5
    go_wp2_with fail
    refine hre.out.mono ?_
    rintro e w1 ⟨rfl, hB⟩
    go_wp2_with fail
    refine (hlx.out _ hB).mono ?_
    rintro e w' ⟨rfl, rfl⟩
    go_wp2_with fail
    go_ret
    exact ⟨rfl, hB⟩
  · rw [longII_no h1] at hlx
    clear h1
    cases h4 : longMods Am 15 <;> cases h5 : longMods Bm 15
    · exact absurd ⟨h4, h5⟩ h3
    all_goals
      clear h3
      have e1 := longI_isD Am 15
      have e2 := longI_isD Bm 15
      rw [h4] at e1
      rw [h5] at e2
      simp only [e1, e2] at hlm1 hlm2
      clear h4 h5 e1 e2
      go_enter Tryz.func5, Tryz.ntmps5
      go_wp2_with fail
      refine hre.out.mono ?_
      rintro e w1 ⟨rfl, hB⟩
      go_wp2_with fail
      refine (hlx.out _ hB).mono ?_
      rintro e w' ⟨rfl, rfl⟩
      go_wp2_with fail
      refine (hlm1.out _ hB).mono ?_
      rintro e w' ⟨rfl, rfl⟩
      go_wp2_with fail
      refine (hlm2.out _ hB).mono ?_
      rintro e w' ⟨rfl, rfl⟩
      go_wp2_with fail
      go_ret
      exact ⟨rfl, hB⟩
set_option maxHeartbeats 16000000 in
set_option maxRecDepth 100000 in
theorem downCaps_main (ks : List Nat) (A : Nat → Addr) (la : Option Addr) (ln lc : Nat) (P V : Nat → ByteArray) (R : Nat → List Md) (K : Nat → List Str) (Bk : Nat → Bool) (Rv Kv : Nat → Value) (av bv : Value) (Am Bm : List Md) (w : World) (H : DnArgs ks A la ln lc P V R K Bk Rv Kv av bv Am Bm w)
    (h1 : longIdx (enF ln P V R K Bk) = false) (h3 : longMods Am 15 = false) (h4 : longMods Bm 15 = false) :
    Calls Tryz.prog 5 #[.slice la ln lc, av, bv] w fun e w' => e = .returned (.bool true) ∧ Below w.heap.size w w' := by
  obtain ⟨a1, n1, c1, _, _, rfl, _⟩ := id H.a
  obtain ⟨a2, n2, c2, _, _, rfl, _⟩ := id H.b
  have hre := lowered_calls ks A H.idx w H.env
  have hlx := fun (W : World) (hb : Below w.heap.size w W) => longIndex_in la ln lc P V R K Bk Rv Kv W (H.l.below hb)
  have hlm1 := fun (W : World) (hb : Below w.heap.size w W) => longMods_calls (.slice a1 n1 c1) Am 15 W (H.a.below hb)
  have hlm2 := fun (W : World) (hb : Below w.heap.size w W) => longMods_calls (.slice a2 n2 c2) Bm 15 W (H.b.below hb)
  have hsi := longIdx_short h1
  have hsm := longIdx_small h1
  have hA1 := longMods_small h3
  have hA2 := longMods_small h4
  have HH := Lib.hid H
  have HSI := Lib.hid hsi
  have how := fun (W : World) (hb : Below w.heap.size w W) => ownIndex_calls (.slice la ln lc) (enF ln P V R K Bk) W ⟨la, ln, lc, P, V, R, K, Bk, Rv, Kv, rfl, rfl, HH.out.l.below hb⟩ (by have := hsm.1; omega) (fun e he => by
    have h4 := longEn_small (hsm.2 e he)
    have h5 := longMods_small h4.2.2.1
    exact ⟨by omega, by omega⟩)
  have hom1 := fun (W : World) (hb : Below w.heap.size w W) => ownMods_calls (.slice a1 n1 c1) Am W (HH.out.a.below hb) (by omega)
  have hom2 := fun (W : World) (hb : Below w.heap.size w W) => ownMods_calls (.slice a2 n2 c2) Bm W (HH.out.b.below hb) (by omega)
  have hE := fun (W : World) (hb : Below w.heap.size w W) => HH.out.env.below hb
  rw [longII_no h1] at hlx
  rw [longI_no h3] at hlm1
  rw [longI_no h4] at hlm2
  have HAS := Lib.hid (And.intro hA1.2 hA2.2)
  have HAL := Lib.hid (And.intro hA1.1 hA2.1)
  have HI := Lib.hid HH.out.idx
  have hsA : Short Am := ⟨by omega, fun m hm => by have := hA1.2 m hm; omega⟩
  have hsB : Short Bm := ⟨by omega, fun m hm => by have := hA2.2 m hm; omega⟩
  have HSB := Lib.hid hsB
  have HSA := Lib.hid hsA
  have hcp := fun (p q : ByteArray) (hq : q.size ≤ 1000000) (W : World) (hb : Below w.heap.size w W) => capped_calls (.slice a2 n2 c2) Bm p q W (HH.out.b.below hb) (fun m hm => by have := hA2.2 m hm; omega) (by omega)
  generalize hl0 : enF ln P V R K Bk = l at *
  have hto := fun (oa : Option Addr) (on oc : Nat) P' V' R' K' B' Rv' Kv' (hOl : l = enF on P' V' R' K' B') (W : World) (hb : Below w.heap.size w W) (hO : EntsIn W oa on oc P' V' R' K' B' Rv' Kv') (rv cv : Value) (hr : ModsAt W rv Am) (hc : ModsAt W cv Bm) => to_in ks A HI.out oa on oc P' V' R' K' B' Rv' Kv' rv cv Am Bm W (hE W hb) hO (by rw [← hOl]; exact HSI.out) hr (by have := HAL.out; omega) HSA.out hc HSB.out
  have hbu := fun (oa : Option Addr) (on oc : Nat) P' V' R' K' B' Rv' Kv' (hOl : l = enF on P' V' R' K' B') (W : World) (hb : Below w.heap.size w W) (hO : EntsIn W oa on oc P' V' R' K' B' Rv' Kv') (rv : Value) (roots : List Md) (hr : ModsAt W rv roots) (hlr : roots.length ≤ 100000) => mvsBuild_in ks A HI.out oa on oc P' V' R' K' B' Rv' Kv' rv roots W (hE W hb) hO (by rw [← hOl]; exact HSI.out) hr hlr
  have hrc := fun (oa : Option Addr) (on oc : Nat) P' V' R' K' B' Rv' Kv' (hOl : l = enF on P' V' R' K' B') (W : World) (hb : Below w.heap.size w W) (hO : EntsIn W oa on oc P' V' R' K' B' Rv' Kv') (rv : Value) (roots : List Md) (hr : ModsAt W rv roots) (hlr : roots.length ≤ 100000) => grReach_in ks A HI.out oa on oc P' V' R' K' B' Rv' Kv' rv roots W (hE W hb) hO (by rw [← hOl]; exact HSI.out) hr hlr
  have HAA := Lib.hid (fun (W : World) (hb : Below w.heap.size w W) => HH.out.a.below hb)
  replace hre := Lib.hid hre
  replace hlx := Lib.hid hlx
  replace hlm1 := Lib.hid hlm1
  replace hlm2 := Lib.hid hlm2
  replace how := Lib.hid how
  replace hom1 := Lib.hid hom1
  replace hom2 := Lib.hid hom2
  replace hE := Lib.hid hE
  replace hto := Lib.hid hto
  replace hbu := Lib.hid hbu
  replace hrc := Lib.hid hrc
  replace hcp := Lib.hid hcp
  clear h1 h3 h4 hsi hsm hA1 hA2 H hl0 hsA hsB
  go_enter Tryz.func5, Tryz.ntmps5
  go_wp2_with fail
  refine hre.out.mono ?_
  rintro e w1 ⟨rfl, hB⟩
  go_wp2_with fail
  refine (hlx.out _ hB).mono ?_
  rintro e w' ⟨rfl, rfl⟩
  go_wp2_with fail
  refine (hlm1.out _ hB).mono ?_
  rintro e w' ⟨rfl, rfl⟩
  go_wp2_with fail
  refine (hlm2.out _ hB).mono ?_
  rintro e w' ⟨rfl, rfl⟩
  clear hre hlx hlm1 hlm2
  go_wp2_with fail
  refine (how.out _ hB).mono ?_
  rintro e w2 ⟨⟨ov, rfl, hOE⟩, hb⟩
  replace hB := below_step hB hb
  obtain ⟨oa, on, oc, P', V', R', K', B', Rv', Kv', rfl, hOl, hO⟩ := hOE
  have HO := Lib.hid hO
  have HOL := Lib.hid hOl
  have hC := Below.refl w2.heap.size w2
  clear hO hOl hb how
  go_wp2_with fail
  refine (hom1.out _ hB).mono ?_
  rintro e w3 ⟨⟨v3, rfl, hM3, _⟩, hb⟩
  replace hB := below_step hB hb
  replace hC := below_step hC hb
  obtain ⟨a3, n3, c3, _, _, rfl, _⟩ := id hM3
  have HM3 := Lib.hid hM3
  clear hb hM3
  go_wp2_with fail
  refine (hom2.out _ hB).mono ?_
  rintro e w4 ⟨⟨v4, rfl, hM4, _⟩, hb⟩
  replace hB := below_step hB hb
  replace hC := below_step hC hb
  obtain ⟨a4, n4, c4, _, _, rfl, _⟩ := id hM4
  have hr5 := hto.out oa on oc _ _ _ _ _ _ _ HOL.out _ hB (HO.out.below hC) _ _ (HM3.out.below hb) hM4
  rw [← HOL.out] at hr5
  replace hr5 := Lib.hid hr5
  clear hb hM4 HM3 hom2 hto
  go_wp2_with fail
  refine hr5.out.mono ?_
  rintro e w5 ⟨⟨x5, ev5, rfl, hf5, hx5, hn5⟩, hb⟩
  replace hB := below_step hB hb
  replace hC := below_step hC hb
  clear hb hr5
  rcases fault_form hf5 with ⟨h0, rfl⟩ | ⟨h0, ty, q, rfl⟩
  · obtain ⟨T, hT5, hToP⟩ := hx5 h0
    obtain ⟨hi0, hc0, hGr⟩ := toErr_parts h0
    have hTL := toP_len hGr.idx hToP
    have hl100 := hGr.idx.len
    have hGT := toP_right hGr.idx hToP
    have hse : startErr l T = (0, -1) := startErr_right hi0 hGT.at_
    have hse2 : startErr l Am = (0, -1) := startErr_right hi0 hGr.at_
    have hr6 := hbu.out oa on oc _ _ _ _ _ _ _ HOL.out _ hB (HO.out.below hC) _ _ hT5 (by omega)
    rw [← HOL.out, hse] at hr6
    unfold buildR at hr6
    rw [if_pos (by rw [hse])] at hr6
    have HY := Lib.hid (fun (m : Md) (hm : m ∈ buildL l T) => build_good hGr.idx hToP hm)
    have HYS : Hid (∀ m ∈ buildL l T, m.2.length ≤ 1000000) := Lib.hid (fun m hm => by
      obtain ⟨e, he, e1⟩ := hGT.entry (hGT.mem.1 (hGT.great.sub m hm))
      have := (HSI.out.mds e he).2
      rw [e1] at this
      exact this)
    have HRS : Hid (∀ m ∈ reachL l Am, m.2.length ≤ 1000000) := Lib.hid (fun m hm => by
      obtain ⟨e, he, e1⟩ := hGr.entry (hGr.mem.1 hm)
      have := (HSI.out.mds e he).2
      rw [e1] at this
      exact this)
    have HTS : Hid (∀ m ∈ T, m.2.length ≤ 1000000) := Lib.hid (fun m hm => by
      obtain ⟨e, he, e1⟩ := hGT.at_ m hm
      have := (HSI.out.mds e he).2
      rw [e1] at this
      exact this)
    have HIN : Hid ((reachL l Am).any (aboveB Bm) = false → ∀ m ∈ Am, m ∈ T) := Lib.hid (fun h m hm => toP_self hGr.idx hToP hm (hGr.at_ m hm) (good_of_reach hGr (fun x hx => by
      have := List.any_eq_false.1 h x hx
      simpa using this) hm))
    have HFR : Hid (∀ m ∈ T, Am.any (okFrom m) = true) := Lib.hid (fun m hm => by
      obtain ⟨r, hr, e1, e2⟩ := (toP_mem hGr.idx hToP hm).2.2
      exact List.any_eq_true.2 ⟨r, hr, by unfold okFrom; rw [decide_eq_true e1, e2]; rfl⟩)
    have HS2 := Lib.hid hse2
    have hl6 := build_len hGT
    have hl9 : (reachL l Am).length ≤ 100 := by
      have h2 : (reachL l Am).length ≤ l.length := by
        unfold reachL
        exact Nat.le_trans (List.length_filter_le _ _) (by rw [List.length_map]; exact Nat.le_refl _)
      omega
    obtain ⟨a5, n5, c5, P5, V5, rfl, e5, hc5⟩ := hT5.cells2
    have HT5 := Lib.hid e5
    have hb5n : n5 ≤ 100 := by
      have := congrArg List.length e5
      rw [mdF_length] at this
      omega
    have hD5 := Below.refl w5.heap.size w5
    replace hr6 := Lib.hid hr6
    replace hc5 := Lib.hid hc5
    clear hf5 hx5 hn5 h0 hToP hi0 hc0 hGr hTL hl100 hGT hse hse2 hT5 e5 hbu
    go_wp2_with fail
    refine hr6.out.mono ?_
    rintro e w6 ⟨⟨y6, ev6, rfl, hf6, hy6⟩, hb⟩
    obtain rfl : ev6 = .nilIface := by
      rcases fault_form hf6 with ⟨_, h⟩ | ⟨h, _⟩
      · exact h
      · exact absurd rfl h
    replace hB := below_step hB hb
    replace hC := below_step hC hb
    replace hD5 := below_step hD5 hb
    obtain ⟨a6, n6, c6, P6, V6, rfl, e6, hc6⟩ := hy6.cells2
    rw [e6] at HY HYS hl6
    rw [mdF_length] at hl6
    replace hc6 := Lib.hid hc6
    clear hf6 hy6 hb hr6 e6
    go_wp2_with fail
    go_loopw [12, 13] (fun i _ wr => ∃ k : Nat, k ≤ n6 ∧ i = .int .i64 k ∧ Below w6.heap.size w6 wr) (fun i _ _ => n6 - (intOf i).toNat)
    case atStart => exact ⟨0, Nat.zero_le _, rfl, Below.refl _ _⟩
    case round =>
      obtain ⟨k, hk, rfl, hBr⟩ := hrel
      by_cases hlt : k < n6
      · have hkn : (k : Int) < (n6 : Int) := by omega
        obtain ⟨b1, o1, ea, d0, d1⟩ := hc6.out wr hBr k hlt
        subst ea
        have hm := List.mem_of_getElem? (mdF_get n6 P6 V6 k hlt)
        have hcc := hcp.out (P6 k) (V6 k) (by rw [size_eq]; exact HYS.out _ hm) wr (below_step hB hBr)
        rw [HY.out _ hm] at hcc
        replace hcc := Lib.hid hcc
        clear hm
        go_wp2_with fail
        refine hcc.out.mono ?_
        rintro e w7 ⟨rfl, hb⟩
        replace hBr := below_step hBr hb
        clear hcc hb d0 d1
        go_wp2_with fail
        go_roundw
        case rel => exact ⟨k + 1, by omega, by go_num, hBr⟩
        case measure => simp [intOf]; omega
      · have hkn : ¬ (k : Int) < (n6 : Int) := by omega
        replace hB := below_step hB hBr
        replace hC := below_step hC hBr
        replace hD5 := below_step hD5 hBr
        clear hlt hk hBr HY HYS hc6
        go_wp2_with fail
        clear hkn
        generalize wr = w7 at *
        refine (hom1.out _ hB).mono ?_
        rintro e w8 ⟨⟨v8, rfl, hM8, _⟩, hb⟩
        replace hB := below_step hB hb
        replace hC := below_step hC hb
        replace hD5 := below_step hD5 hb
        obtain ⟨a8, n8, c8, _, _, rfl, _⟩ := id hM8
        have hr9 := hrc.out oa on oc _ _ _ _ _ _ _ HOL.out _ hB (HO.out.below hC) _ _ hM8 (by have := HAL.out; omega)
        rw [← HOL.out, HS2.out] at hr9
        unfold reachR at hr9
        rw [if_pos (by rw [HS2.out])] at hr9
        replace hr9 := Lib.hid hr9
        clear hb hM8 hom1 hrc
        go_wp2_with fail
        refine hr9.out.mono ?_
        rintro e w9 ⟨⟨y9, ev9, rfl, hf9, hy9⟩, hb⟩
        obtain rfl : ev9 = .nilIface := by
          rcases fault_form hf9 with ⟨_, h⟩ | ⟨h, _⟩
          · exact h
          · exact absurd rfl h
        replace hB := below_step hB hb
        replace hC := below_step hC hb
        replace hD5 := below_step hD5 hb
        obtain ⟨a9, n9, c9, P9, V9, rfl, e9, hc9⟩ := hy9.cells2
        rw [e9] at HRS HIN hl9
        rw [mdF_length] at hl9
        replace hc9 := Lib.hid hc9
        clear hf9 hy9 hb hr9 e9 hC HO HOL
        go_wp2_with fail
        go_loopw [15, 16, 17] (fun s i _ wr => ∃ (k : Nat) (t : Bool), k ≤ n9 ∧ i = .int .i64 k ∧ s = .bool t ∧ Hid (t = ((mdF n9 P9 V9).take k).any (aboveB Bm)) ∧ Below w9.heap.size w9 wr) (fun _ i _ _ => n9 - (intOf i).toNat)
        case atStart => exact ⟨0, false, Nat.zero_le _, rfl, rfl, Lib.hid (by simp), Below.refl _ _⟩
        case round =>
          obtain ⟨k, t, hk, rfl, rfl, hT, hBr⟩ := hrel
          by_cases hlt : k < n9
          · have hkn : (k : Int) < (n9 : Int) := by omega
            obtain ⟨b1, o1, ea, d0, d1⟩ := hc9.out wr hBr k hlt
            subst ea
            have hm := List.mem_of_getElem? (mdF_get n9 P9 V9 k hlt)
            have hcc := hcp.out (P9 k) (V9 k) (by rw [size_eq]; exact HRS.out _ hm) wr (below_step hB hBr)
            have HN : Hid ((t || aboveB Bm ((P9 k).data.toList, (V9 k).data.toList)) = ((mdF n9 P9 V9).take (k + 1)).any (aboveB Bm)) := Lib.hid (by
              rw [mdF_take_succ n9 P9 V9 k hlt, List.any_append, ← hT.out]
              simp)
            generalize aboveB Bm ((P9 k).data.toList, (V9 k).data.toList) = D at hcc HN
            replace hcc := Lib.hid hcc
            clear hm hT
            cases t
            all_goals
              go_wp2_with fail
              refine hcc.out.mono ?_
              rintro e w10 ⟨rfl, hb⟩
              replace hBr := below_step hBr hb
              clear hcc hb d0 d1
              go_wp2_with fail
              go_roundw
              case rel => exact ⟨k + 1, _, by omega, by go_num, rfl, HN, hBr⟩
              case measure => simp [intOf]; omega
          · have hkn : ¬ (k : Int) < (n9 : Int) := by omega
            have HIN2 : Hid (t = false → ∀ m ∈ Am, m ∈ T) := Lib.hid (fun h => HIN.out (by
              rw [← h, hT.out, List.take_of_length_le (by rw [mdF_length]; omega)]))
            replace hB := below_step hB hBr
            replace hD5 := below_step hD5 hBr
            clear hlt hk hBr HIN HRS hc9 hT
            obtain ⟨_, nA, _, PA, VA, eA, eAm, hcA⟩ := (HAA.out wr hB).cells2
            injection eA with eA1 eA2 eA3
            subst eA1 eA2 eA3
            have HAM := Lib.hid eAm
            have hb1n : n1 ≤ 15 := by
              have := congrArg List.length eAm
              rw [mdF_length] at this
              have := HAL.out
              omega
            replace hcA := Lib.hid hcA
            clear eAm HAA
            go_wp2_with fail
            clear hkn
            generalize wr = w10 at *
            go_loopw [18, 19, 20] (fun i _ _ wr => ∃ k : Nat, k ≤ n1 ∧ i = .int .i64 k ∧ Below w10.heap.size w10 wr) (fun i _ _ _ => n1 - (intOf i).toNat)
            case atStart => exact ⟨0, Nat.zero_le _, rfl, Below.refl _ _⟩
            case round =>
              obtain ⟨k, hk, rfl, hBr⟩ := hrel
              by_cases hlt : k < n1
              · have hkn : (k : Int) < (n1 : Int) := by omega
                have hDr := below_step hD5 hBr
                go_wp2_with fail
                generalize wr = w11 at *
                go_loopw [19, 20] (fun s i wq => ∃ (q : Nat) (u : Bool), q ≤ n5 ∧ i = .int .i64 q ∧ s = .bool u ∧ Hid (u = (((mdF n5 P5 V5).take q).any fun m => decide (m = ((PA k).data.toList, (VA k).data.toList)))) ∧ Below w11.heap.size w11 wq) (fun _ i _ => n5 - (intOf i).toNat)
                case atStart => exact ⟨0, false, Nat.zero_le _, rfl, rfl, Lib.hid (by simp), Below.refl _ _⟩
                case round =>
                  obtain ⟨q, u, hq, rfl, rfl, hT, hBq⟩ := hrel
                  by_cases hq2 : q < n5
                  · have hqn : (q : Int) < (n5 : Int) := by omega
                    obtain ⟨bq, oq, eq, d0, d1⟩ := (hc5).out wr (below_step hDr hBq) q hq2
                    obtain ⟨br, or', er, c0, c1⟩ := (hcA).out wr (below_step hBr hBq) k hlt
                    have hA := Lib.hid (any_mdT (P := P5) (V := V5) (m := ((PA k).data.toList, (VA k).data.toList)) hq2)
                    subst eq
                    subst er
                    cases u with
                    | true =>
                      have hN : Hid (true = (((mdF n5 P5 V5).take (q + 1)).any fun m => decide (m = ((PA k).data.toList, (VA k).data.toList)))) := Lib.hid (by rw [hA.out, ← hT.out]; rfl)
                      go_wp2_with fail
                      refine wp_region_quiet_patch (by kernel_rfl) (by kernel_rfl) ?_
                      repeat (go_big_quiet_step (fail))
                      refine wpQuiet_nil ?_
                      intro _ hw'
                      obtain ⟨⟨dq, osq⟩, hw''⟩ := hw'
                      subst hw''
                      have hb := below_patch wr dq osq
                      replace hBq := below_step hBq hb
                      clear hb
                      generalize patch wr dq osq = wq1 at hBq ⊢
                      go_wp2_with fail
                      go_roundw
                      case rel => exact ⟨q + 1, true, by omega, by go_num, rfl, hN, hBq⟩
                      case measure => simp [intOf]; omega
                    | false =>
                      have hg := Tryz.md_guard
                      have he := md_eql (P5 q) (V5 q) (PA k) (VA k)
                      obtain ⟨D, hD⟩ : ∃ D, decide (P5 q = PA k ∧ V5 q = VA k) = D := ⟨_, rfl⟩
                      have hN : Hid (D = (((mdF n5 P5 V5).take (q + 1)).any fun m => decide (m = ((PA k).data.toList, (VA k).data.toList)))) := Lib.hid (by
                        rw [hA.out, ← hT.out, Bool.false_or, ← hD, Bool.eq_iff_iff, decide_eq_true_iff, decide_eq_true_iff]
                        exact bytes_pair.symm)
                      rw [hD] at he
                      clear hD
                      go_wp2_with fail
                      have kqd0 := fun d os => cell_patch (d := d) (os := os) d0
                      have kqd1 := fun d os => cell_patch (d := d) (os := os) d1
                      have kqc0 := fun d os => cell_patch (d := d) (os := os) c0
                      have kqc1 := fun d os => cell_patch (d := d) (os := os) c1
                      refine wp_region_quiet_patch (by kernel_rfl) (by kernel_rfl) ?_
                      repeat (go_big_quiet_step (fail))
                      refine wpQuiet_nil ?_
                      intro _ hw'
                      obtain ⟨⟨dq, osq⟩, hw''⟩ := hw'
                      subst hw''
                      clear kqd0 kqd1 kqc0 kqc1
                      have hb := below_patch wr dq osq
                      replace hBq := below_step hBq hb
                      clear hb
                      generalize patch wr dq osq = wq1 at hBq ⊢
                      go_wp2_with fail
                      go_roundw
                      case rel => exact ⟨q + 1, D, by omega, by go_num, rfl, hN, hBq⟩
                      case measure => simp [intOf]; omega
                  · have hqe : q = n5 := by omega
                    have hqn : ¬ (q : Int) < (n5 : Int) := by omega
                    have hu : t = false → u = true := fun h => by
                      rw [hT.out, hqe, List.take_of_length_le (by rw [mdF_length]; exact Nat.le_refl _)]
                      exact List.any_eq_true.2 ⟨_, by rw [← HT5.out]; exact HIN2.out h _ (by rw [HAM.out]; exact List.mem_of_getElem? (mdF_get n1 PA VA k hlt)), decide_eq_true rfl⟩
                    have hBW := below_step hBr hBq
                    clear hT hq hq2 hqe
                    cases t with
                    | true =>
                      clear hu
                      go_wp2_with fail
                      go_roundw
                      case rel => exact ⟨k + 1, by omega, by go_num, hBW⟩
                      case measure => simp [intOf]; omega
                    | false =>
                      obtain rfl := hu rfl
                      clear hu
                      go_wp2_with fail
                      go_roundw
                      case rel => exact ⟨k + 1, by omega, by go_num, hBW⟩
                      case measure => simp [intOf]; omega
              · have hkn : ¬ (k : Int) < (n1 : Int) := by omega
                replace hB := below_step hB hBr
                replace hD5 := below_step hD5 hBr
                replace hcA := Lib.hid (fun W (hW : Below wr.heap.size wr W) => hcA.out W (below_step hBr hW))
                clear hlt hk hBr HIN2
                go_wp2_with fail
                clear hkn
                generalize wr = w12 at *
                go_loopw [21, 22, 23, 24] (fun i _ _ _ wr => ∃ k : Nat, k ≤ n5 ∧ i = .int .i64 k ∧ Below w12.heap.size w12 wr) (fun i _ _ _ _ => n5 - (intOf i).toNat)
                case atStart => exact ⟨0, Nat.zero_le _, rfl, Below.refl _ _⟩
                case round =>
                  obtain ⟨k, hk, rfl, hBr⟩ := hrel
                  by_cases hlt : k < n5
                  · have hkn : (k : Int) < (n5 : Int) := by omega
                    have hDr := below_step hD5 hBr
                    have hmk := List.mem_of_getElem? (mdF_get n5 P5 V5 k hlt)
                    have HTK : Hid ((V5 k).size ≤ 1000000 ∧ Am.any (okFrom ((P5 k).data.toList, (V5 k).data.toList)) = true) := Lib.hid (by
                      rw [← HT5.out] at hmk
                      exact ⟨by rw [size_eq]; exact HTS.out _ hmk, HFR.out _ hmk⟩)
                    clear hmk
                    go_wp2_with fail
                    generalize wr = w13 at *
                    go_loopw [22, 23, 24] (fun s j _ wr => ∃ (q : Nat) (u : Bool), q ≤ n1 ∧ j = .int .i64 q ∧ s = .bool u ∧ Hid (u = ((mdF n1 PA VA).take q).any (okFrom ((P5 k).data.toList, (V5 k).data.toList))) ∧ Below w13.heap.size w13 wr) (fun _ j _ _ => n1 - (intOf j).toNat)
                    case atStart => exact ⟨0, false, Nat.zero_le _, rfl, rfl, Lib.hid (by simp), Below.refl _ _⟩
                    case round =>
                      obtain ⟨q, u, hq, rfl, rfl, hT, hBq⟩ := hrel
                      by_cases hq2 : q < n1
                      · have hqn : (q : Int) < (n1 : Int) := by omega
                        obtain ⟨bq, oq, eq, d0, d1⟩ := hc5.out wr (below_step hDr hBq) k hlt
                        obtain ⟨br, or', er, y0, y1⟩ := hcA.out wr (below_step hBr hBq) q hq2
                        subst eq
                        subst er
                        have hVA : (VA q).size ≤ 1000000 := by
                          have h1 := HSA.out
                          rw [HAM.out] at h1
                          exact ((short_F h1).2 q hq2).2
                        have hVT := HTK.out.1
                        have hless := fun W => isLess_calls (VA q) (V5 k) W (by omega) (by omega)
                        obtain ⟨E, hE2⟩ : ∃ E, ((PA q).toList == (P5 k).toList) = E := ⟨_, rfl⟩
                        obtain ⟨D, hD⟩ : ∃ D, verLess (VA q).data.toList (V5 k).data.toList = D := ⟨_, rfl⟩
                        have HN : Hid ((u || (E && !D)) = ((mdF n1 PA VA).take (q + 1)).any (okFrom ((P5 k).data.toList, (V5 k).data.toList))) := Lib.hid (by
                          have hed : E = decide ((PA q).data.toList = (P5 k).data.toList) := by rw [← hE2, toList_data, toList_data, Bool.eq_iff_iff, beq_iff_eq, decide_eq_true_iff]
                          rw [mdF_take_succ n1 PA VA q hq2, List.any_append, ← hT.out, hed, ← hD]
                          simp [okFrom])
                        rw [hD] at hless
                        replace hless := Lib.hid hless
                        clear hD hT hVA hVT
                        cases u <;> cases E <;> cases D
                        all_goals
                          go_wp2_with fail
                          have kqy1 := fun d os => cell_patch (d := d) (os := os) y1
                          have kqd1 := fun d os => cell_patch (d := d) (os := os) d1
                          refine wp_region_quiet_patch (by kernel_rfl) (by kernel_rfl) ?_
                          repeat (go_big_quiet_step ((go_at_call 39; exact Calls.patch_of (hless.out _))))
                          refine wpQuiet_nil ?_
                          intro _ hw'
                          obtain ⟨⟨dq, osq⟩, hw''⟩ := hw'
                          subst hw''
                          clear kqy1 kqd1
                          have hb := below_patch wr dq osq
                          replace hBq := below_step hBq hb
                          replace d0 := Below.cell_some hb d0
                          replace y0 := Below.cell_some hb y0
                          clear hb
                          generalize patch wr dq osq = w14 at hBq d0 y0 ⊢
                          clear y1 d1
                          go_wp2_with fail
                          have kqd0 := fun d os => cell_patch (d := d) (os := os) d0
                          have kqy0 := fun d os => cell_patch (d := d) (os := os) y0
                          refine wp_region_quiet_patch (by kernel_rfl) (by kernel_rfl) ?_
                          repeat (go_big_quiet_step (fail))
                          refine wpQuiet_nil ?_
                          intro _ hw'
                          obtain ⟨⟨dq, osq⟩, hw''⟩ := hw'
                          subst hw''
                          clear kqd0 kqy0
                          have hb := below_patch w14 dq osq
                          replace hBq := below_step hBq hb
                          clear hb
                          generalize patch w14 dq osq = w15 at hBq ⊢
                          go_wp2_with fail
                          go_roundw
                          case rel => exact ⟨q + 1, _, by omega, by go_num, rfl, HN, hBq⟩
                          case measure => simp [intOf]; omega
                      · have hqe : q = n1 := by omega
                        have hqn : ¬ (q : Int) < (n1 : Int) := by omega
                        obtain rfl : u = true := by
                          rw [hT.out, hqe, List.take_of_length_le (by rw [mdF_length]; exact Nat.le_refl _), ← HAM.out]
                          exact HTK.out.2
                        have hBW := below_step hBr hBq
                        clear hT hq hq2 hqe
                        go_wp2_with fail
                        go_roundw
                        case rel => exact ⟨k + 1, by omega, by go_num, hBW⟩
                        case measure => simp [intOf]; omega
                  · have hkn : ¬ (k : Int) < (n5 : Int) := by omega
                    replace hB := below_step hB hBr
                    go_wp2_with fail
                    go_ret
                    exact ⟨rfl, hB⟩
  · obtain rfl := hn5 h0
    clear hf5 hx5 hn5 h0
    go_wp2_with fail
    go_ret
    exact ⟨rfl, hB⟩
set_option maxHeartbeats 4000000 in
theorem downCaps_calls (ks : List Nat) (A : Nat → Addr) (hks : IdxKs ks) (lv av bv : Value) (l : List En) (Am Bm : List Md) (w : World) (hE : EnvP ks A w) (hl : EntsAt w lv l) (ha : ModsAt w av Am) (hb : ModsAt w bv Bm) :
    Calls Tryz.prog 5 #[lv, av, bv] w fun e w' => e = .returned (.bool true) ∧ Below w.heap.size w w' := by
  obtain ⟨la, ln, lc, P, V, R, K, Bk, Rv, Kv, rfl, rfl, hin⟩ := hl
  have H : DnArgs ks A la ln lc P V R K Bk Rv Kv av bv Am Bm w := ⟨hks, hE, hin, ha, hb⟩
  cases h1 : longIdx (enF ln P V R K Bk)
  · by_cases h3 : longMods Am 15 = false ∧ longMods Bm 15 = false
    · exact downCaps_main ks A la ln lc P V R K Bk Rv Kv av bv Am Bm w H h1 h3.1 h3.2
    · exact downCaps_long ks A la ln lc P V R K Bk Rv Kv av bv Am Bm w H (.inr ⟨h1, h3⟩)
  · exact downCaps_long ks A la ln lc P V R K Bk Rv Kv av bv Am Bm w H (.inl h1)
end Go.Proofs.Pw
