/- Po: walks and plain laws, joined: GrCome GrWalkMath GrWalk Bel. Conditions: at each theorem. -/
import Derived.Test.YtglhgbcebpeomaaGreatDoorPok
import Derived.Test.YtglhgbcebpeomaaGreatDoorPoh
import Derived.Test.YtglhgbcebpeomaaGreatDoorPog
import Derived.Test.YtglhgbcebpeomaaGreatDoorPoi
import Derived.Deep.RegionWith
import Derived.Test.YtglhgbcebpeomaaGreatDoorPoe
import Derived.Test.YtglhgbcebpeomaaGreatDoorPob

namespace Go.Proofs.Pw
open Go.RowKit
open Go.Lib hiding intOf
structure Going (B : Nat) (w : World) (x : Value) (S : List (MB × MB)) : Prop where
  cm : w.cell? ⟨B + 1, 0, none⟩ = some (.map (some B))
  ct : w.cell? ⟨B + 2, 0, none⟩ = some x
  ft : ∀ i, w.frozen? ⟨B + 2, i, none⟩ = false
  own : w.ownsRow (B + 3) 29 2 x (S.map (·.1)).length (mdVs (S.map (·.1)))
  map : MapIs w B S
theorem Going.below {B : Nat} {w w' : World} {x : Value} {S : List (MB × MB)} (h : Going B w x S) (hb : Below w.heap.size w w') : Going B w' x S :=
  ⟨Below.cell_some hb h.cm, Below.cell_some hb h.ct, fun i => (hb.frozen (p := ⟨B + 2, i, none⟩) (show B + 2 < w.heap.size from lt_of_cell h.ct)).trans (h.ft i), ownsRow_kept h.own hb, h.map.below hb⟩
theorem Going.lt {B : Nat} {w : World} {x : Value} {S : List (MB × MB)} (h : Going B w x S) : B + 2 < w.heap.size := lt_of_cell h.ct
theorem Going.ne {B : Nat} {w : World} {x : Value} {S : List (MB × MB)} (h : Going B w x S) {k : Nat} (hk : k < B + 3) : some k ≠ x.ownBlock := fun e => by
  have := (h.own.lt k e.symm).1; omega
theorem MapIs.setCell {w : World} {b c : Nat} {S : List (MB × MB)} (h : MapIs w b S) (hc : b ≠ c) (u : Value) : MapIs (w.setCell ⟨c, 0, none⟩ u) b S := by
  obtain ⟨es, clock, h1, he⟩ := h
  exact ⟨es, clock, (Go.Deep.blk_setCell_other _ _ _ _ hc).trans h1, he⟩
def comeB (S : List (MB × MB)) (m f : MB) : List (MB × MB) := if (mapF S m).isSome then S else S ++ [(m, f)]
set_option maxHeartbeats 2000000 in
set_option maxRecDepth 100000 in
theorem come_new (B : Nat) (p v q u : ByteArray) (x : Value) (S : List (MB × MB)) (w : World) (hG : Going B w x S) (hm : (p, v) ∉ S.map (·.1)) (hl : S.length ≤ 1000000) :
    Calls Tryz.prog 211 #[.agg #[.string p, .string v], .agg #[.string q, .string u], .pointer (some ⟨B + 1, 0, none⟩), .pointer (some ⟨B + 2, 0, none⟩)] w fun e w' => e = .returned (.tuple #[]) ∧ (∃ x', Going B w' x' (S ++ [((p, v), (q, u))])) ∧ Below B w w' := by
  obtain ⟨i0, hi0, hz0, hz1, hz2⟩ := info_parts Tryz.infoMod
  have hlt := hG.lt
  have hb1 := below_alloc w (.cells #[.string p, .string v] 29)
  have hb2 := below_alloc (w.alloc (.cells #[.string p, .string v] 29)) (.cells #[.string q, .string u] 29)
  have hb3 := below_alloc ((w.alloc (.cells #[.string p, .string v] 29)).alloc (.cells #[.string q, .string u] 29)) (.cells #[.string ⟨#[]⟩, .string ⟨#[]⟩] 29)
  have hB := below_step (below_step hb1 hb2) hb3
  obtain ⟨m0, m1, _⟩ := ((box2_alloc w (.string p) (.string v) 29).below hb2).below hb3
  obtain ⟨f0, f1, _⟩ := (box2_alloc (w.alloc (.cells #[.string p, .string v] 29)) (.string q) (.string u) 29).below hb3
  simp only [World.size_alloc] at f0 f1
  have hG3 := hG.below hB
  have hmf : mapF S (p, v) = none := mapF_none.2 hm
  have hlk := fun W (h : MapIs W B S) => md_lookup h (p, v) true
  simp only [hmf, Option.getD_none, Option.isSome_none, if_true, mdV, noMB] at hlk
  have hlk2 := hlk _ ((hG.map.below hb1).below hb2)
  obtain ⟨wD, hup, hMD, hgD⟩ := md_new hG3.map (p, v) (q, u) hm
  have hBD : Below B w wD := by
    have h1 := hB.mono (show B ≤ w.heap.size by omega)
    exact h1.grown hgD (by have := hB.size; omega) (fun k hk => by cases hk; exact Nat.le_refl _)
  simp only [mdV] at hup
  have nB : ∀ k, k ≠ B → some k ≠ some B := fun k h e => h (Option.some.inj e)
  have t0 := hgD.cell hG3.ct (nB (B + 2) (by omega))
  have t1 := hgD.cell hG3.cm (nB (B + 1) (by omega))
  have tf := fun i => (hgD.frozen_far ⟨B + 2, i, none⟩ (show B + 2 < _ from lt_of_cell hG3.ct) (nB (B + 2) (by omega))).trans (hG3.ft i)
  have n0 := hgD.cell m0 (nB w.heap.size (by omega))
  have n1 := hgD.cell m1 (nB w.heap.size (by omega))
  have hownD : wD.ownsRow (B + 3) 29 2 x (S.map (·.1)).length (mdVs (S.map (·.1))) := hG3.own.kept hgD (apart_row (o := .slice (some ⟨B, 0, none⟩) 0 0) (fun b hb e => by
    have := (hG3.own.lt b e).1
    have : b = B := (Option.some.inj hb).symm
    omega))
  have hszD := hBD.size
  have nx1 : some (B + 1) ≠ x.ownBlock := hG.ne (by omega)
  have nx2 : some (B + 2) ≠ x.ownBlock := hG.ne (by omega)
  have nx0 : some B ≠ x.ownBlock := hG.ne (by omega)
  have hge := fun k (e : x.ownBlock = some k) => (hownD.lt k e).1
  have hlen : (S.map (·.1)).length ≤ 1000000 := by rw [List.length_map]; exact hl
  have hba := below_alloc wD (.cells #[.string p, .string v] 29)
  have g0 := Below.cell_some hba t0
  have g1 := Below.cell_some hba t1
  have gl : B + 2 < (wD.alloc (.cells #[.string p, .string v] 29)).heap.size := lt_of_cell g0
  have gf := fun i => (hba.frozen (p := ⟨B + 2, i, none⟩) (show B + 2 < wD.heap.size from lt_of_cell t0)).trans (tf i)
  have gM := hMD.below hba
  have HH := Lib.hid (And.intro hownD (And.intro hge (And.intro gM (And.intro nx1 (And.intro nx2 nx0)))))
  have HG := Lib.hid (And.intro g0 (And.intro g1 gf))
  have HB := Lib.hid (hBD.alloc (show B ≤ wD.heap.size by omega) (.cells #[.string p, .string v] 29))
  obtain ⟨cm, ct, _, _, _⟩ := hG
  have c1 := Below.cell_some (below_step hb1 hb2) cm
  have c2 := Below.cell_some hB cm
  have c3 := Below.cell_some hB ct
  clear hlk hmf hm hG3 hgD hMD hownD hge g0 g1 gf gM nx1 nx2 nx0 nB tf hBD hb1 hb2 hb3 hB t1
  go_enter Tryz.func211, Tryz.ntmps211
  go_wp2_with (at_builtin; refine wpList_append_own _ rfl _ _ 23 rfl (B + 3) 29 i0 (.agg #[.string ⟨#[]⟩, .string ⟨#[]⟩]) 2 32 Tryz.underlying23 hi0 hz0 hz1 hz2 rfl (by decide) _ _ _ rfl (HH.out.1.alloc _) ⟨wD.heap.size, 0, none⟩ 1 1 [.string p, .string v] rfl rfl (cell_two_new _ _ _ _) (by intro u hu; simp at hu; rcases hu with rfl | rfl <;> rfl) (by unfold maxLen; omega) (by omega) (by simp; omega) ?_; intro x' wE hownE hgE _; obtain ⟨ax, nx, cx, rfl⟩ := own_form hownE; have e0 := hgE.cell HG.out.1 HH.out.2.2.2.2.1; have ef := fun i => (hgE.frozen_far ⟨B + 2, i, none⟩ gl HH.out.2.2.2.2.1).trans (HG.out.2.2 i))
  go_end0
  have hS : (S ++ [((p, v), (q, u))]).map (·.1) = S.map (·.1) ++ [(p, v)] := by simp
  have hE1 := hgE.cell HG.out.2.1 HH.out.2.2.2.1
  have hME := HH.out.2.2.1.grown hgE HH.out.2.2.2.2.2
  have hBE : Below B w wE := HB.out.grown hgE (by have := HB.out.size; omega) (fun k hk => by have := HH.out.2.1 k hk; omega)
  have hxne : (Value.slice ax nx cx).ownBlock ≠ some (B + 2) := own_ne hownE (by omega)
  refine ⟨rfl, ⟨.slice ax nx cx, ?_, set_same _ e0, fun i => by simp [ef i], ?_, hME.setCell (by omega) _⟩, hBE.setCell (p := ⟨B + 2, 0, none⟩) (by show B ≤ B + 2; omega) _⟩
  · rw [set_blk _ (by omega)]; exact hE1
  · rw [hS]
    have h := ownsRow_set (b := B + 2) (j := 0) hownE hxne (.slice ax nx cx)
    rw [mdVs_snoc] at h
    simpa using h
set_option maxRecDepth 100000 in
theorem come_old (B : Nat) (p v q u : ByteArray) (x : Value) (S : List (MB × MB)) (w : World) (hG : Going B w x S) (hm : (p, v) ∈ S.map (·.1)) :
    Calls Tryz.prog 211 #[.agg #[.string p, .string v], .agg #[.string q, .string u], .pointer (some ⟨B + 1, 0, none⟩), .pointer (some ⟨B + 2, 0, none⟩)] w fun e w' => e = .returned (.tuple #[]) ∧ Below w.heap.size w w' := by
  have hb1 := below_alloc w (.cells #[.string p, .string v] 29)
  have hb2 := below_alloc (w.alloc (.cells #[.string p, .string v] 29)) (.cells #[.string q, .string u] 29)
  have hB := below_step hb1 hb2
  obtain ⟨m0, m1, _⟩ := (box2_alloc w (.string p) (.string v) 29).below hb2
  have hlk := md_lookup ((hG.map.below hb1).below hb2) (p, v) true
  obtain ⟨f, hf⟩ : ∃ f, mapF S (p, v) = some f := by
    cases h : mapF S (p, v) with
    | none => exact absurd hm (mapF_none.1 h)
    | some f => exact ⟨f, rfl⟩
  simp only [hf, Option.getD_some, Option.isSome_some, if_true, mdV] at hlk
  have hB3 := hB.alloc hB.size (.cells #[.string f.1, .string f.2] 29)
  have cm := hG.cm
  have c1 := Below.cell_some hB cm
  clear hf hm hG hb1 hb2 cm
  go_enter Tryz.func211, Tryz.ntmps211
  go_wp2_with fail
  go_end0
  exact ⟨rfl, hB3⟩
theorem come_calls (B : Nat) (p v q u : ByteArray) (x : Value) (S : List (MB × MB)) (w : World) (hG : Going B w x S) (hl : S.length ≤ 1000000) :
    Calls Tryz.prog 211 #[.agg #[.string p, .string v], .agg #[.string q, .string u], .pointer (some ⟨B + 1, 0, none⟩), .pointer (some ⟨B + 2, 0, none⟩)] w fun e w' => e = .returned (.tuple #[]) ∧ (∃ x', Going B w' x' (comeB S (p, v) (q, u))) ∧ Below B w w' := by
  unfold comeB
  cases h : mapF S (p, v) with
  | none => exact come_new B p v q u x S w hG (mapF_none.1 h) hl
  | some f =>
    have hm : (p, v) ∈ S.map (·.1) := by
      by_cases h2 : (p, v) ∈ S.map (·.1)
      · exact h2
      · rw [mapF_none.2 h2] at h; cases h
    refine (come_old B p v q u x S w hG hm).mono ?_
    rintro e w' ⟨rfl, hb⟩
    exact ⟨rfl, ⟨x, hG.below hb⟩, hb.mono (Nat.le_of_lt (Nat.lt_of_le_of_lt (Nat.le_add_right B 2) hG.lt))⟩
end Go.Proofs.Pw

namespace Go.Proofs.Pw
open Go.Lib hiding intOf
abbrev Came := List (Md × Md)
def noMd : Md := ([], [])
def comeS (S : Came) (m f : Md) : Came := if m ∈ S.map (·.1) then S else S ++ [(m, f)]
def comeAll (S : Came) (f : Md) (l : List Md) : Came := l.foldl (fun S m => comeS S m f) S
def reqsOf (l : List En) (m : Md) : List Md := (enAt l (findE l m).toNat).reqs
def atS (S : Came) (i : Nat) : Md := (S.getD i (noMd, noMd)).1
theorem atS_get {S : Came} {i : Nat} (h : i < S.length) : ∃ f, S[i]? = some (atS S i, f) := by
  unfold atS
  rw [List.getD_eq_getElem?_getD, List.getElem?_eq_getElem h]
  exact ⟨S[i].2, rfl⟩
theorem atS_mem {S : Came} {i : Nat} (h : i < S.length) : atS S i ∈ S.map (·.1) := by
  obtain ⟨f, hf⟩ := atS_get h
  exact List.mem_map.2 ⟨_, List.mem_of_getElem? hf, rfl⟩
def stepS (l : List En) (S : Came) (i : Nat) : Came := comeAll S (atS S i) (reqsOf l (atS S i))
def runS (l : List En) : Nat → Came → Nat → Came
  | 0, S, _ => S
  | n + 1, S, i => if i < S.length then runS l n (stepS l S i) (i + 1) else S
def walkS (l : List En) (roots : List Md) : Came := runS l (l.length + 1) (comeAll [] noMd roots) 0
theorem comeS_pre (S : Came) (m f : Md) : S <+: comeS S m f := by
  unfold comeS
  split
  · exact List.prefix_refl _
  · exact List.prefix_append _ _
theorem comeS_mem (S : Came) (m f x : Md) : x ∈ (comeS S m f).map (·.1) ↔ x ∈ S.map (·.1) ∨ x = m := by
  unfold comeS
  split
  · rename_i h
    exact ⟨fun hx => .inl hx, fun hx => by rcases hx with hx | rfl <;> assumption⟩
  · simp [or_comm, eq_comm]
theorem comeS_nd {S : Came} (m f : Md) (h : (S.map (·.1)).Nodup) : ((comeS S m f).map (·.1)).Nodup := by
  unfold comeS
  split
  · exact h
  · rename_i hm
    rw [List.map_append, List.nodup_append]
    exact ⟨h, by simp, fun a ha b hb => by simp at hb; subst hb; exact fun e => hm (e ▸ ha)⟩
theorem comeAll_cons (S : Came) (f m : Md) (l : List Md) : comeAll S f (m :: l) = comeAll (comeS S m f) f l := rfl
theorem comeAll_snoc (S : Came) (f m : Md) (l : List Md) : comeAll S f (l ++ [m]) = comeS (comeAll S f l) m f := by simp [comeAll]
theorem comeAll_pre (f : Md) : ∀ (l : List Md) (S : Came), S <+: comeAll S f l
  | [], _ => List.prefix_refl _
  | m :: l, S => (comeS_pre S m f).trans (comeAll_pre f l _)
theorem comeAll_mem (f x : Md) : ∀ (l : List Md) (S : Came), x ∈ (comeAll S f l).map (·.1) ↔ x ∈ S.map (·.1) ∨ x ∈ l
  | [], S => by simp [comeAll]
  | m :: l, S => by
    rw [comeAll_cons, comeAll_mem f x l, comeS_mem, List.mem_cons, or_assoc]
theorem comeAll_nd (f : Md) : ∀ (l : List Md) (S : Came), (S.map (·.1)).Nodup → ((comeAll S f l).map (·.1)).Nodup
  | [], _, h => h
  | m :: l, _, h => comeAll_nd f l _ (comeS_nd m f h)
theorem comeAll_new (f : Md) : ∀ (l : List Md) (S : Came) (k : Nat) (p : Md × Md), (comeAll S f l)[k]? = some p → S[k]? = some p ∨ (S.length ≤ k ∧ p.2 = f ∧ p.1 ∈ l)
  | [], S, k, p, h => .inl h
  | m :: l, S, k, p, h => by
    rcases comeAll_new f l (comeS S m f) k p h with h1 | ⟨h1, h2, h3⟩
    · unfold comeS at h1
      split at h1
      · exact .inl h1
      · by_cases hk : k < S.length
        · rw [List.getElem?_append_left hk] at h1
          exact .inl h1
        · rw [List.getElem?_append_right (by omega)] at h1
          have hk2 : k - S.length = 0 := by
            have := (List.getElem?_eq_some_iff.1 h1).1
            simp at this; omega
          rw [hk2] at h1
          simp at h1
          exact .inr ⟨by omega, by rw [← h1], by rw [← h1]; simp⟩
    · exact .inr ⟨Nat.le_trans (comeS_pre S m f).length_le h1, h2, by simp [h3]⟩
structure Walked (l : List En) (roots : List Md) (S : Came) (i : Nat) : Prop where
  nd : (S.map (·.1)).Nodup
  all : ∀ m ∈ S.map (·.1), Reached l roots m
  start : ∀ m ∈ roots, m ∈ S.map (·.1)
  done : ∀ j, j < i → j < S.length → ∀ r ∈ reqsOf l (atS S j), r ∈ S.map (·.1)
  by_ : ∀ k p, S[k]? = some p → (p.2 = noMd ∧ p.1 ∈ roots) ∨ ∃ j, j < k ∧ p.2 = atS S j ∧ p.1 ∈ reqsOf l (atS S j)
theorem reqsOf_entry {l : List En} (h : RightI l) {e : En} (he : e ∈ l) : reqsOf l e.md = e.reqs := by
  unfold reqsOf
  have h0 : ¬ findE l e.md < 0 := fun hn => findE_lt.1 hn e he rfl
  obtain ⟨k, hk, hl, e1⟩ := findE_nat h0
  rw [hk]
  show (enAt l k).reqs = _
  rw [h.one (enAt_mem hl) he e1]
theorem atS_pre {S T : Came} (h : S <+: T) {i : Nat} (hi : i < S.length) : atS T i = atS S i := by
  obtain ⟨R, rfl⟩ := h
  unfold atS
  rw [List.getD_eq_getElem?_getD, List.getD_eq_getElem?_getD, List.getElem?_append_left hi]
theorem walked_start {l : List En} {roots : List Md} : Walked l roots (comeAll [] noMd roots) 0 := by
  refine ⟨comeAll_nd _ _ _ (by simp), fun m hm => ?_, fun m hm => (comeAll_mem _ _ _ _).2 (.inr hm), fun j hj => absurd hj (Nat.not_lt_zero _), fun k p hp => ?_⟩
  · rcases (comeAll_mem _ _ _ _).1 hm with h | h
    · simp at h
    · exact .root h
  · rcases comeAll_new _ _ _ k p hp with h | ⟨_, h1, h2⟩
    · simp at h
    · exact .inl ⟨h1, h2⟩
theorem walked_step {l : List En} {roots : List Md} {S : Came} {i : Nat} (hG : RightG l roots) (h : Walked l roots S i) (hi : i < S.length) : Walked l roots (stepS l S i) (i + 1) := by
  have hpre := comeAll_pre (atS S i) (reqsOf l (atS S i)) S
  refine ⟨comeAll_nd _ _ _ h.nd, fun m hm => ?_, fun m hm => (comeAll_mem _ _ _ _).2 (.inl (h.start m hm)), fun j hj hjl r hr => ?_, fun k p hp => ?_⟩
  · rcases (comeAll_mem _ _ _ _).1 hm with h1 | h1
    · exact h.all m h1
    · have hR := h.all _ (atS_mem hi)
      obtain ⟨e, he, e1⟩ := hG.entry hR
      rw [← e1] at hR h1
      rw [reqsOf_entry hG.idx he] at h1
      exact .step he hR h1
  · unfold stepS at hr ⊢
    rw [comeAll_mem]
    have hjS : j < S.length := by omega
    rw [atS_pre hpre hjS] at hr
    by_cases e : j = i
    · subst e; exact .inr hr
    · exact .inl (h.done j (by omega) hjS r hr)
  · rcases comeAll_new _ _ _ k p hp with h1 | ⟨h1, h2, h3⟩
    · rcases h.by_ k p h1 with h2 | ⟨j, hj, h2, h3⟩
      · exact .inl h2
      · have hk := (List.getElem?_eq_some_iff.1 h1).1
        refine .inr ⟨j, hj, ?_⟩
        unfold stepS
        rw [atS_pre hpre (by omega)]
        exact ⟨h2, h3⟩
    · refine .inr ⟨i, by omega, ?_⟩
      unfold stepS
      rw [atS_pre hpre hi]
      exact ⟨h2, h3⟩
theorem nodup_len {α : Type} [DecidableEq α] : ∀ (a b : List α), a.Nodup → (∀ x ∈ a, x ∈ b) → a.length ≤ b.length
  | [], b, _, _ => Nat.zero_le _
  | x :: a, b, hn, hs => by
    rw [List.nodup_cons] at hn
    have hx := hs x (by simp)
    have h1 := nodup_len a (b.erase x) hn.2 (fun y hy => by
      have hne : y ≠ x := fun e => hn.1 (e ▸ hy)
      exact (List.mem_erase_of_ne hne).2 (hs y (by simp [hy])))
    rw [List.length_erase_of_mem hx] at h1
    have := List.length_pos_of_mem hx
    rw [List.length_cons]
    omega
theorem Walked.len {l : List En} {roots : List Md} {S : Came} {i : Nat} (hG : RightG l roots) (h : Walked l roots S i) : S.length ≤ l.length := by
  have := nodup_len (S.map (·.1)) (l.map (·.md)) h.nd (fun m hm => by
    obtain ⟨e, he, e1⟩ := hG.entry (h.all m hm)
    exact List.mem_map.2 ⟨e, he, e1⟩)
  simpa using this
theorem runS_done {l : List En} : ∀ (n : Nat) {S : Came} {i : Nat}, S.length ≤ i → runS l n S i = S
  | 0, _, _, _ => rfl
  | n + 1, S, i, h => by rw [runS, if_neg (by omega)]
theorem runS_walked {l : List En} {roots : List Md} (hG : RightG l roots) : ∀ (n : Nat) {S : Came} {i : Nat}, Walked l roots S i → l.length ≤ n + i → Walked l roots (runS l n S i) (runS l n S i).length
  | 0, S, i, h, hn => by
    have hl := h.len hG
    show Walked l roots S S.length
    exact ⟨h.nd, h.all, h.start, fun j _ hj => h.done j (by omega) hj, h.by_⟩
  | n + 1, S, i, h, hn => by
    rw [runS]
    by_cases hi : i < S.length
    · rw [if_pos hi]
      exact runS_walked hG n (walked_step hG h hi) (by omega)
    · rw [if_neg hi]
      exact ⟨h.nd, h.all, h.start, fun j hj hjl => h.done j (by omega) hjl, h.by_⟩
theorem walkS_walked {l : List En} {roots : List Md} (hG : RightG l roots) : Walked l roots (walkS l roots) (walkS l roots).length := runS_walked hG _ walked_start (by omega)
theorem walkS_mem {l : List En} {roots : List Md} (hG : RightG l roots) (m : Md) : m ∈ (walkS l roots).map (·.1) ↔ Reached l roots m := by
  have h := walkS_walked hG
  refine ⟨h.all m, fun hm => ?_⟩
  refine reached_closed h.start (fun e he hT r hr => ?_) hm
  obtain ⟨p, hp, e1⟩ := List.mem_map.1 hT
  obtain ⟨j, hj⟩ := List.getElem?_of_mem hp
  have hjl := (List.getElem?_eq_some_iff.1 hj).1
  have ha : atS (walkS l roots) j = e.md := by
    unfold atS
    rw [List.getD_eq_getElem?_getD, hj]
    exact e1
  refine h.done j hjl hjl r ?_
  rw [ha, reqsOf_entry hG.idx he]
  exact hr
end Go.Proofs.Pw

namespace Go.Proofs.Pw
open Go.RowKit
open Go.Lib hiding intOf
def mbT (m : MB) : Md := (m.1.data.toList, m.2.data.toList)
theorem mbT_inj {a b : MB} : mbT a = mbT b ↔ a = b := by
  refine ⟨fun h => ?_, fun h => by rw [h]⟩
  unfold mbT at h
  rw [Prod.mk.injEq] at h
  exact Prod.ext (bytes_eq.1 h.1) (bytes_eq.1 h.2)
def cameOf (S : List (MB × MB)) : Came := S.map fun p => (mbT p.1, mbT p.2)
theorem cameOf_length (S : List (MB × MB)) : (cameOf S).length = S.length := by simp [cameOf]
theorem cameOf_mem {S : List (MB × MB)} {m : MB} : mbT m ∈ (cameOf S).map (·.1) ↔ m ∈ S.map (·.1) := by
  unfold cameOf
  rw [List.map_map]
  constructor
  · intro h
    obtain ⟨p, hp, e⟩ := List.mem_map.1 h
    exact List.mem_map.2 ⟨p, hp, mbT_inj.1 e⟩
  · intro h
    obtain ⟨p, hp, e⟩ := List.mem_map.1 h
    exact List.mem_map.2 ⟨p, hp, by show mbT p.1 = _; rw [e]⟩
theorem mapF_isSome {S : List (MB × MB)} {m : MB} : (mapF S m).isSome = true ↔ m ∈ S.map (·.1) := by
  constructor
  · intro h
    by_cases h2 : m ∈ S.map (·.1)
    · exact h2
    · rw [mapF_none.2 h2] at h; cases h
  · intro h
    cases h2 : mapF S m with
    | none => exact absurd h (mapF_none.1 h2)
    | some f => rfl
theorem cameOf_come (S : List (MB × MB)) (m f : MB) : cameOf (comeB S m f) = comeS (cameOf S) (mbT m) (mbT f) := by
  unfold comeB comeS
  by_cases h : m ∈ S.map (·.1)
  · rw [if_pos (mapF_isSome.2 h), if_pos (cameOf_mem.2 h)]
  · rw [if_neg (fun h2 => h (mapF_isSome.1 h2)), if_neg (fun h2 => h (cameOf_mem.1 h2))]
    simp [cameOf]
theorem comeAll_len (f : Md) : ∀ (l : List Md) (S : Came), (comeAll S f l).length ≤ S.length + l.length
  | [], S => by simp [comeAll]
  | m :: l, S => by
    rw [comeAll_cons]
    have h := comeAll_len f l (comeS S m f)
    have h2 : (comeS S m f).length ≤ S.length + 1 := by unfold comeS; split <;> simp
    rw [List.length_cons]; omega
theorem cell_new1 (w : World) (v : Value) (t : TypeId) {N : Nat} (h : w.heap.size = N) : (w.alloc (.cells #[v] t)).cell? ⟨N, 0, none⟩ = some v ∧ ∀ i, (w.alloc (.cells #[v] t)).frozen? ⟨N, i, none⟩ = false := by
  subst h
  exact ⟨by simp, fun i => by simp⟩
theorem Going.drew {B : Nat} {w : World} {x : Value} {S : List (MB × MB)} (h : Going B w x S) : Going B w.drew x S := h.below (Below.refl _ w).drew
theorem Going.row {B : Nat} {w : World} {x : Value} {S : List (MB × MB)} (h : Going B w x S) {i : Nat} (hi : i < S.length) :
    ∃ b o c P V, x = .slice (some ⟨b, o, none⟩) S.length c ∧ (P, V) = (S[i]).1 ∧ w.cell? ⟨b, o + i * 2, none⟩ = some (.string P) ∧ w.cell? ⟨b, o + i * 2 + 1, none⟩ = some (.string V) := by
  obtain ⟨a, n, cap, P, V, e1, e2, h3, h4, h5⟩ := modsAt_own h.own
  have hl : n = S.length := by have := congrArg List.length e2; rw [mdF_length] at this; rw [← this]; simp [mdTs]
  obtain ⟨b, o, rfl, c0, c1⟩ := h5 i (by omega)
  refine ⟨b, o, cap, P i, V i, by rw [e1, hl], ?_, c0, c1⟩
  have h6 := mdF_get n P V i (by omega)
  rw [← e2] at h6
  apply mbT_inj.1
  have h7 : (mdTs (S.map (·.1)))[i]? = some (mbT (S[i]).1) := by simp [mdTs, mbT, List.getElem?_eq_getElem hi]
  rw [h7] at h6
  exact (Option.some.inj h6).symm
theorem atS_came {S : List (MB × MB)} {i : Nat} (hi : i < S.length) : atS (cameOf S) i = mbT (S[i]).1 := by
  unfold atS cameOf
  rw [List.getD_eq_getElem?_getD, List.getElem?_map, List.getElem?_eq_getElem hi]
  rfl
set_option maxHeartbeats 4000000 in
set_option maxRecDepth 100000 in
theorem grWalk_in (a : Option Addr) (n cap : Nat) (P V : Nat → ByteArray) (R : Nat → List Md) (K : Nat → List Str) (Bk : Nat → Bool) (Rv Kv : Nat → Value) (rv : Value) (roots : List Md) (w : World) (h : EntsIn w a n cap P V R K Bk Rv Kv) (hr : ModsAt w rv roots) (hl : roots.length ≤ 100000) (hn : n ≤ 1000) (hR : ∀ j, j < n → (R j).length ≤ 1000) (hG : RightG (enF n P V R K Bk) roots) :
    Calls Tryz.prog 138 #[.slice a n cap, rv] w fun e w' => (∃ x S, e = .returned (.tuple #[x, .map (some w.heap.size)]) ∧ Going w.heap.size w' x S ∧ cameOf S = walkS (enF n P V R K Bk) roots) ∧ Below w.heap.size w w' := by
  obtain ⟨ar, rn, rc, P2, V2, rfl, rfl, h5, h6, h7⟩ := hr
  rw [mdF_length] at hl
  have hb1 := below_alloc w (.map #[] 0)
  have hb2 := below_alloc (w.alloc (.map #[] 0)) (.cells #[.map (some w.heap.size)] 190)
  have hb3 := below_alloc ((w.alloc (.map #[] 0)).alloc (.cells #[.map (some w.heap.size)] 190)) (.cells #[.slice none 0 0] 23)
  have hB := below_step (below_step hb1 hb2) hb3
  have hGo : Going w.heap.size (((w.alloc (.map #[] 0)).alloc (.cells #[.map (some w.heap.size)] 190)).alloc (.cells #[.slice none 0 0] 23)) (.slice none 0 0) [] := by
    refine ⟨?_, ?_, fun i => ?_, World.ownsRow_nil _ _ _ _, ((mapIs_made w).below hb2).below hb3⟩
    · have := Below.cell_some hb3 (cell_new1 (w.alloc (.map #[] 0)) (.map (some w.heap.size)) 190 (N := w.heap.size + 1) (by simp)).1
      exact this
    · exact (cell_new1 _ (.slice none 0 0) 23 (N := w.heap.size + 2) (by simp)).1
    · exact (cell_new1 _ (.slice none 0 0) 23 (N := w.heap.size + 2) (by simp)).2 i
  have H := Lib.hid h
  have HG := Lib.hid hG
  have hRR := Lib.hid hR
  replace h7 := Lib.hid h7
  clear h hG hb1 hb2 hb3 h5 h6 hR
  have hmk := fun W => run_makeMap (P := Tryz.prog) 190 W
  go_enter Tryz.func138, Tryz.ntmps138
  go_wp2_with fail
  generalize hw1 : ((w.alloc (.map #[] 0)).alloc (.cells #[.map (some w.heap.size)] 190)).alloc (.cells #[.slice none 0 0] 23) = w1 at *
  clear hw1
  go_loopw [18] (fun i wr => ∃ k : Nat, k ≤ rn ∧ i = .int .i64 k ∧ ∃ x S, Hid (Going w.heap.size wr x S) ∧ Below w.heap.size w wr ∧ Hid (cameOf S = comeAll [] noMd ((mdF rn P2 V2).take k))) (fun i _ => rn - (intOf i).toNat)
  case atStart => exact ⟨0, Nat.zero_le _, rfl, _, [], Lib.hid hGo, hB, Lib.hid rfl⟩
  case round =>
    obtain ⟨k, hk, rfl, x, S, hGo, hBr, hC⟩ := hrel
    by_cases hlt : k < rn
    · have hkn : (k : Int) < (rn : Int) := by omega
      obtain ⟨b1, o1, ea, c0, c1⟩ := h7.out k hlt
      replace c0 := hBr.cell (lt_of_cell c0) |>.trans c0
      replace c1 := hBr.cell (lt_of_cell c1) |>.trans c1
      have hba := below_alloc wr (.cells #[.string (P2 k), .string (V2 k)] 29)
      obtain ⟨y0, y1, _⟩ := box2_alloc wr (.string (P2 k)) (.string (V2 k)) 29
      have hSl : S.length ≤ 100000 := by
        have h1 := comeAll_len noMd ((mdF rn P2 V2).take k) []
        rw [← hC.out, cameOf_length, List.length_take, mdF_length] at h1
        simp at h1; omega
      have hcm := come_calls w.heap.size (P2 k) (V2 k) ⟨#[]⟩ ⟨#[]⟩ x S (wr.alloc (.cells #[.string (P2 k), .string (V2 k)] 29)) (hGo.out.below hba) (by omega)
      have hN : Hid (cameOf (comeB S (P2 k, V2 k) (⟨#[]⟩, ⟨#[]⟩)) = comeAll [] noMd ((mdF rn P2 V2).take (k + 1))) := Lib.hid (by
        rw [cameOf_come, hC.out, mdF_take_succ rn P2 V2 k hlt, comeAll_snoc]
        rfl)
      have hB2 : Below w.heap.size w (wr.alloc (.cells #[.string (P2 k), .string (V2 k)] 29)) := hBr.alloc hBr.size _
      subst ea
      replace hcm := Lib.hid hcm
      clear hC hba
      go_wp2_with fail
      refine hcm.out.mono ?_
      rintro e w3 ⟨rfl, ⟨x', hG'⟩, hb3⟩
      have hG' := Lib.hid hG'
      go_wp2_with fail
      go_roundw
      case rel => exact ⟨k + 1, by omega, by go_num, x', _, hG', hB2.trans hb3, hN⟩
      case measure => simp [intOf]; omega
    · obtain rfl : rn = k := by omega
      rw [mdF_take_all] at hC
      have hW := walked_start (l := enF n P V R K Bk) (roots := mdF rn P2 V2)
      rw [← hC.out] at hW
      have hrun : walkS (enF n P V R K Bk) (mdF rn P2 V2) = runS (enF n P V R K Bk) (n + 1) (cameOf S) 0 := by
        unfold walkS
        rw [enF_length, hC.out]
      have HW := Lib.hid hW
      have HR := Lib.hid hrun
      clear hW hrun hC hlt hk hB
      go_wp2_with fail
      go_loopw [11] (fun i wr => ∃ k : Nat, i = .int .i64 k ∧ ∃ x S, Hid (Going w.heap.size wr x S) ∧ Below w.heap.size w wr ∧ Hid (Walked (enF n P V R K Bk) (mdF rn P2 V2) (cameOf S) k ∧ k ≤ S.length ∧ ∃ m, walkS (enF n P V R K Bk) (mdF rn P2 V2) = runS (enF n P V R K Bk) m (cameOf S) k ∧ n < m + k)) (fun i _ => n - (intOf i).toNat)
      case atStart => exact ⟨0, rfl, x, S, hGo, hBr, Lib.hid ⟨HW.out, Nat.zero_le _, n + 1, HR.out, by omega⟩⟩
      case round =>
        clear hGo hBr HW HR
        obtain ⟨k, rfl, y, T, hGo, hBr, hI⟩ := hrel
        have hTl : T.length ≤ n := by
          have h1 := hI.out.1.len HG.out
          rw [cameOf_length, enF_length] at h1; exact h1
        have ct := hGo.out.ct
        have cm := hGo.out.cm
        by_cases hlt : k < T.length
        · have hkT : (k : Int) < (T.length : Int) := by omega
          obtain ⟨b4, o4, c4, P4, V4, ex, e4, d0, d1⟩ := hGo.out.row hlt
          subst ex
          have hat : atS (cameOf T) k = mbT (P4, V4) := by rw [atS_came hlt, e4]
          have hreach := hI.out.1.all _ (atS_mem (S := cameOf T) (i := k) (by rw [cameOf_length]; exact hlt))
          obtain ⟨en, hen, hem⟩ := HG.out.entry hreach
          have hnf : ¬ findE (enF n P V R K Bk) (mbT (P4, V4)) < 0 := fun h => findE_lt.1 h en hen (by rw [hem, hat])
          obtain ⟨i, hi, hil, him⟩ := findE_nat hnf
          rw [enF_length] at hil
          have hreq : reqsOf (enF n P V R K Bk) (atS (cameOf T) k) = R i := by
            unfold reqsOf
            rw [hat, hi]
            show (enAt _ i).reqs = _
            rw [enAt_enF hil]
          have hfi := idxFind_in a n cap P V R K Bk Rv Kv P4 V4 wr (H.out.below (hBr.mono (Nat.le_refl _))) (by omega)
          rw [show (P4.data.toList, V4.data.toList) = mbT (P4, V4) from rfl, hi] at hfi
          obtain ⟨b5, o5, ea, hcell⟩ := H.out.at_ i hil
          obtain ⟨a1, n1, s1, a2, n2, s2, e1, e2⟩ := H.out.forms hil
          have hM := H.out.reqs i hil
          have hRl := hRR.out i hil
          rw [e1, e2] at hcell
          rw [e1] at hM
          obtain ⟨aM, nM, cM, P5, V5, e3, e5, _, _, hcs⟩ := hM
          injection e3 with e6 e7 e8
          subst e6 e7 e8
          rw [e5, mdF_length] at hRl
          have hin : (i : Int) < (n : Int) := by omega
          have HReq := Lib.hid (hreq.trans e5)
          have HAt := Lib.hid hat
          subst ea
          have cr := hcell.c2
          replace cr := (hBr.cell (lt_of_cell cr)).trans cr
          have hcT : k < (cameOf T).length := by rw [cameOf_length]; exact hlt
          replace hfi := Lib.hid hfi
          replace hcs := Lib.hid hcs
          replace hcT := Lib.hid hcT
          clear hcell e1 e2 e5 e4 hreach hen hem hnf hi him hreq hat
          go_wp2_with fail
          refine hfi.out.mono ?_
          rintro e w3 ⟨rfl, hb3⟩
          have hGo3 := Lib.hid (hGo.out.below hb3)
          replace cr := Below.cell_some hb3 cr
          have hB3 := below_step hBr hb3
          clear hGo hBr hb3 ct cm d0 d1 hfi
          go_wp2_with fail
          go_loopw [44] (fun j wq => ∃ q : Nat, q ≤ n1 ∧ j = .int .i64 q ∧ ∃ y2 S2, Hid (Going w.heap.size wq y2 S2) ∧ Below w.heap.size w wq ∧ Hid (cameOf S2 = comeAll (cameOf T) (mbT (P4, V4)) ((mdF n1 P5 V5).take q))) (fun j _ => n1 - (intOf j).toNat)
          case atStart => exact ⟨0, Nat.zero_le _, rfl, _, T, hGo3, hB3, Lib.hid rfl⟩
          case round =>
            clear hGo3 hB3 cr
            obtain ⟨q, hq, rfl, y2, S2, hGo2, hB2, hC2⟩ := hrel
            have hpre : cameOf T <+: cameOf S2 := by rw [hC2.out]; exact comeAll_pre _ _ _
            have hk2 : k < S2.length := by
              have := hpre.length_le
              rw [cameOf_length, cameOf_length] at this; omega
            by_cases hq2 : q < n1
            · have hqn : (q : Int) < (n1 : Int) := by omega
              obtain ⟨b6, o6, ea6, r0, r1⟩ := hcs.out q hq2
              replace r0 := (hB2.cell (lt_of_cell r0)).trans r0
              replace r1 := (hB2.cell (lt_of_cell r1)).trans r1
              obtain ⟨b7, o7, c7, P7, V7, ey2, e7, g0, g1⟩ := hGo2.out.row hk2
              have e8 : (P7, V7) = (P4, V4) := by
                apply mbT_inj.1
                rw [e7, ← atS_came hk2, atS_pre hpre hcT.out, HAt.out]
              injection e8 with e9 e10
              subst e9 e10 ey2
              have hkS : (k : Int) < (S2.length : Int) := by omega
              have hS2l : S2.length ≤ 100000 := by
                have h1 := comeAll_len (mbT (P7, V7)) ((mdF n1 P5 V5).take q) (cameOf T)
                rw [← hC2.out, cameOf_length, cameOf_length, List.length_take, mdF_length] at h1
                omega
              have hba := below_alloc wr (.cells #[.string (P5 q), .string (V5 q)] 29)
              obtain ⟨y0, y1, _⟩ := box2_alloc wr (.string (P5 q)) (.string (V5 q)) 29
              have hcm := fun W (h : Going w.heap.size W (.slice (some ⟨b7, o7, none⟩) S2.length c7) S2) => come_calls w.heap.size (P5 q) (V5 q) P7 V7 (.slice (some ⟨b7, o7, none⟩) S2.length c7) S2 W h (by omega)
              have hN : Hid (cameOf (comeB S2 (P5 q, V5 q) (P7, V7)) = comeAll (cameOf T) (mbT (P7, V7)) ((mdF n1 P5 V5).take (q + 1))) := Lib.hid (by
                rw [cameOf_come, hC2.out, mdF_take_succ n1 P5 V5 q hq2, comeAll_snoc]
                rfl)
              have hGa := hGo2.out.below hba
              have hBa : Below w.heap.size w (wr.alloc (.cells #[.string (P5 q), .string (V5 q)] 29)) := hB2.alloc hB2.size _
              have ct := hGa.ct
              replace g0 := Below.cell_some hba g0
              replace g1 := Below.cell_some hba g1
              subst ea6
              replace hcm := Lib.hid hcm
              have HGa := Lib.hid hGa
              clear hC2 hba e7 hpre hGo2 hB2 hGa hS2l hk2
              go_wp2_with fail
              generalize wr.alloc (.cells #[.string (P5 q), .string (V5 q)] 29) = wx at *
              go_region_with (go_at_call 211; refine (hcm.out _ ?_).mono ?_; exact HGa.out.drew; rintro e w5 ⟨rfl, ⟨y5, hG5⟩, hb5⟩)
              all_goals
                go_wp2_with fail
                have HG5 := Lib.hid hG5
                go_roundw
                case rel => exact ⟨q + 1, by omega, by go_num, y5, _, HG5, hBa.drew.trans hb5, hN⟩
                case measure => simp [intOf]; omega
            · obtain rfl : n1 = q := by omega
              rw [mdF_take_all] at hC2
              have hst : cameOf S2 = stepS (enF n P V R K Bk) (cameOf T) k := by
                unfold stepS
                rw [hC2.out, HAt.out, ← HReq.out, HAt.out]
              have hI2 : Hid (Walked (enF n P V R K Bk) (mdF rn P2 V2) (cameOf S2) (k + 1) ∧ k + 1 ≤ S2.length ∧ ∃ m, walkS (enF n P V R K Bk) (mdF rn P2 V2) = runS (enF n P V R K Bk) m (cameOf S2) (k + 1) ∧ n < m + (k + 1)) := Lib.hid (by
                refine ⟨by rw [hst]; exact walked_step HG.out hI.out.1 hcT.out, hk2, ?_⟩
                obtain ⟨m, hm1, hm2⟩ := hI.out.2.2
                obtain ⟨m', rfl⟩ : ∃ m', m = m' + 1 := ⟨m - 1, by omega⟩
                refine ⟨m', ?_, by omega⟩
                rw [hm1, runS, if_pos hcT.out, hst])
              have hkn2 : k < n := by omega
              clear hC2 hst hpre hcs
              go_wp2_with fail
              go_roundw
              case rel => exact ⟨k + 1, by go_num, y2, S2, hGo2, hB2, hI2⟩
              case measure => simp [intOf]; omega
        · obtain ⟨ay, ny, cy, Py, Vy, ey, el, _⟩ := modsAt_own hGo.out.own
          have hny : ny = T.length := by have := congrArg List.length el; rw [mdF_length] at this; rw [← this]; simp [mdTs]
          subst ey
          have hTk : ¬ ((k : Int) < (ny : Int)) := by omega
          clear el hny
          have hfin : Hid (cameOf T = walkS (enF n P V R K Bk) (mdF rn P2 V2)) := Lib.hid (by
            obtain ⟨m, hm1, _⟩ := hI.out.2.2
            rw [hm1, runS_done m (by rw [cameOf_length]; omega)])
          have hGo1 := hGo.out
          clear hI hGo
          go_wp2_with fail
          have kqct := fun d os => cell_patch (d := d) (os := os) ct
          have kqcm := fun d os => cell_patch (d := d) (os := os) cm
          refine wp_region_quiet_patch (by kernel_rfl) (by kernel_rfl) ?_
          repeat (go_big_quiet_step (fail))
          refine wpQuiet_nil ?_
          intro _ hw'
          obtain ⟨⟨dq, osq⟩, hw''⟩ := hw'
          subst hw''
          clear kqct kqcm
          have hb := below_patch wr dq osq
          replace hGo1 := hGo1.below hb
          replace hBr := below_step hBr hb
          clear hb
          generalize patch wr dq osq = w9 at hGo1 hBr ⊢
          go_wp2_with fail
          go_ret2
          exact ⟨⟨_, T, rfl, hGo1, hfin.out⟩, hBr⟩
end Go.Proofs.Pw

namespace Go.Proofs.Pw
open Go.RowKit
open Go.Sort (grow)
def Bel (B : Nat) (w w' : World) : Prop := Below B w w' ∧ w.drawn ≤ w'.drawn
theorem Bel.b {B : Nat} {w w' : World} (h : Bel B w w') : Below B w w' := h.1
theorem Bel.size {B : Nat} {w w' : World} (h : Bel B w w') : w.heap.size ≤ w'.heap.size := h.1.size
theorem Bel.refl (B : Nat) (w : World) : Bel B w w := ⟨Below.refl _ _, Nat.le_refl _⟩
theorem Bel.trans {B : Nat} {a b c : World} (h : Bel B a b) (k : Bel B b c) : Bel B a c := ⟨h.1.trans k.1, Nat.le_trans h.2 k.2⟩
theorem Bel.mono {B B' : Nat} {w w' : World} (h : Bel B w w') (hB : B' ≤ B) : Bel B' w w' := ⟨h.1.mono hB, h.2⟩
theorem Bel.alloc {B : Nat} {a w : World} (h : Bel B a w) (hB : B ≤ w.heap.size) (o : Obj) : Bel B a (w.alloc o) := ⟨h.1.alloc hB o, h.2⟩
theorem Bel.drewN {B : Nat} {a w : World} (h : Bel B a w) (n : Nat) : Bel B a (w.drewN n) := ⟨below_drewN h.1 n, Nat.le_trans h.2 (by show w.drawn ≤ w.drawn + n; omega)⟩
theorem Bel.drew {B : Nat} {a w : World} (h : Bel B a w) : Bel B a w.drew := ⟨h.1.drew, Nat.le_trans h.2 (by show w.drawn ≤ w.drawn + 1; omega)⟩
theorem drawn_setCell (w : World) (p : Addr) (u : Value) : (w.setCell p u).drawn = w.drawn := by
  unfold World.setCell
  first | rfl | (split <;> rfl) | (simp only []; split <;> rfl)
theorem Bel.setCell {B : Nat} {a w : World} (h : Bel B a w) {p : Addr} (hp : B ≤ p.block) (u : Value) : Bel B a (w.setCell p u) := ⟨h.1.setCell hp u, by rw [drawn_setCell]; exact h.2⟩
theorem bel_step {w w1 w2 : World} (h : Bel w.heap.size w w1) (h2 : Bel w1.heap.size w1 w2) : Bel w.heap.size w w2 := h.trans (h2.mono h.size)
theorem bel_alloc (w : World) (o : Obj) : Bel w.heap.size w (w.alloc o) := (Bel.refl _ _).alloc (Nat.le_refl _) _
theorem Bel.grown {w w' : World} (h : Bel w.heap.size w w') : ∃ q os, w' = grow (w.drewN q) os := by
  obtain ⟨⟨d, os⟩, rfl⟩ := patch_of_below h.1
  have h2 : w.drawn ≤ d := h.2
  refine ⟨d - w.drawn, os, ?_⟩
  show ({ w with heap := w.heap ++ os, drawn := d } : World) = { w with heap := w.heap ++ os, drawn := w.drawn + (d - w.drawn) }
  rw [Nat.add_sub_cancel' h2]
end Go.Proofs.Pw
