/- Ge: walks and plain laws, joined: MapMd GrCome GrWalkMath. Conditions: at each theorem. -/
import Derived.Test.YtmnojbbcaboagaaGreatDoorGei
import Derived.MapKept
import Derived.Carry
import Derived.DeepKeys3
import Derived.Laws.Entries
import Derived.Test.YtmnojbbcaboagaaGreatDoorGem
import Derived.Test.YtmnojbbcaboagaaGreatDoorGep

namespace Go.Proofs.Pw
open Go.RowKit
open Go.Lib hiding intOf
abbrev MB := ByteArray × ByteArray
def mdV (m : MB) : Value := .agg #[.string m.1, .string m.2]
def noMB : MB := (⟨#[]⟩, ⟨#[]⟩)
def mapF (S : List (MB × MB)) (k : MB) : Option MB := (S.find? fun p => decide (k = p.1)).map (·.2)
def MapIs (w : World) (b : Nat) (S : List (MB × MB)) : Prop :=
  ∃ es clock, w.heap[b]? = some (.map es clock) ∧ es.toList.map (fun e => (e.key, e.val)) = S.map fun p => (mdV p.1, mdV p.2)
theorem mdV_equal (k m : MB) (w : World) : (Op.equal 47 (mdV k) (mdV m)).run Tryz.prog w = .ok (decide (k = m)) w := by
  have h := md_equal k.1 k.2 m.1 m.2 w
  have e : decide (k.1 = m.1 ∧ k.2 = m.2) = decide (k = m) := by
    exact decide_eq_decide.2 (Prod.ext_iff (x := k) (y := m)).symm
  rw [e] at h
  exact h
theorem run_findAsking_md (k : MB) (w : World) : ∀ (es : List MapEntry) (S : List (MB × MB)) (i : Nat), es.map (fun e => (e.key, e.val)) = S.map (fun p => (mdV p.1, mdV p.2)) →
    ∃ r, (Instr.findAsking 47 (mdV k) es i).run Tryz.prog w = .ok r w ∧ r.map (·.2) = (mapF S k).map mdV
  | [], [], i, _ => ⟨none, rfl, rfl⟩
  | [], _ :: _, i, h => by cases h
  | _ :: _, [], i, h => by cases h
  | e :: es, p :: S, i, h => by
    rw [List.map_cons, List.map_cons] at h
    injection h with h1 h2
    injection h1 with h3 h4
    have hq := mdV_equal k p.1 w
    unfold Instr.findAsking mapF
    rw [List.find?_cons, h3]
    by_cases hk : k = p.1
    · rw [decide_eq_true hk] at hq
      simp only [decide_eq_true hk]
      refine ⟨some (i, e.val), ?_, by simp [h4]⟩
      simp only [Sem.run_bind, hq, Result.andThen_ok, if_true, Sem.run_pure]
    · rw [decide_eq_false hk] at hq
      simp only [decide_eq_false hk]
      obtain ⟨r, hr, e2⟩ := run_findAsking_md k w es S (i + 1) h2
      refine ⟨r, ?_, e2⟩
      simp only [Sem.run_bind, hq, Result.andThen_ok, Bool.false_eq_true, if_false, hr]
theorem run_findKey_md (k : MB) (w : World) (es : List MapEntry) (S : List (MB × MB)) (h : es.map (fun e => (e.key, e.val)) = S.map (fun p => (mdV p.1, mdV p.2))) :
    ∃ r, (Instr.findKey 47 (mdV k) es).run Tryz.prog w = .ok r w ∧ r.map (·.2) = (mapF S k).map mdV := by
  unfold Instr.findKey
  simp only [Sem.run_bind, run_underlying Tryz.md_fields, Result.andThen_ok]
  cases es with
  | nil =>
    cases S with
    | nil => exact ⟨none, rfl, rfl⟩
    | cons _ _ => cases h
  | cons e es =>
    have : Instr.findNow (.struct (Tryz.prog.fieldsOf 47)) (mdV k) (e :: es) 0 = none := rfl
    rw [this]
    exact run_findAsking_md k w _ S 0 h
theorem md_part0 (p q : ByteArray) (w : World) : (part 9 #[.string p, .string q] 0).run Tryz.prog w = .ok (.string p) w := by
  have hu := Tryz.isAgg9
  have hs := Tryz.sizeOf9
  simp [part, hu, hs]
theorem md_part1 (p q : ByteArray) (w : World) : (part 9 #[.string p, .string q] 1).run Tryz.prog w = .ok (.string q) w := by
  have hu := Tryz.isAgg9
  have hs := Tryz.sizeOf9
  simp [part, hu, hs]
theorem run_checkKey_str (em : Bool) (n : Nat) (p : ByteArray) (w : World) : (Instr.checkKey em (n + 1) 9 (.string p)).run Tryz.prog w = .ok () w := by
  have hs := Tryz.underlying9
  rw [Instr.checkKey]
  simp only [Sem.run_bind, run_underlying hs, Result.andThen_ok]
  rfl
theorem run_checkKey_md (em : Bool) (k : MB) (w : World) : (Instr.checkKey em 10000 47 (mdV k)).run Tryz.prog w = .ok () w := by
  have hu := Tryz.underlying47
  unfold mdV
  rw [show (10000 : Nat) = 9998 + 1 + 1 from rfl, Instr.checkKey]
  simp only [Sem.run_bind, run_underlying hu, Result.andThen_ok]
  rw [← Array.forIn_toList]
  simp only [List.forIn_cons, List.forIn_nil, Sem.run_bind, Sem.run_pure, if_pos (show "Path" ≠ "_" by decide), if_pos (show "Ver" ≠ "_" by decide), md_part0, md_part1, run_checkKey_str, Result.andThen_ok]
theorem mapF_none {S : List (MB × MB)} {k : MB} : mapF S k = none ↔ k ∉ S.map (·.1) := by
  unfold mapF
  rw [Option.map_eq_none_iff, List.find?_eq_none]
  constructor
  · intro h hm
    obtain ⟨p, hp, e⟩ := List.mem_map.1 hm
    exact h p hp (by simp [e])
  · intro h p hp
    simp only [decide_eq_true_eq]
    exact fun e => h (e ▸ List.mem_map.2 ⟨p, hp, rfl⟩)
theorem run_zero_md (w : World) : (zeroValue 47).run Tryz.prog w = .ok (mdV noMB) w := Tryz.zeroValue47 w
theorem md_lookup {w : World} {b : Nat} {S : List (MB × MB)} (h : MapIs w b S) (k : MB) (c : Bool) :
    (Instr.lookup 108 (.map (some b)) (mdV k) c).run Tryz.prog w = .ok (if c then .tuple #[mdV ((mapF S k).getD noMB), .bool (mapF S k).isSome] else mdV ((mapF S k).getD noMB)) w := by
  obtain ⟨es, clock, hb, he⟩ := h
  obtain ⟨r, hr, e⟩ := run_findKey_md k w es.toList S he
  unfold Instr.lookup
  simp only [Sem.run_bind, run_underlying Tryz.underlying108, Result.andThen_ok, MapKept.run_getObj_map hb, Sem.run_pure, run_checkKey_md, hr]
  cases r with
  | none =>
    rw [Option.map_none] at e
    have e' : mapF S k = none := by
      cases hm : mapF S k with
      | none => rfl
      | some _ => rw [hm] at e; cases e
    rw [e']
    simp only [Sem.run_bind, run_zero_md, Result.andThen_ok, Sem.run_pure]
    cases c <;> rfl
  | some jv =>
    cases hm : mapF S k with
    | none => rw [hm] at e; cases e
    | some m =>
      rw [hm] at e
      have e2 : jv.2 = mdV m := Option.some.inj e
      obtain ⟨j, v⟩ := jv
      simp only at e2
      subst e2
      simp only [Sem.run_bind, Result.andThen_ok, Sem.run_pure]
      cases c <;> rfl
theorem md_new {w : World} {b : Nat} {S : List (MB × MB)} (h : MapIs w b S) (k v : MB) (hk : k ∉ S.map (·.1)) :
    ∃ w', (Instr.mapUpdate 108 (.map (some b)) (mdV k) (mdV v)).run Tryz.prog w = .ok () w' ∧ MapIs w' b (S ++ [(k, v)]) ∧ w.grownBy w' (some b) := by
  obtain ⟨es, clock, hb, he⟩ := h
  obtain ⟨r, hr, e⟩ := run_findKey_md k w es.toList S he
  have hn : r = none := by
    rw [mapF_none.2 hk] at e
    cases r with
    | none => rfl
    | some _ => cases e
  subst hn
  have hh := MapKept.heap_set (o' := .map (es.push { key := mdV k, val := mdV v, born := clock }) (clock + 1)) hb
  refine ⟨{ w with heap := w.heap.setIfInBounds b (.map (es.push { key := mdV k, val := mdV v, born := clock }) (clock + 1)) }, ?_, ⟨_, _, hh.1, ?_⟩, ⟨rfl, rfl, rfl, by simp, fun i _ hi => hh.2 i (fun e => hi (by rw [e]))⟩⟩
  · unfold Instr.mapUpdate
    simp only [Sem.run_bind, run_underlying Tryz.underlying108, Result.andThen_ok, MapKept.run_getObj_map hb, run_checkKey_md, hr, MapKept.run_setObj_map _ hb]
  · simp [he]
theorem MapIs.grown {w w' : World} {b : Nat} {S : List (MB × MB)} {row : Option Nat} (h : MapIs w b S) (hg : w.grownBy w' row) (hne : some b ≠ row) : MapIs w' b S := by
  obtain ⟨es, clock, hb, he⟩ := h
  have hl : b < w.heap.size := (Array.getElem?_eq_some_iff.1 hb).1
  exact ⟨es, clock, by rw [hg.block b hl hne]; exact hb, he⟩
theorem MapIs.below {w w' : World} {b : Nat} {S : List (MB × MB)} (h : MapIs w b S) (hb : Below w.heap.size w w') : MapIs w' b S := by
  obtain ⟨es, clock, h1, he⟩ := h
  have hl : b < w.heap.size := (Array.getElem?_eq_some_iff.1 h1).1
  exact ⟨es, clock, by rw [hb.block b hl]; exact h1, he⟩
theorem mapIs_made (w : World) : MapIs (w.alloc (.map #[] 0)) w.heap.size [] := ⟨#[], 0, Go.Deep.blk_alloc_new w _, rfl⟩
end Go.Proofs.Pw

namespace Go.Proofs.Pw
open Go.RowKit
open Go.Lib hiding intOf
structure Going (B : Nat) (w : World) (x : Value) (S : List (MB × MB)) : Prop where
  cm : w.cell? ⟨B + 1, 0, none⟩ = some (.map (some B))
  ct : w.cell? ⟨B + 2, 0, none⟩ = some x
  ft : ∀ i, w.frozen? ⟨B + 2, i, none⟩ = false
  own : w.ownsRow (B + 3) 47 2 x (S.map (·.1)).length (mdVs (S.map (·.1)))
  map : MapIs w B S
theorem Going.below {B : Nat} {w w' : World} {x : Value} {S : List (MB × MB)} (h : Going B w x S) (hb : Below w.heap.size w w') : Going B w' x S :=
  ⟨Below.cell_some hb h.cm, Below.cell_some hb h.ct, fun i => (hb.frozen (p := ⟨B + 2, i, none⟩) (show B + 2 < w.heap.size from lt_of_cell h.ct)).trans (h.ft i), ownsRow_kept h.own hb, h.map.below hb⟩
theorem Going.lt {B : Nat} {w : World} {x : Value} {S : List (MB × MB)} (h : Going B w x S) : B + 2 < w.heap.size := lt_of_cell h.ct
theorem Going.ne {B : Nat} {w : World} {x : Value} {S : List (MB × MB)} (h : Going B w x S) {k : Nat} (hk : k < B + 3) : some k ≠ x.ownBlock := fun e => by
  have := (h.own.lt k e.symm).1; omega
theorem MapIs.setCell {w : World} {b c : Nat} {S : List (MB × MB)} (h : MapIs w b S) (hc : b ≠ c) (u : Value) : MapIs (w.setCell ⟨c, 0, none⟩ u) b S := by
  obtain ⟨es, clock, h1, he⟩ := h
  exact ⟨es, clock, (Go.Deep.blk_setCell_other _ _ _ _ hc).trans h1, he⟩
def comeB (S : List (MB × MB)) (m f : MB) : List (MB × MB) := if (mapF S m).isSome then S else S ++ [(m, f)]
set_option maxHeartbeats 2000000 in
set_option maxRecDepth 100000 in
theorem come_new (B : Nat) (p v q u : ByteArray) (x : Value) (S : List (MB × MB)) (w : World) (hG : Going B w x S) (hm : (p, v) ∉ S.map (·.1)) (hl : S.length ≤ 1000000) :
    Calls Tryz.prog 126 #[.agg #[.string p, .string v], .agg #[.string q, .string u], .pointer (some ⟨B + 1, 0, none⟩), .pointer (some ⟨B + 2, 0, none⟩)] w fun e w' => e = .returned (.tuple #[]) ∧ (∃ x', Going B w' x' (S ++ [((p, v), (q, u))])) ∧ Below B w w' := by
  obtain ⟨i0, hi0, hz0, hz1, hz2⟩ := info_parts Tryz.infoMod
  have hlt := hG.lt
  have hb1 := below_alloc w (.cells #[.string p, .string v] 47)
  have hb2 := below_alloc (w.alloc (.cells #[.string p, .string v] 47)) (.cells #[.string q, .string u] 47)
  have hb3 := below_alloc ((w.alloc (.cells #[.string p, .string v] 47)).alloc (.cells #[.string q, .string u] 47)) (.cells #[.string ⟨#[]⟩, .string ⟨#[]⟩] 47)
  have hB := below_step (below_step hb1 hb2) hb3
  obtain ⟨m0, m1, _⟩ := ((box2_alloc w (.string p) (.string v) 47).below hb2).below hb3
  obtain ⟨f0, f1, _⟩ := (box2_alloc (w.alloc (.cells #[.string p, .string v] 47)) (.string q) (.string u) 47).below hb3
  simp only [World.size_alloc] at f0 f1
  have hG3 := hG.below hB
  have hmf : mapF S (p, v) = none := mapF_none.2 hm
  have hlk := fun W (h : MapIs W B S) => md_lookup h (p, v) true
  simp only [hmf, Option.getD_none, Option.isSome_none, if_true, mdV, noMB] at hlk
  have hlk2 := hlk _ ((hG.map.below hb1).below hb2)
  obtain ⟨wD, hup, hMD, hgD⟩ := md_new hG3.map (p, v) (q, u) hm
  have hBD : Below B w wD := by
    have h1 := hB.mono (show B ≤ w.heap.size by omega)
    exact h1.grown hgD (by have := hB.size; omega) (fun k hk => by cases hk; exact Nat.le_refl _)
  simp only [mdV] at hup
  have nB : ∀ k, k ≠ B → some k ≠ some B := fun k h e => h (Option.some.inj e)
  have t0 := hgD.cell hG3.ct (nB (B + 2) (by omega))
  have t1 := hgD.cell hG3.cm (nB (B + 1) (by omega))
  have tf := fun i => (hgD.frozen_far ⟨B + 2, i, none⟩ (show B + 2 < _ from lt_of_cell hG3.ct) (nB (B + 2) (by omega))).trans (hG3.ft i)
  have n0 := hgD.cell m0 (nB w.heap.size (by omega))
  have n1 := hgD.cell m1 (nB w.heap.size (by omega))
  have hownD : wD.ownsRow (B + 3) 47 2 x (S.map (·.1)).length (mdVs (S.map (·.1))) := hG3.own.kept hgD (apart_row (o := .slice (some ⟨B, 0, none⟩) 0 0) (fun b hb e => by
    have := (hG3.own.lt b e).1
    have : b = B := (Option.some.inj hb).symm
    omega))
  have hszD := hBD.size
  have nx1 : some (B + 1) ≠ x.ownBlock := hG.ne (by omega)
  have nx2 : some (B + 2) ≠ x.ownBlock := hG.ne (by omega)
  have nx0 : some B ≠ x.ownBlock := hG.ne (by omega)
  have hge := fun k (e : x.ownBlock = some k) => (hownD.lt k e).1
  have hlen : (S.map (·.1)).length ≤ 1000000 := by rw [List.length_map]; exact hl
  have hba := below_alloc wD (.cells #[.string p, .string v] 47)
  have g0 := Below.cell_some hba t0
  have g1 := Below.cell_some hba t1
  have gl : B + 2 < (wD.alloc (.cells #[.string p, .string v] 47)).heap.size := lt_of_cell g0
  have gf := fun i => (hba.frozen (p := ⟨B + 2, i, none⟩) (show B + 2 < wD.heap.size from lt_of_cell t0)).trans (tf i)
  have gM := hMD.below hba
  have HH := Lib.hid (And.intro hownD (And.intro hge (And.intro gM (And.intro nx1 (And.intro nx2 nx0)))))
  have HG := Lib.hid (And.intro g0 (And.intro g1 gf))
  have HB := Lib.hid (hBD.alloc (show B ≤ wD.heap.size by omega) (.cells #[.string p, .string v] 47))
  obtain ⟨cm, ct, _, _, _⟩ := hG
  have c1 := Below.cell_some (below_step hb1 hb2) cm
  have c2 := Below.cell_some hB cm
  have c3 := Below.cell_some hB ct
  clear hlk hmf hm hG3 hgD hMD hownD hge g0 g1 gf gM nx1 nx2 nx0 nB tf hBD hb1 hb2 hb3 hB t1
  go_enter Tryz.func126, Tryz.ntmps126
  go_wp2_with (at_builtin; refine wpList_append_own _ rfl _ _ 23 rfl (B + 3) 47 i0 (.agg #[.string ⟨#[]⟩, .string ⟨#[]⟩]) 2 32 Tryz.underlying23 hi0 hz0 hz1 hz2 rfl (by decide) _ _ _ rfl (HH.out.1.alloc _) ⟨wD.heap.size, 0, none⟩ 1 1 [.string p, .string v] rfl rfl (cell_two_new _ _ _ _) (by intro u hu; simp at hu; rcases hu with rfl | rfl <;> rfl) (by unfold maxLen; omega) (by omega) (by simp; omega) ?_; intro x' wE hownE hgE _; obtain ⟨ax, nx, cx, rfl⟩ := own_form hownE; have e0 := hgE.cell HG.out.1 HH.out.2.2.2.2.1; have ef := fun i => (hgE.frozen_far ⟨B + 2, i, none⟩ gl HH.out.2.2.2.2.1).trans (HG.out.2.2 i))
  go_end0
  have hS : (S ++ [((p, v), (q, u))]).map (·.1) = S.map (·.1) ++ [(p, v)] := by simp
  have hE1 := hgE.cell HG.out.2.1 HH.out.2.2.2.1
  have hME := HH.out.2.2.1.grown hgE HH.out.2.2.2.2.2
  have hBE : Below B w wE := HB.out.grown hgE (by have := HB.out.size; omega) (fun k hk => by have := HH.out.2.1 k hk; omega)
  have hxne : (Value.slice ax nx cx).ownBlock ≠ some (B + 2) := own_ne hownE (by omega)
  refine ⟨rfl, ⟨.slice ax nx cx, ?_, set_same _ e0, fun i => by simp [ef i], ?_, hME.setCell (by omega) _⟩, hBE.setCell (p := ⟨B + 2, 0, none⟩) (by show B ≤ B + 2; omega) _⟩
  · rw [set_blk _ (by omega)]; exact hE1
  · rw [hS]
    have h := ownsRow_set (b := B + 2) (j := 0) hownE hxne (.slice ax nx cx)
    rw [mdVs_snoc] at h
    simpa using h
set_option maxRecDepth 100000 in
theorem come_old (B : Nat) (p v q u : ByteArray) (x : Value) (S : List (MB × MB)) (w : World) (hG : Going B w x S) (hm : (p, v) ∈ S.map (·.1)) :
    Calls Tryz.prog 126 #[.agg #[.string p, .string v], .agg #[.string q, .string u], .pointer (some ⟨B + 1, 0, none⟩), .pointer (some ⟨B + 2, 0, none⟩)] w fun e w' => e = .returned (.tuple #[]) ∧ Below w.heap.size w w' := by
  have hb1 := below_alloc w (.cells #[.string p, .string v] 47)
  have hb2 := below_alloc (w.alloc (.cells #[.string p, .string v] 47)) (.cells #[.string q, .string u] 47)
  have hB := below_step hb1 hb2
  obtain ⟨m0, m1, _⟩ := (box2_alloc w (.string p) (.string v) 47).below hb2
  have hlk := md_lookup ((hG.map.below hb1).below hb2) (p, v) true
  obtain ⟨f, hf⟩ : ∃ f, mapF S (p, v) = some f := by
    cases h : mapF S (p, v) with
    | none => exact absurd hm (mapF_none.1 h)
    | some f => exact ⟨f, rfl⟩
  simp only [hf, Option.getD_some, Option.isSome_some, if_true, mdV] at hlk
  have hB3 := hB.alloc hB.size (.cells #[.string f.1, .string f.2] 47)
  have cm := hG.cm
  have c1 := Below.cell_some hB cm
  clear hf hm hG hb1 hb2 cm
  go_enter Tryz.func126, Tryz.ntmps126
  go_wp2_with fail
  go_end0
  exact ⟨rfl, hB3⟩
theorem come_calls (B : Nat) (p v q u : ByteArray) (x : Value) (S : List (MB × MB)) (w : World) (hG : Going B w x S) (hl : S.length ≤ 1000000) :
    Calls Tryz.prog 126 #[.agg #[.string p, .string v], .agg #[.string q, .string u], .pointer (some ⟨B + 1, 0, none⟩), .pointer (some ⟨B + 2, 0, none⟩)] w fun e w' => e = .returned (.tuple #[]) ∧ (∃ x', Going B w' x' (comeB S (p, v) (q, u))) ∧ Below B w w' := by
  unfold comeB
  cases h : mapF S (p, v) with
  | none => exact come_new B p v q u x S w hG (mapF_none.1 h) hl
  | some f =>
    have hm : (p, v) ∈ S.map (·.1) := by
      by_cases h2 : (p, v) ∈ S.map (·.1)
      · exact h2
      · rw [mapF_none.2 h2] at h; cases h
    refine (come_old B p v q u x S w hG hm).mono ?_
    rintro e w' ⟨rfl, hb⟩
    exact ⟨rfl, ⟨x, hG.below hb⟩, hb.mono (Nat.le_of_lt (Nat.lt_of_le_of_lt (Nat.le_add_right B 2) hG.lt))⟩
end Go.Proofs.Pw

namespace Go.Proofs.Pw
open Go.Lib hiding intOf
abbrev Came := List (Md × Md)
def noMd : Md := ([], [])
def comeS (S : Came) (m f : Md) : Came := if m ∈ S.map (·.1) then S else S ++ [(m, f)]
def comeAll (S : Came) (f : Md) (l : List Md) : Came := l.foldl (fun S m => comeS S m f) S
def reqsOf (l : List En) (m : Md) : List Md := (enAt l (findE l m).toNat).reqs
def atS (S : Came) (i : Nat) : Md := (S.getD i (noMd, noMd)).1
theorem atS_get {S : Came} {i : Nat} (h : i < S.length) : ∃ f, S[i]? = some (atS S i, f) := by
  unfold atS
  rw [List.getD_eq_getElem?_getD, List.getElem?_eq_getElem h]
  exact ⟨S[i].2, rfl⟩
theorem atS_mem {S : Came} {i : Nat} (h : i < S.length) : atS S i ∈ S.map (·.1) := by
  obtain ⟨f, hf⟩ := atS_get h
  exact List.mem_map.2 ⟨_, List.mem_of_getElem? hf, rfl⟩
def stepS (l : List En) (S : Came) (i : Nat) : Came := comeAll S (atS S i) (reqsOf l (atS S i))
def runS (l : List En) : Nat → Came → Nat → Came
  | 0, S, _ => S
  | n + 1, S, i => if i < S.length then runS l n (stepS l S i) (i + 1) else S
def walkS (l : List En) (roots : List Md) : Came := runS l (l.length + 1) (comeAll [] noMd roots) 0
theorem comeS_pre (S : Came) (m f : Md) : S <+: comeS S m f := by
  unfold comeS
  split
  · exact List.prefix_refl _
  · exact List.prefix_append _ _
theorem comeS_mem (S : Came) (m f x : Md) : x ∈ (comeS S m f).map (·.1) ↔ x ∈ S.map (·.1) ∨ x = m := by
  unfold comeS
  split
  · rename_i h
    exact ⟨fun hx => .inl hx, fun hx => by rcases hx with hx | rfl <;> assumption⟩
  · simp [or_comm, eq_comm]
theorem comeS_nd {S : Came} (m f : Md) (h : (S.map (·.1)).Nodup) : ((comeS S m f).map (·.1)).Nodup := by
  unfold comeS
  split
  · exact h
  · rename_i hm
    rw [List.map_append, List.nodup_append]
    exact ⟨h, by simp, fun a ha b hb => by simp at hb; subst hb; exact fun e => hm (e ▸ ha)⟩
theorem comeAll_cons (S : Came) (f m : Md) (l : List Md) : comeAll S f (m :: l) = comeAll (comeS S m f) f l := rfl
theorem comeAll_snoc (S : Came) (f m : Md) (l : List Md) : comeAll S f (l ++ [m]) = comeS (comeAll S f l) m f := by simp [comeAll]
theorem comeAll_pre (f : Md) : ∀ (l : List Md) (S : Came), S <+: comeAll S f l
  | [], _ => List.prefix_refl _
  | m :: l, S => (comeS_pre S m f).trans (comeAll_pre f l _)
theorem comeAll_mem (f x : Md) : ∀ (l : List Md) (S : Came), x ∈ (comeAll S f l).map (·.1) ↔ x ∈ S.map (·.1) ∨ x ∈ l
  | [], S => by simp [comeAll]
  | m :: l, S => by
    rw [comeAll_cons, comeAll_mem f x l, comeS_mem, List.mem_cons, or_assoc]
theorem comeAll_nd (f : Md) : ∀ (l : List Md) (S : Came), (S.map (·.1)).Nodup → ((comeAll S f l).map (·.1)).Nodup
  | [], _, h => h
  | m :: l, _, h => comeAll_nd f l _ (comeS_nd m f h)
theorem comeAll_new (f : Md) : ∀ (l : List Md) (S : Came) (k : Nat) (p : Md × Md), (comeAll S f l)[k]? = some p → S[k]? = some p ∨ (S.length ≤ k ∧ p.2 = f ∧ p.1 ∈ l)
  | [], S, k, p, h => .inl h
  | m :: l, S, k, p, h => by
    rcases comeAll_new f l (comeS S m f) k p h with h1 | ⟨h1, h2, h3⟩
    · unfold comeS at h1
      split at h1
      · exact .inl h1
      · by_cases hk : k < S.length
        · rw [List.getElem?_append_left hk] at h1
          exact .inl h1
        · rw [List.getElem?_append_right (by omega)] at h1
          have hk2 : k - S.length = 0 := by
            have := (List.getElem?_eq_some_iff.1 h1).1
            simp at this; omega
          rw [hk2] at h1
          simp at h1
          exact .inr ⟨by omega, by rw [← h1], by rw [← h1]; simp⟩
    · exact .inr ⟨Nat.le_trans (comeS_pre S m f).length_le h1, h2, by simp [h3]⟩
structure Walked (l : List En) (roots : List Md) (S : Came) (i : Nat) : Prop where
  nd : (S.map (·.1)).Nodup
  all : ∀ m ∈ S.map (·.1), Reached l roots m
  start : ∀ m ∈ roots, m ∈ S.map (·.1)
  done : ∀ j, j < i → j < S.length → ∀ r ∈ reqsOf l (atS S j), r ∈ S.map (·.1)
  by_ : ∀ k p, S[k]? = some p → (p.2 = noMd ∧ p.1 ∈ roots) ∨ ∃ j, j < k ∧ p.2 = atS S j ∧ p.1 ∈ reqsOf l (atS S j)
theorem reqsOf_entry {l : List En} (h : RightI l) {e : En} (he : e ∈ l) : reqsOf l e.md = e.reqs := by
  unfold reqsOf
  have h0 : ¬ findE l e.md < 0 := fun hn => findE_lt.1 hn e he rfl
  obtain ⟨k, hk, hl, e1⟩ := findE_nat h0
  rw [hk]
  show (enAt l k).reqs = _
  rw [h.one (enAt_mem hl) he e1]
theorem atS_pre {S T : Came} (h : S <+: T) {i : Nat} (hi : i < S.length) : atS T i = atS S i := by
  obtain ⟨R, rfl⟩ := h
  unfold atS
  rw [List.getD_eq_getElem?_getD, List.getD_eq_getElem?_getD, List.getElem?_append_left hi]
theorem walked_start {l : List En} {roots : List Md} : Walked l roots (comeAll [] noMd roots) 0 := by
  refine ⟨comeAll_nd _ _ _ (by simp), fun m hm => ?_, fun m hm => (comeAll_mem _ _ _ _).2 (.inr hm), fun j hj => absurd hj (Nat.not_lt_zero _), fun k p hp => ?_⟩
  · rcases (comeAll_mem _ _ _ _).1 hm with h | h
    · simp at h
    · exact .root h
  · rcases comeAll_new _ _ _ k p hp with h | ⟨_, h1, h2⟩
    · simp at h
    · exact .inl ⟨h1, h2⟩
theorem walked_step {l : List En} {roots : List Md} {S : Came} {i : Nat} (hG : RightG l roots) (h : Walked l roots S i) (hi : i < S.length) : Walked l roots (stepS l S i) (i + 1) := by
  have hpre := comeAll_pre (atS S i) (reqsOf l (atS S i)) S
  refine ⟨comeAll_nd _ _ _ h.nd, fun m hm => ?_, fun m hm => (comeAll_mem _ _ _ _).2 (.inl (h.start m hm)), fun j hj hjl r hr => ?_, fun k p hp => ?_⟩
  · rcases (comeAll_mem _ _ _ _).1 hm with h1 | h1
    · exact h.all m h1
    · have hR := h.all _ (atS_mem hi)
      obtain ⟨e, he, e1⟩ := hG.entry hR
      rw [← e1] at hR h1
      rw [reqsOf_entry hG.idx he] at h1
      exact .step he hR h1
  · unfold stepS at hr ⊢
    rw [comeAll_mem]
    have hjS : j < S.length := by omega
    rw [atS_pre hpre hjS] at hr
    by_cases e : j = i
    · subst e; exact .inr hr
    · exact .inl (h.done j (by omega) hjS r hr)
  · rcases comeAll_new _ _ _ k p hp with h1 | ⟨h1, h2, h3⟩
    · rcases h.by_ k p h1 with h2 | ⟨j, hj, h2, h3⟩
      · exact .inl h2
      · have hk := (List.getElem?_eq_some_iff.1 h1).1
        refine .inr ⟨j, hj, ?_⟩
        unfold stepS
        rw [atS_pre hpre (by omega)]
        exact ⟨h2, h3⟩
    · refine .inr ⟨i, by omega, ?_⟩
      unfold stepS
      rw [atS_pre hpre hi]
      exact ⟨h2, h3⟩
theorem nodup_len {α : Type} [DecidableEq α] : ∀ (a b : List α), a.Nodup → (∀ x ∈ a, x ∈ b) → a.length ≤ b.length
  | [], b, _, _ => Nat.zero_le _
  | x :: a, b, hn, hs => by
    rw [List.nodup_cons] at hn
    have hx := hs x (by simp)
    have h1 := nodup_len a (b.erase x) hn.2 (fun y hy => by
      have hne : y ≠ x := fun e => hn.1 (e ▸ hy)
      exact (List.mem_erase_of_ne hne).2 (hs y (by simp [hy])))
    rw [List.length_erase_of_mem hx] at h1
    have := List.length_pos_of_mem hx
    rw [List.length_cons]
    omega
theorem Walked.len {l : List En} {roots : List Md} {S : Came} {i : Nat} (hG : RightG l roots) (h : Walked l roots S i) : S.length ≤ l.length := by
  have := nodup_len (S.map (·.1)) (l.map (·.md)) h.nd (fun m hm => by
    obtain ⟨e, he, e1⟩ := hG.entry (h.all m hm)
    exact List.mem_map.2 ⟨e, he, e1⟩)
  simpa using this
theorem runS_done {l : List En} : ∀ (n : Nat) {S : Came} {i : Nat}, S.length ≤ i → runS l n S i = S
  | 0, _, _, _ => rfl
  | n + 1, S, i, h => by rw [runS, if_neg (by omega)]
theorem runS_walked {l : List En} {roots : List Md} (hG : RightG l roots) : ∀ (n : Nat) {S : Came} {i : Nat}, Walked l roots S i → l.length ≤ n + i → Walked l roots (runS l n S i) (runS l n S i).length
  | 0, S, i, h, hn => by
    have hl := h.len hG
    show Walked l roots S S.length
    exact ⟨h.nd, h.all, h.start, fun j _ hj => h.done j (by omega) hj, h.by_⟩
  | n + 1, S, i, h, hn => by
    rw [runS]
    by_cases hi : i < S.length
    · rw [if_pos hi]
      exact runS_walked hG n (walked_step hG h hi) (by omega)
    · rw [if_neg hi]
      exact ⟨h.nd, h.all, h.start, fun j hj hjl => h.done j (by omega) hjl, h.by_⟩
theorem walkS_walked {l : List En} {roots : List Md} (hG : RightG l roots) : Walked l roots (walkS l roots) (walkS l roots).length := runS_walked hG _ walked_start (by omega)
theorem walkS_mem {l : List En} {roots : List Md} (hG : RightG l roots) (m : Md) : m ∈ (walkS l roots).map (·.1) ↔ Reached l roots m := by
  have h := walkS_walked hG
  refine ⟨h.all m, fun hm => ?_⟩
  refine reached_closed h.start (fun e he hT r hr => ?_) hm
  obtain ⟨p, hp, e1⟩ := List.mem_map.1 hT
  obtain ⟨j, hj⟩ := List.getElem?_of_mem hp
  have hjl := (List.getElem?_eq_some_iff.1 hj).1
  have ha : atS (walkS l roots) j = e.md := by
    unfold atS
    rw [List.getD_eq_getElem?_getD, hj]
    exact e1
  refine h.done j hjl hjl r ?_
  rw [ha, reqsOf_entry hG.idx he]
  exact hr
end Go.Proofs.Pw
