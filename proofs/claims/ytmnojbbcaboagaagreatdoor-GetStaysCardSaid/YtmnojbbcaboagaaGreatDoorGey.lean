/- Ge: walks and plain laws, joined: DnLower SortMO AppM SlModK SlIns. Conditions: at each theorem. -/
import Derived.Test.YtmnojbbcaboagaaGreatDoorGev
import Derived.Test.YtmnojbbcaboagaaGreatDoorGex
import Derived.Test.YtmnojbbcaboagaaGreatDoorGem
import Derived.Test.YtmnojbbcaboagaaGreatDoorGer
import Derived.Test.YtmnojbbcaboagaaGreatDoorGes
import Derived.Test.YtmnojbbcaboagaaGreatDoorGei
import Derived.Laws.CopyRow
import Derived.Laws.CopyOwn
import Derived.Lib.Overlaps
import Derived.Lib.AppendZerosOnto
import Derived.Lib.SliceRun
import Derived.Deep.RegionLaw
import Derived.Deep.AppendLies
import Derived.Shelf.RegionOpenPlain

namespace Go.Proofs.Pw
open Go.RowKit
open Go.Lib hiding intOf
attribute [local go_sem] Oper.semAt_some
def okLow (l : List En) (M : Nat → Bool) (m : Md) (v : Str) : Bool := !verLess m.2 v && !M (findE l (m.1, v)).toNat
def lowF (l : List En) (M : Nat → Bool) (m : Md) : Option Str := (vsort (versL l m.1)).reverse.find? (okLow l M m)
theorem lstF_fin (n : Nat) (L : Nat → ByteArray) : lstF n L = (List.finRange n).map fun x => (L x.val).data.toList := by
  apply List.ext_getElem
  · simp [lstF]
  · intro i h1 h2
    simp [lstF]
theorem lowF_fin {l : List En} {M : Nat → Bool} {m : Md} {n : Nat} {L : Nat → ByteArray} (h : vsort (versL l m.1) = lstF n L) : lowF l M m = ((backTo n n).map fun x => (L x.val).data.toList).find? (okLow l M m) := by
  unfold lowF
  rw [h, lstF_fin, ← List.map_reverse, backTo_all]
theorem lowF_none {l : List En} {M : Nat → Bool} {m : Md} {n : Nat} {L : Nat → ByteArray} (h : vsort (versL l m.1) = lstF n L) (hA : ∀ x ∈ backTo n n, okLow l M m (L x.val).data.toList = false) : lowF l M m = none := by
  rw [lowF_fin h, List.find?_eq_none]
  intro y hy
  obtain ⟨x, hx, rfl⟩ := List.mem_map.1 hy
  rw [hA x hx]; decide
theorem lowF_some {l : List En} {M : Nat → Bool} {m : Md} {n : Nat} {L : Nat → ByteArray} (h : vsort (versL l m.1) = lstF n L) {k : Nat} {ini : List (Fin n)} {last : Fin n} (e : backTo n k = ini ++ [last]) (hA : ∀ x ∈ ini, okLow l M m (L x.val).data.toList = false) (hok : okLow l M m (L last.val).data.toList = true) : lowF l M m = some (L last.val).data.toList := by
  have h1 : backTo n n = ini ++ [last] ++ ((List.finRange n).reverse.drop k) := by
    rw [backTo_all, ← e]
    exact (List.take_append_drop k _).symm
  rw [lowF_fin h, h1, List.append_assoc, List.map_append, List.find?_append]
  have h2 : (ini.map fun x => (L x.val).data.toList).find? (okLow l M m) = none := by
    rw [List.find?_eq_none]
    intro y hy
    obtain ⟨x, hx, rfl⟩ := List.mem_map.1 hy
    rw [hA x hx]; decide
  rw [h2]
  simp [hok]
theorem keeps_below {w w' : World} (h : Below w.heap.size w w') : KeepsOthers w w' := ⟨h.size, fun i _ h1 _ => (h.block i (Array.getElem?_eq_some_iff.1 h1).1).trans h1⟩
theorem cell_blk {w : World} {a : Addr} {v : Value} (h : w.cell? a = some v) : a.block < w.heap.size := by
  rcases Nat.lt_or_ge a.block w.heap.size with h1 | h1
  · exact h1
  · have h2 : w.heap[a.block]? = none := by simp [h1]
    simp [World.cell?, h2] at h
set_option maxHeartbeats 8000000 in
set_option maxRecDepth 100000 in
theorem lower_in (ks : List Nat) (A : Nat → Addr) (a : Option Addr) (n cap : Nat) (P V : Nat → ByteArray) (R : Nat → List Md) (K : Nat → List Str) (Bk : Nat → Bool) (Rv Kv : Nat → Value) (g : Nat) (M : Nat → Bool) (p q : ByteArray) (w : World) (hE : EnvP ks A w) (h : EntsIn w a n cap P V R K Bk Rv Kv) (hs : ShortI (enF n P V R K Bk)) (hrow : MarkRow w g n M) (hq : q.size ≤ 1000000) :
    Calls Tryz.prog 147 #[.slice a n cap, .slice (some ⟨g, 0, none⟩) n n, .agg #[.string p, .string q]] w fun e w' => (∃ (v : ByteArray) (b : Bool), e = .returned (.tuple #[.agg #[.string (if b = true then p else ⟨#[]⟩), .string v], .bool b]) ∧ (if b = true then some v.data.toList else none) = lowF (enF n P V R K Bk) M (p.data.toList, q.data.toList)) ∧ Below w.heap.size w w' := by
  refine (callsIn_wide (n := 6)).1 ?_
  have hvs := fun W (hW : Below w.heap.size w W) => idxVersions_in ks A a n cap P V R K Bk Rv Kv p W (hE.below hW) (h.below hW) hs
  refine callsIn_of_wp_marks Tryz.func147 rfl trivial ?_ rfl
  simp only [Tryz.ntmps147, List.size_toArray, List.length_cons, List.length_nil, Nat.reduceAdd, Nat.reduceSub, Array.replicate_succ, Array.replicate_zero, List.push_toArray, List.append_toArray, List.nil_append, List.cons_append]
  have hB5 : Below w.heap.size w (((((w.alloc (.cells #[.slice a n cap] 22)).alloc (.cells #[.slice (some ⟨g, 0, none⟩) n n] 174)).alloc (.cells #[.string p, .string q] 47)).alloc (.cells #[.string ⟨#[]⟩, .string ⟨#[]⟩] 47)).alloc (.cells #[.bool false] 4)) := below_step (below_step (below_step (below_step (below_alloc _ _) (below_alloc _ _)) (below_alloc _ _)) (below_alloc _ _)) (below_alloc _ _)
  have z3 : (((((w.alloc (.cells #[.slice a n cap] 22)).alloc (.cells #[.slice (some ⟨g, 0, none⟩) n n] 174)).alloc (.cells #[.string p, .string q] 47)).alloc (.cells #[.string ⟨#[]⟩, .string ⟨#[]⟩] 47)).alloc (.cells #[.bool false] 4)).cell? ⟨w.heap.size, 0, none⟩ = some (.slice a n cap) := Below.cell_some (below_alloc _ _) (Below.cell_some (below_alloc _ _) (Below.cell_some (below_alloc _ _) (Below.cell_some (below_alloc _ _) (cell_new1 w (.slice a n cap) _ rfl).1)))
  have z4 : (((((w.alloc (.cells #[.slice a n cap] 22)).alloc (.cells #[.slice (some ⟨g, 0, none⟩) n n] 174)).alloc (.cells #[.string p, .string q] 47)).alloc (.cells #[.string ⟨#[]⟩, .string ⟨#[]⟩] 47)).alloc (.cells #[.bool false] 4)).cell? ⟨w.heap.size + 1, 0, none⟩ = some (.slice (some ⟨g, 0, none⟩) n n) := Below.cell_some (below_alloc _ _) (Below.cell_some (below_alloc _ _) (Below.cell_some (below_alloc _ _) (cell_new1 _ _ _ (by simp)).1))
  have z5 : Box2 (((((w.alloc (.cells #[.slice a n cap] 22)).alloc (.cells #[.slice (some ⟨g, 0, none⟩) n n] 174)).alloc (.cells #[.string p, .string q] 47)).alloc (.cells #[.string ⟨#[]⟩, .string ⟨#[]⟩] 47)).alloc (.cells #[.bool false] 4)) (w.heap.size + 1 + 1) (.string p) (.string q) := by
    have h5 := box2_alloc ((w.alloc (.cells #[.slice a n cap] 22)).alloc (.cells #[.slice (some ⟨g, 0, none⟩) n n] 174)) (.string p) (.string q) 47
    simp only [World.size_alloc] at h5
    exact (h5.below (below_alloc _ _)).below (below_alloc _ _)
  have z6 : Box2 (((((w.alloc (.cells #[.slice a n cap] 22)).alloc (.cells #[.slice (some ⟨g, 0, none⟩) n n] 174)).alloc (.cells #[.string p, .string q] 47)).alloc (.cells #[.string ⟨#[]⟩, .string ⟨#[]⟩] 47)).alloc (.cells #[.bool false] 4)) (w.heap.size + 1 + 1 + 1) (.string ⟨#[]⟩) (.string ⟨#[]⟩) := by
    have h5 := box2_alloc (((w.alloc (.cells #[.slice a n cap] 22)).alloc (.cells #[.slice (some ⟨g, 0, none⟩) n n] 174)).alloc (.cells #[.string p, .string q] 47)) (.string ⟨#[]⟩) (.string ⟨#[]⟩) 47
    simp only [World.size_alloc] at h5
    exact h5.below (below_alloc _ _)
  have z7 := cell_new1 ((((w.alloc (.cells #[.slice a n cap] 22)).alloc (.cells #[.slice (some ⟨g, 0, none⟩) n n] 174)).alloc (.cells #[.string p, .string q] 47)).alloc (.cells #[.string ⟨#[]⟩, .string ⟨#[]⟩] 47)) (.bool false) 4 (N := w.heap.size + 1 + 1 + 1 + 1) (by simp)
  have hb3 : w.heap.size < w.heap.size + 1 + 1 + 1 := by omega
  have hb7 : w.heap.size + 1 + 1 + 1 + 1 ≠ w.heap.size + 1 + 1 + 1 := by omega
  have hbl : w.heap.size ≤ w.heap.size + 1 + 1 + 1 ∧ w.heap.size ≤ w.heap.size + 1 + 1 + 1 + 1 := by omega
  have Hvs := Lib.hid hvs
  clear hvs
  gi_wp2
  generalize ((((w.alloc (.cells #[.slice a n cap] 22)).alloc (.cells #[.slice (some ⟨g, 0, none⟩) n n] 174)).alloc (.cells #[.string p, .string q] 47)).alloc (.cells #[.string ⟨#[]⟩, .string ⟨#[]⟩] 47)).alloc (.cells #[.bool false] 4) = w5 at *
  generalize w.heap.size + 1 + 1 + 1 + 1 = b7 at *
  generalize w.heap.size + 1 + 1 + 1 = b6 at *
  generalize w.heap.size + 1 + 1 = b5 at *
  generalize w.heap.size + 1 = b4 at *
  refine ⟨trivial, ?_⟩
  refine (callsIn_wide.2 (Hvs.out w5 hB5)).mono ?_
  rintro e w6 ⟨⟨v, rfl, hv⟩, hb6⟩
  obtain ⟨av, nv, cv, L, rfl, hvl, _, _, hcv⟩ := hv
  have hB6 := below_step hB5 hb6
  gi_wp2
  refine ⟨trivial, ?_⟩
  refine (back_in Fence.wide _ trivial rfl _ _ _ _).mono ?_
  rintro e w7' ⟨rfl, rfl⟩
  gi_wp2
  have hba := below_alloc w6 (.cells #[.slice av nv cv] 26)
  have hb8 := cell_new1 w6 (.slice av nv cv) 26 rfl
  have hsz : (w6.alloc (.cells #[.slice av nv cv] 26)).heap.size = w6.heap.size + 1 := World.size_alloc _ _
  have hstr : StrsB (w6.heap.size + 1) (w6.alloc (.cells #[.slice av nv cv] 26)) av nv L := by
    by_cases h0 : nv = 0
    · exact .inl h0
    · obtain ⟨b, o, e, h1⟩ := hcv 0 (by omega)
      refine .inr ⟨b, o, e, by have := cell_blk h1; simp only at this; omega, fun j hj => ?_⟩
      obtain ⟨b', o', e', h1'⟩ := hcv j hj
      rw [e] at e'
      injection e' with e'
      injection e' with e1 e2
      subst e1 e2
      exact Below.cell_some hba h1'
  generalize w6.alloc (.cells #[.slice av nv cv] 26) = w7 at *
  obtain ⟨b8, hb8e⟩ : ∃ b8, w6.heap.size = b8 := ⟨_, rfl⟩
  rw [hb8e] at hb8 hsz hstr
  simp only [hb8e]
  have hB7 := below_step hB6 hba
  have hB57 := below_step hb6 hba
  have hvm : ∀ j, j < nv → (L j).data.toList ∈ versL (enF n P V R K Bk) p.data.toList := fun j hj => ((vsort_mem _ _).1 (by rw [hvl]; exact List.mem_of_getElem? (lstF_get nv L j hj))).1
  have hnv : nv ≤ 1000000 := by
    have h1 := vsort_len (versL (enF n P V R K Bk) p.data.toList)
    rw [hvl, lstF_length] at h1
    exact Nat.le_trans h1 (versL_size hs).1
  have HV : Hid (∀ x : Fin nv, (L x.val).size ≤ 1000000 ∧ ∃ k, k < n ∧ findE (enF n P V R K Bk) (p.data.toList, (L x.val).data.toList) = (k : Int)) := Lib.hid (fun x => by
    have h1 := hvm x.val x.isLt
    refine ⟨by rw [size_eq]; exact (versL_size hs).2 _ h1, ?_⟩
    obtain ⟨e, he, h2⟩ := versL_mem.1 h1
    have h3 : ¬ findE (enF n P V R K Bk) (p.data.toList, (L x.val).data.toList) < 0 := fun h => findE_lt.1 h e he h2
    obtain ⟨k, h4, h5, _⟩ := findE_nat h3
    rw [enF_length] at h5
    exact ⟨k, h5, h4⟩)
  have hn : n ≤ 1000000 := by have := hs.len; rwa [enF_length] at this
  have hmo : Tryz.prog.follows .mixedOrders = true := by kernel_rfl
  refine wpIn_rangeFunc_ownG (α := Fin nv) rfl (by omega) (gf := 261) (lb := #[.pointer (some ⟨b8, 0, none⟩)]) rfl trivial (enters_of Tryz.func261 (by kernel_rfl) rfl)
    (back_stops Fence.wide 5 trivial rfl (by omega) b8 (b8 + 1) av nv cv L hnv w7 (by omega) (by omega) (by omega) hb8.1 hstr) belowK_t (belowK_b (by omega)) (Below.refl _ _) (fun _ => rfl)
    (fun pre W => (∀ x ∈ pre, okLow (enF n P V R K Bk) M (p.data.toList, q.data.toList) (L x.val).data.toList = false) ∧ Below w7.heap.size w7 W)
    (fun c pre W => (c = .ret ∧ ∃ ini last, pre = ini ++ [last] ∧ (∀ x ∈ ini, okLow (enF n P V R K Bk) M (p.data.toList, q.data.toList) (L x.val).data.toList = false) ∧ okLow (enF n P V R K Bk) M (p.data.toList, q.data.toList) (L last.val).data.toList = true ∧ W.cell? ⟨b6, 0, none⟩ = some (.string p) ∧ W.cell? ⟨b6, 1, none⟩ = some (.string (L last.val)) ∧ W.cell? ⟨b7, 0, none⟩ = some (.bool true)) ∧ Below w.heap.size w W)
    (OwnFrom.and (Own.from (fun s A B row hs hg hr => hs) _) (ownFrom_below (Nat.le_refl _) (Nat.le_refl _)))
    (fun c => OwnFrom.and (Own.from (fun s A B row hs hg hr => by
      obtain ⟨hc, ini, last, e1, e2, e3, e4, e5, e6⟩ := hs
      exact ⟨hc, ini, last, e1, e2, e3, cell_kept e4 hg hr, cell_kept e5 hg hr, cell_kept e6 hg hr⟩) _) (ownFrom_below (Nat.le_refl _) hB7.size))
    ⟨fun x hx => absurd hx List.not_mem_nil, Below.refl _ _⟩ ?a1 ?assign ?body ?done ?stop
  case assign =>
    intro l x W K hK
    gi_wp2
    exact hK
  case body =>
    rintro l pre x W ⟨hA, hBW⟩ _
    have hBw := below_step hB57 hBW
    have x3 := Below.cell_some hBw z3
    have x4 := Below.cell_some hBw z4
    obtain ⟨x50, x51, _⟩ := z5.below hBw
    obtain ⟨hLs, k, hkn, hfk⟩ := HV.out x
    have hless := fun W' hE' => verLess_calls ks A q (L x.val) W' hE' (by omega) (by omega)
    have hfi := fun W' (hb : Below w.heap.size w W') => idxFind_in a n cap P V R K Bk Rv Kv p (L x.val) W' (h.below hb) hn
    rw [hfk] at hfi
    have hok : okLow (enF n P V R K Bk) M (p.data.toList, q.data.toList) (L x.val).data.toList = (!verLess q.data.toList (L x.val).data.toList && !M k) := by
      unfold okLow
      rw [hfk]; rfl
    have hba8 := below_alloc W (.cells #[.string p, .string (L x.val)] 47)
    obtain ⟨y0, y1, _⟩ := box2_alloc W (.string p) (.string (L x.val)) 47
    replace x3 := Below.cell_some hba8 x3
    replace x4 := Below.cell_some hba8 x4
    have x50q := Below.cell_some hba8 x50
    have x51q := Below.cell_some hba8 x51
    have hg0 := Below.cell_some (below_step (below_step hB7 hBW) hba8) (hrow.cell hkn)
    gi_wp2
    generalize W.alloc (.cells #[.string p, .string (L x.val)] 47) = w8 at *
    have hBx := hba8
    have hfn1 : Fence.wide.fn 99 := trivial
    have hfn2 : Fence.wide.fn 125 := trivial
    have kW := Lib.hid (fun d os => below_step (below_step hB7 (below_step hBW hba8)) (below_patch w8 d os))
    cases hl : verLess q.data.toList (L x.val).data.toList with
    | true =>
      rw [hl] at hless hok
      have kqx50q := fun d os => cell_patch (d := d) (os := os) x50q
      have kqx51q := fun d os => cell_patch (d := d) (os := os) x51q
      have kqy0 := fun d os => cell_patch (d := d) (os := os) y0
      have kqy1 := fun d os => cell_patch (d := d) (os := os) y1
      refine wpIn_region_quiet_round (by kernel_rfl) (by kernel_rfl) (by kernel_rfl) ?_
      repeat (gi_big_quiet_step ((gi_at_call 99; exact callsIn_wide.2 (Calls.patch_of (hless _ (hE.below (kW.out _ _)))))))
      refine wpQuietIn_nil ?_
      intro _ hw'
      obtain ⟨⟨dq, osq⟩, hw''⟩ := hw'
      subst hw''
      clear kqx50q kqx51q kqy0 kqy1
      have hb := below_patch w8 dq osq
      replace hBx := below_step hBx hb
      clear hb
      generalize patch w8 dq osq = w9 at hBx ⊢
      gi_wp2
      refine ⟨(keeps_below hBx).from _, hBx.mono (by have := hBW.size; omega), fun y hy => ?_, below_step hBW hBx⟩
      rcases List.mem_append.1 hy with hy | hy
      · exact hA y hy
      · rw [List.mem_singleton] at hy; subst hy; rw [hok]; rfl
    | false =>
      rw [hl] at hless hok
      cases hMk : M k with
      | true =>
        rw [hMk] at hok hg0
        have kqx50q := fun d os => cell_patch (d := d) (os := os) x50q
        have kqx51q := fun d os => cell_patch (d := d) (os := os) x51q
        have kqy0 := fun d os => cell_patch (d := d) (os := os) y0
        have kqy1 := fun d os => cell_patch (d := d) (os := os) y1
        have kqx3 := fun d os => cell_patch (d := d) (os := os) x3
        have kqx4 := fun d os => cell_patch (d := d) (os := os) x4
        have kqhg0 := fun d os => cell_patch (d := d) (os := os) hg0
        refine wpIn_region_quiet_round (by kernel_rfl) (by kernel_rfl) (by kernel_rfl) ?_
        repeat (gi_big_quiet_step (first | (gi_at_call 99; exact callsIn_wide.2 (Calls.patch_of (hless _ (hE.below (kW.out _ _))))) | (gi_at_call 125; exact callsIn_wide.2 (Calls.patch_of (hfi _ (kW.out _ _))))))
        refine wpQuietIn_nil ?_
        intro _ hw'
        obtain ⟨⟨dq, osq⟩, hw''⟩ := hw'
        subst hw''
        clear kqx50q kqx51q kqy0 kqy1 kqx3 kqx4 kqhg0
        have hb := below_patch w8 dq osq
        replace hBx := below_step hBx hb
        clear hb
        generalize patch w8 dq osq = w9 at hBx ⊢
        gi_wp2
        refine ⟨(keeps_below hBx).from _, hBx.mono (by have := hBW.size; omega), fun y hy => ?_, below_step hBW hBx⟩
        rcases List.mem_append.1 hy with hy | hy
        · exact hA y hy
        · rw [List.mem_singleton] at hy; subst hy; rw [hok]; rfl
      | false =>
        rw [hMk] at hok hg0
        have kqx50q := fun d os => cell_patch (d := d) (os := os) x50q
        have kqx51q := fun d os => cell_patch (d := d) (os := os) x51q
        have kqy0 := fun d os => cell_patch (d := d) (os := os) y0
        have kqy1 := fun d os => cell_patch (d := d) (os := os) y1
        have kqx3 := fun d os => cell_patch (d := d) (os := os) x3
        have kqx4 := fun d os => cell_patch (d := d) (os := os) x4
        have kqhg0 := fun d os => cell_patch (d := d) (os := os) hg0
        refine wpIn_region_quiet_round (by kernel_rfl) (by kernel_rfl) (by kernel_rfl) ?_
        repeat (gi_big_quiet_step (first | (gi_at_call 99; exact callsIn_wide.2 (Calls.patch_of (hless _ (hE.below (kW.out _ _))))) | (gi_at_call 125; exact callsIn_wide.2 (Calls.patch_of (hfi _ (kW.out _ _))))))
        refine wpQuietIn_nil ?_
        intro _ hw'
        obtain ⟨⟨dq, osq⟩, hw''⟩ := hw'
        subst hw''
        clear kqx50q kqx51q kqy0 kqy1 kqx3 kqx4 kqhg0
        have hb := below_patch w8 dq osq
        replace hBx := below_step hBx hb
        replace y0 := Below.cell_some hb y0
        replace y1 := Below.cell_some hb y1
        clear hb
        generalize patch w8 dq osq = w9 at hBx y0 y1 ⊢
        have hBz := below_step hBw hBx
        have q6 := z6.below hBz
        obtain ⟨c60, c61, f6⟩ := id q6
        have c70 := Below.cell_some hBz z7.1
        have f7 := (hBz.frozen (p := ⟨b7, 0, none⟩) (cell_blk z7.1)).trans (z7.2 0)
        gi_wp2
        have q6' := q6.sto (.string p) (.string (L x.val))
        refine ⟨((keeps_below hBx).trans ((KeepsOthers.setCell _ _ _).trans ((KeepsOthers.setCell _ _ _).trans (KeepsOthers.setCell _ _ _)))).from _, ⟨rfl, pre, x, rfl, hA, by rw [hok]; rfl, ?_, ?_, ?_⟩, (below_sto2 (below_step hB5 hBz) hbl.1 _ _).setCell (p := ⟨b7, 0, none⟩) hbl.2 _⟩
        · rw [set_blk _ (Ne.symm hb7)]; exact q6'.c0
        · rw [set_blk _ (Ne.symm hb7)]; exact q6'.c1
        · exact set_same _ (by rw [set_blk _ hb7, set_blk _ hb7]; exact c70)
  case done =>
    rintro D ys W hD rfl ⟨hA, hBW⟩ hK
    have hBz := below_step hB57 hBW
    have q6 := z6.below hBz
    obtain ⟨c60, c61, f6⟩ := id q6
    have c70 := Below.cell_some hBz z7.1
    have f7 := (hBz.frozen (p := ⟨b7, 0, none⟩) (cell_blk z7.1)).trans (z7.2 0)
    gi_wp2
    have hK' := ((KeepsOthers.setCell W ⟨b6, 0, none⟩ (.string ⟨#[]⟩)).trans ((KeepsOthers.setCell _ ⟨b6, 1, none⟩ (.string ⟨#[]⟩)).trans (KeepsOthers.setCell _ ⟨b7, 0, none⟩ (.bool false)))).same D _ hK rfl
    refine ⟨by simp, .inl ⟨_, _, rfl, run_takeDeferred hK', ?_⟩⟩
    have q6' := q6.sto (.string ⟨#[]⟩) (.string ⟨#[]⟩)
    have hc0 := cell_kept (show _ from ((set_blk _ (Ne.symm hb7)).trans q6'.c0 : (((W.setCell ⟨b6, 0, none⟩ (.string ⟨#[]⟩)).setCell ⟨b6, 1, none⟩ (.string ⟨#[]⟩)).setCell ⟨b7, 0, none⟩ (.bool false)).cell? ⟨b6, 0, none⟩ = some (.string ⟨#[]⟩))) (grownBy_putObj' _ D (.deferred none)) (fun r e => by cases e; exact ⟨_, hK', rfl⟩)
    have hc1 := cell_kept (show _ from ((set_blk _ (Ne.symm hb7)).trans q6'.c1 : (((W.setCell ⟨b6, 0, none⟩ (.string ⟨#[]⟩)).setCell ⟨b6, 1, none⟩ (.string ⟨#[]⟩)).setCell ⟨b7, 0, none⟩ (.bool false)).cell? ⟨b6, 1, none⟩ = some (.string ⟨#[]⟩))) (grownBy_putObj' _ D (.deferred none)) (fun r e => by cases e; exact ⟨_, hK', rfl⟩)
    have hc7 := cell_kept (show (((W.setCell ⟨b6, 0, none⟩ (.string ⟨#[]⟩)).setCell ⟨b6, 1, none⟩ (.string ⟨#[]⟩)).setCell ⟨b7, 0, none⟩ (.bool false)).cell? ⟨b7, 0, none⟩ = some (.bool false) from set_same _ (by rw [set_blk _ hb7, set_blk _ hb7]; exact c70)) (grownBy_putObj' _ D (.deferred none)) (fun r e => by cases e; exact ⟨_, hK', rfl⟩)
    refine ⟨.tuple #[.agg #[.string ⟨#[]⟩, .string ⟨#[]⟩], .bool false], ?_, ⟨⟨#[]⟩, false, rfl, (lowF_none (m := (p.data.toList, q.data.toList)) hvl hA).symm⟩, ((below_sto2 (below_step hB5 hBz) hbl.1 _ _).setCell (p := ⟨b7, 0, none⟩) hbl.2 _).trans (belowK_b (w := w) (Nat.le_refl _) _ D _ _ (by have := hB7.size; omega) hK' rfl rfl)⟩
    simp [results, Tryz.f147, go_sem, hc0, hc1, hc7]
  case stop =>
    rintro D c pre W hD ⟨k, hk, rfl⟩ ⟨⟨rfl, ini, last, e1, e2, e3, c60, c61, c70⟩, hBz⟩ hK
    gi_wp2
    refine ⟨by simp, .inl ⟨_, _, rfl, run_takeDeferred hK, ?_⟩⟩
    have hc0 := cell_kept c60 (grownBy_putObj' _ D (.deferred none)) (fun r e => by cases e; exact ⟨_, hK, rfl⟩)
    have hc1 := cell_kept c61 (grownBy_putObj' _ D (.deferred none)) (fun r e => by cases e; exact ⟨_, hK, rfl⟩)
    have hc7 := cell_kept c70 (grownBy_putObj' _ D (.deferred none)) (fun r e => by cases e; exact ⟨_, hK, rfl⟩)
    refine ⟨.tuple #[.agg #[.string p, .string (L last.val)], .bool true], ?_, ⟨L last.val, true, rfl, (lowF_some (m := (p.data.toList, q.data.toList)) hvl e1 e2 e3).symm⟩, hBz.trans (belowK_b (w := w) (Nat.le_refl _) _ D _ _ (by have := hB7.size; omega) hK rfl rfl)⟩
    simp [results, Tryz.f147, go_sem, hc0, hc1, hc7]
end Go.Proofs.Pw

namespace Go.Proofs.Pw
open Go.RowKit
open Go.Proofs Go.Sort
open Go.Lib hiding intOf
theorem row_grow {w : World} {os : Array Obj} {g : Nat} {o : Obj} (h : w.heap[g]? = some o) : (grow w os).heap[g]? = some o := by
  have h1 := (Array.getElem?_eq_some_iff.1 h).1
  show (w.heap ++ os)[g]? = _
  rw [Array.getElem?_append, if_pos h1]
  exact h
theorem own_of_holds {w : World} {base e g cap : Nat} {d : Array RM} {cur : Array Value} (hg : w.heap[g]? = some (.cells cur e (0, 0))) (hs : cur.size = cap * 2) (hH : HoldsK encRM 2 w g 0 d) (hb : base ≤ g) (hc : d.size ≤ cap) (hm : cap ≤ maxLen) :
    w.ownsRow base e 2 (.slice (some ⟨g, 0, none⟩) d.size cap) d.size (mdVs (d.toList.map (·.1))) := by
  have hl : (mdVs (d.toList.map (·.1))).length = d.size * 2 := by rw [mdVs_length]; simp
  refine ⟨hl, .inr ⟨g, cap, cur, rfl, hb, hg, hc, hm, hs, ?_⟩⟩
  apply List.ext_getElem?
  intro j
  by_cases hj : j < d.size * 2
  · rw [List.getElem?_take, if_pos hj]
    have h1 := (hH j (by rw [size_flatK]; exact hj)).1
    rw [get_flatK _ _ _ _ hj, Nat.zero_add, cell_of_row w g j cur e (0, 0) hg] at h1
    have e4 : (mdVs (d.toList.map (·.1)))[j]? = some ((encRM d[j / 2]!)[j % 2]!) := by
      have hget : (d.toList.map (·.1))[j / 2]? = some (d[j / 2]!).1 := by
        have h2 : j / 2 < d.size := by omega
        rw [List.getElem?_map, List.getElem?_eq_getElem (by simpa using h2), getElem!_pos d _ h2]
        simp
      obtain ⟨q0, q1⟩ := mdVs_get hget
      rcases Nat.mod_two_eq_zero_or_one j with h2 | h2
      · rw [show j / 2 * 2 = j by omega] at q0
        rw [q0, h2]; rfl
      · rw [show j / 2 * 2 + 1 = j by omega] at q1
        rw [q1, h2]; rfl
    rw [e4, Array.getElem?_toList]
    exact h1
  · rw [List.getElem?_take, if_neg hj, List.getElem?_eq_none (by omega)]
theorem sortMO_calls (ks : List Nat) (A : Nat → Addr) (w0 w : World) (hE : EnvP ks A w0) (base : Nat) (x : Value) (L : List (ByteArray × ByteArray)) (hB : Below w0.heap.size w0 w) (hb : w0.heap.size ≤ base) (ho : w.ownsRow base 47 2 x L.length (mdVs L)) (hL : ∀ m ∈ L, OkM m) (hsz : L.length ≤ 1000000) :
    Calls Tryz.prog 66 #[x, .func (.func 67) #[] #[]] w fun e w' => e = .returned (.tuple #[]) ∧ (∃ L' : List (ByteArray × ByteArray), L'.length = L.length ∧ w'.ownsRow base 47 2 x L'.length (mdVs L') ∧ (mdTs L').Perm (mdTs L) ∧ (mdTs L').Pairwise fun a b => modCmp a b ≤ 0) ∧ Below w0.heap.size w0 w' := by
  rcases ho.2 with ⟨rfl, h0⟩ | ⟨g, cap, cur, rfl, hbg, hg, hn, hm, hcs, ht⟩
  · have : L = [] := List.eq_nil_of_length_eq_zero h0
    subst this
    refine (AnyF.slices_SortFunc_none laysSortM none 0 _ w).mono ?_
    rintro e w' ⟨rfl, rfl⟩
    exact ⟨rfl, ⟨[], rfl, World.ownsRow_nil _ _ _ _, List.Perm.refl _, List.Pairwise.nil⟩, hB⟩
  · obtain ⟨m, hd⟩ := map_subM L hL
    have hd' : (m.toArray).toList.map (·.1) = L := by simpa using hd
    have hH := holds_own (d := m.toArray) hd' ho
    have hms : m.toArray.size = L.length := by rw [← hd]; simp
    have hgw : g < w.heap.size := (Array.getElem?_eq_some_iff.1 hg).1
    have hcmp : CmpLays Tryz.prog 67 #[] encRM 2 cmpRM g 0 m.toArray.size w := by
      intro n os dk hs a b
      refine (modCompareD ks A a.1.1 a.1.2 b.1.1 b.1.2 _ (hE.below (below_sortWK hB (Nat.le_refl _) (by omega) 0 n dk os)) a.2.2 b.2.2 a.2.1 b.2.1).mono ?_
      rintro e w' ⟨rfl, hb⟩
      exact ⟨rfl, hb.grown⟩
    have h := AnyQ.slices_SortFunc laysSortM 2 Tryz.isAgg47 Tryz.sizeOf47 encRM encRM_len encRM_one cmpRM (swo_of cmpRM_ord) 67 #[] g 0 cap m.toArray w (Go.Proofs.enters_of Tryz.func67 (by kernel_rfl) rfl) hcmp hH hgw (by omega)
    rw [hms] at h
    refine h.mono ?_
    rintro e w' ⟨rfl, d', n, os, hp, hs, rfl⟩
    obtain ⟨hp1, _, hp3⟩ := hp
    have hH2 : HoldsK encRM 2 (sortWorldK encRM 2 w g 0 n d' os) g 0 d' := holdsK_sortWorldK_c encRM 2 w g 0 m.toArray d' n os hH hgw hp1
    have hsz' : d'.size = L.length := by rw [hp1]; exact hms
    have hrowg : ∃ cur', (sortWorldK encRM 2 w g 0 n d' os).heap[g]? = some (.cells cur' 47 (0, 0)) ∧ cur'.size = cap * 2 := by
      refine ⟨Go.Sort.putCells id 0 (flatK encRM 2 d') cur, ?_, by unfold Go.Sort.putCells; rw [Array.size_mapIdx]; exact hcs⟩
      have h1 : (Go.Sort.mapBlock (Go.Sort.ahead w n) g (Go.Sort.putCells id 0 (flatK encRM 2 d'))).heap[g]? = some (.cells (Go.Sort.putCells id 0 (flatK encRM 2 d') cur) 47 (0, 0)) := by
        show ((w.heap).modify g _)[g]? = _
        rw [Array.getElem?_modify, if_pos rfl, hg]
        rfl
      exact row_grow h1
    obtain ⟨cur', hg', hcs'⟩ := hrowg
    have hml : (d'.toList.map (·.1)).length = L.length := by simp [hsz']
    have hts : mdTs (d'.toList.map (·.1)) = d'.toList.map tRM := by unfold mdTs; rw [List.map_map]; rfl
    refine ⟨rfl, ⟨d'.toList.map (·.1), hml, ?_, ?_, ?_⟩, below_sortWK hB (Nat.le_refl _) (by omega) 0 n d' os⟩
    · have := own_of_holds (base := base) hg' hcs' hH2 hbg (by omega) hm
      rw [hml]
      rw [hsz'] at this
      exact this
    · rw [hts]
      have hpm := hp3
      rw [Array.extract_eq_self_of_le (show d'.size ≤ L.length by omega), Array.extract_eq_self_of_le (show m.toArray.size ≤ L.length by omega)] at hpm
      rw [← hd]
      unfold mdTs
      rw [List.map_map]
      exact hpm.map tRM
    · rw [hts, List.pairwise_map, List.pairwise_iff_getElem]
      intro i j hi hj hij
      have hj' : j < d'.size := by simpa using hj
      have h1 := hs i j (Nat.zero_le _) hij (by omega)
      unfold ltOf at h1
      rw [decide_eq_false_iff_not, getElem!_pos d' i (by omega), getElem!_pos d' j hj'] at h1
      have := cmpRM_ord.anti d'[i] d'[j]
      have := cmpRM_ord.anti d'[j] d'[i]
      show cmpRM d'.toList[i] d'.toList[j] ≤ 0
      rw [Array.getElem_toList, Array.getElem_toList]
      omega
end Go.Proofs.Pw

namespace Go.Proofs.Pw
open Go.RowKit
open Go.Lib hiding intOf
theorem app_mods (w : World) (base : Nat) (hb : base ≤ w.heap.size) (o v : Value) (L : List (ByteArray × ByteArray)) (l : List Md) (ho : w.ownsRow base 47 2 o L.length (mdVs L)) (h : ModsAt w v l) (hL : L.length ≤ 1000000) (hl : l.length ≤ 1000000) :
    ∃ o' w', (Builtin.append_ #[23, 23] 23 #[o, v]).run Tryz.prog w = .ok o' w' ∧ (∃ L', mdTs L' = mdTs L ++ l ∧ w'.ownsRow base 47 2 o' L'.length (mdVs L')) ∧ w.grownBy w' o.ownBlock := by
  obtain ⟨i0, hi, hz0, hz1, hz2⟩ := info_parts Tryz.infoMod
  obtain ⟨a, n, cap, P, V, rfl, rfl, hnc, hcap, hc⟩ := h
  rw [mdF_length] at hl
  cases a with
  | none =>
    have hn0 : n = 0 := by
      rcases Nat.eq_zero_or_pos n with h | h
      · exact h
      · obtain ⟨b, o, e, _⟩ := hc 0 h
        cases e
    subst hn0
    have hform : ∃ a m c, o = .slice a m c ∧ m ≤ c := by
      rcases ho.2 with ⟨rfl, _⟩ | ⟨g, c, cur, rfl, _, _, h1, _⟩
      · exact ⟨_, _, _, rfl, Nat.le_refl _⟩
      · exact ⟨_, _, _, rfl, h1⟩
    obtain ⟨ao, m, c, rfl, hmc⟩ := hform
    exact ⟨_, w, run_append_nothing (P := Tryz.prog) w 23 23 23 47 i0 Tryz.underlying23 hi ao m c hmc (.slice none 0 cap) (Src.ofNil w Tryz.underlying23 cap), ⟨L, by simp [mdF], ho⟩, World.grownBy.refl _ _⟩
  | some a =>
    have hnews : ∀ j u, (mdVs (mdL n P V))[j]? = some u → w.cell? (a.add j) = some u := by
      rcases Nat.eq_zero_or_pos n with h | h
      · subst h
        intro j u hu
        simp [mdL, mdVs] at hu
      · obtain ⟨b, o, e, _⟩ := hc 0 h
        injection e with e
        subst e
        exact mods_cells (fun j hj => by
          obtain ⟨b', o', e, h1, h2⟩ := hc j hj
          injection e with e
          injection e with e1 e2 _
          subst e1 e2
          exact ⟨h1, h2⟩)
    obtain ⟨kv, w', h1, h2, h3, _⟩ := run_append_own (P := Tryz.prog) w base 23 23 47 i0 (.agg #[.string ⟨#[]⟩, .string ⟨#[]⟩]) 2 32 Tryz.underlying23 hi hz0 hz1 hz2 rfl (by decide) o L.length (mdVs L) ho a n cap (mdVs (mdL n P V)) (by rw [mdVs_length, mdL_length]) hnews mdVs_one (by unfold maxLen; omega) (by omega) hb
    refine ⟨kv, w', h1, ⟨L ++ mdL n P V, by rw [← mdL_ts]; simp [mdTs], ?_⟩, h3⟩
    rw [mdVs_append, List.length_append, mdL_length]
    exact h2
end Go.Proofs.Pw

namespace Go.Proofs.Pw
open Go.RowKit
open Go.Lib hiding intOf
theorem grownBy_setRow (w : World) (g : Nat) (cs : Array Value) : w.grownBy (w.setRow g cs) (some g) :=
  ⟨rfl, rfl, rfl, by simp [World.setRow], fun k _ hk => setRow_other w g k cs (by rintro rfl; exact hk rfl)⟩
theorem grownBy_undrawn {w w1 : World} {r : Option Nat} (h : w.drew.grownBy w1 r) : w.grownBy w1 r := ⟨h.os, h.tape, h.output, h.size, h.block⟩
theorem grownBy_trans {w w1 w2 : World} {r : Option Nat} (h : w.grownBy w1 r) (k : w1.grownBy w2 r) : w.grownBy w2 r :=
  ⟨k.os.trans h.os, k.tape.trans h.tape, k.output.trans h.output, Nat.le_trans h.size k.size, fun i hi hr => (k.block i (Nat.lt_of_lt_of_le hi h.size) hr).trans (h.block i hi hr)⟩
theorem ModsAt.grownBy {w w' : World} {v : Value} {l : List Md} {r : Option Nat} (h : ModsAt w v l) (hg : w.grownBy w' r) (hr : ∀ q n m, v = .slice (some q) n m → some q.block ≠ r) : ModsAt w' v l := by
  obtain ⟨a, n, cap, P, V, rfl, h2, h3, h4, h5⟩ := h
  refine ⟨a, n, cap, P, V, rfl, h2, h3, h4, fun j hj => ?_⟩
  obtain ⟨b, o, rfl, e1, e2⟩ := h5 j hj
  have hb : some b ≠ r := hr _ _ _ rfl
  exact ⟨b, o, rfl, hg.cell e1 hb, hg.cell e2 hb⟩
theorem splice_length {α : Type} {L cs : List α} {o : Nat} (h : o + cs.length ≤ L.length) : (splice L o cs).length = L.length := by
  unfold splice; simp; omega
theorem splice_get {α : Type} {L cs : List α} {o : Nat} (h : o + cs.length ≤ L.length) (j : Nat) : (splice L o cs)[j]? = if o ≤ j ∧ j < o + cs.length then cs[j - o]? else L[j]? := by
  unfold splice
  by_cases h1 : j < o
  · rw [List.getElem?_append_left (by simp; omega), List.getElem?_take, if_pos h1, if_neg (by omega)]
  · rw [List.getElem?_append_right (by simp; omega)]
    simp only [List.length_take]
    rw [show j - min o L.length = j - o by omega]
    by_cases h2 : j < o + cs.length
    · rw [List.getElem?_append_left (by omega), if_pos (by omega)]
    · rw [List.getElem?_append_right (by omega), if_neg (by omega), List.getElem?_drop]
      congr 1; omega
set_option maxHeartbeats 2000000 in
set_option maxRecDepth 100000 in
theorem cloneM_calls (v : Value) (l : List Md) (w : World) (h : ModsAt w v l) (hl : l.length ≤ 1000000) :
    Calls Tryz.prog 151 #[v] w fun e w' => ∃ v' L, e = .returned v' ∧ l = mdTs L ∧ w'.ownsRow w.heap.size 47 2 v' L.length (mdVs L) ∧ Below w.heap.size w w' := by
  obtain ⟨i0, hi, hz0, hz1, hz2⟩ := info_parts Tryz.infoMod
  obtain ⟨a, n, cap, P, V, rfl, rfl, hnc, hcap, hc⟩ := h
  rw [mdF_length] at hl
  cases a with
  | none =>
    have hn0 : n = 0 := by
      rcases Nat.eq_zero_or_pos n with h | h
      · exact h
      · obtain ⟨b, o, e, _⟩ := hc 0 h
        cases e
    subst hn0
    clear hc
    have hq := fun (w : World) (a : Option Addr) (n c n' c' : Nat) => Lib.run_eql_slice_nil (P := Tryz.prog) w _ _ a n c n' c' Tryz.underlying23
    go_enter Tryz.func151, Tryz.ntmps151
    go_wp2_with fail
    go_ret
    exact ⟨_, [], rfl, rfl, World.ownsRow_nil _ _ _ _, Below.refl _ _⟩
  | some a =>
    have hc2 : ∃ news, news.length = n * 2 ∧ (∀ j u, news[j]? = some u → w.cell? (a.add j) = some u) ∧ news = mdVs (mdL n P V) := by
      refine ⟨_, by rw [mdVs_length, mdL_length], ?_, rfl⟩
      rcases Nat.eq_zero_or_pos n with h | h
      · subst h
        intro j u hu
        simp [mdL, mdVs] at hu
      · obtain ⟨b, o, e, _⟩ := hc 0 h
        injection e with e
        subst e
        exact mods_cells (fun j hj => by
          obtain ⟨b', o', e, h1, h2⟩ := hc j hj
          injection e with e
          injection e with e1 e2 _
          subst e1 e2
          exact ⟨h1, h2⟩)
    obtain ⟨news, hn1, hn2, hn3⟩ := hc2
    have HN := Lib.hid hn3
    have H2 := Lib.hid hn2
    have hq := fun (w : World) (a : Option Addr) (n c n' c' : Nat) => Lib.run_eql_slice_nil (P := Tryz.prog) w _ _ a n c n' c' Tryz.underlying23
    clear hc hn3 hn2
    go_enter Tryz.func151, Tryz.ntmps151
    go_wp2_with (at_builtin; refine wpList_append_own _ rfl _ _ 23 rfl w.heap.size 47 i0 (.agg #[.string ⟨#[]⟩, .string ⟨#[]⟩]) 2 32 Tryz.underlying23 hi hz0 hz1 hz2 rfl (by decide) _ _ _ rfl (World.ownsRow_made w #[] 0 (Nat.le_refl _) (Nat.zero_le _) (by simp)) a n cap news rfl hn1 (fun j u hu => Lib.cell?_alloc_some _ (H2.out j u hu)) (by rw [HN.out]; exact mdVs_one) (by unfold maxLen; omega) (by omega) (by simp) ?_; intro v' w1 hown1 hgrow1 _)
    go_ret
    have ho : w1.ownsRow w.heap.size 47 2 v' (mdL n P V).length (mdVs (mdL n P V)) := by
      rw [mdL_length, ← HN.out]
      simpa using hown1
    exact ⟨v', mdL n P V, rfl, (mdL_ts n P V).symm, ho, ((Below.refl _ w).alloc (Nat.le_refl _) _).grown hgrow1 (by simp) (fun k hk => by cases hk; exact Nat.le_refl _)⟩
end Go.Proofs.Pw

namespace Go.Proofs.Pw
open Go.RowKit
open Go.Lib hiding intOf
theorem mdVs_take : ∀ (l : List (ByteArray × ByteArray)) (i : Nat), mdVs (l.take i) = (mdVs l).take (i * 2)
  | [], i => by simp [mdVs]
  | a :: r, 0 => by simp [mdVs]
  | a :: r, i + 1 => by
    have ih := mdVs_take r i
    have e : mdVs (a :: r) = .string a.1 :: .string a.2 :: mdVs r := rfl
    have e2 : mdVs (a :: r.take i) = .string a.1 :: .string a.2 :: mdVs (r.take i) := rfl
    rw [List.take_succ_cons, e, e2, ih, show (i + 1) * 2 = i * 2 + 1 + 1 by omega, List.take_succ_cons, List.take_succ_cons]
theorem mdVs_drop : ∀ (l : List (ByteArray × ByteArray)) (i : Nat), mdVs (l.drop i) = (mdVs l).drop (i * 2)
  | [], i => by simp [mdVs]
  | a :: r, 0 => by simp [mdVs]
  | a :: r, i + 1 => by
    have ih := mdVs_drop r i
    have e : mdVs (a :: r) = .string a.1 :: .string a.2 :: mdVs r := rfl
    rw [List.drop_succ_cons, e, ih, show (i + 1) * 2 = i * 2 + 1 + 1 by omega, List.drop_succ_cons, List.drop_succ_cons]
def InsOut (base : Nat) (v : Value) (L : List (ByteArray × ByteArray)) (w : World) (e : Ending) (w' : World) : Prop :=
  ∃ v', e = .returned v' ∧ w'.ownsRow base 47 2 v' L.length (mdVs L) ∧ Below base w w' ∧ w.grownBy w' v.ownBlock
theorem zeroCells_len (z : Array Value) (h : z.size = 2) (n : Nat) : (Builtin.zeroCells z n).toList.length = n * 2 := by
  simp [Builtin.zeroCells, h]
end Go.Proofs.Pw
