/- Ut: walks and plain laws, joined: MvsMath2 AppM SlModK SlIns SlDelM SlCat Great Mvs MvsUnder Built TrimMath SlEqM Trim Trimmed LatestMath LeastMath UpMath SlDel SortLayS Build VerSort RefC RefV. Conditions: at each theorem. -/
import Derived.Test.YtnkcobdgaldkfaaGreatDoorUtd
import Derived.Test.YtnkcobdgaldkfaaGreatDoorUtb
import Derived.Laws.CopyRow
import Derived.Laws.CopyOwn
import Derived.Lib.Overlaps
import Derived.Lib.AppendZerosOnto
import Derived.Lib.SliceRun
import Derived.Deep.RegionLaw
import Derived.Deep.AppendLies
import Derived.Shelf.RegionOpenPlain
import Derived.Shelf.Spec.SlicesGrow
import Derived.Test.YtnkcobdgaldkfaaGreatDoorUtc
import Derived.Test.YtnkcobdgaldkfaaGreatDoorUta
import Derived.Lib.SlKept
import Derived.LoopTactic
import Derived.Sort.EncStr
import Derived.Deep.LoopGhost
import Derived.Shelf.Abstract
import Derived.RegionTactic
import Derived.BigRegion
import Derived.WalkKit
import Derived.Test.YtnkcobdgaldkfaaGreatDoorProg
import Derived.Shelf.SlSortCmp.NoneTotal
import Derived.Test.YtnkcobdgaldkfaaGreatDoorShelf
import Derived.Shelf.Strings.BuilderK
import Derived.Shelf.Strings.OnBuilder
import Derived.Shelf.SlSortCmp.Whole1
import Derived.Stop.IfaceNil
import Derived.Laws.IdiomStrings
import Derived.Shelf.SlSortCmp.QuietGrown
import Derived.Lib.AppendIntMem

namespace Go.Proofs.Pw
open Go.Lib hiding intOf
theorem verLess_of_le {a b : Str} (h : verCmp b a ≤ 0) : verLess a b = false := by
  unfold verLess
  refine decide_eq_false (fun h1 => ?_)
  have := (verCmp_ord.anti a b).1 h1.2.2
  omega
theorem great_self {x : List Md} (h : RiseP x) : Great x x := ⟨h, fun _ h => h, fun m hm => ⟨m, hm, rfl, by rw [verCmp_ord.self]; decide⟩⟩
theorem Great.under {l out : List Md} (h : Great l out) : underB l out = true := by
  unfold underB
  rw [List.all_eq_true]
  intro m hm
  obtain ⟨x, hx, e1, e2⟩ := h.over m hm
  rw [hasB_rise h.rise]
  exact ⟨x, hx, e1, verLess_of_le e2⟩
theorem under_mem {a c : List Md} : underB a c = true ↔ ∀ m ∈ a, hasB c m = true := by
  unfold underB
  rw [List.all_eq_true]
theorem le_trans3 {a b c : Str} (h1 : verCmp a b ≤ 0) (h2 : verCmp b c ≤ 0) : verCmp a c ≤ 0 := verCmp_ord.tr a b c h1 h2
theorem build_right {l : List En} {roots : List Md} (h : RightG l roots) : ∀ m ∈ buildL l roots, mdErr m = 0 := fun m hm => h.right (h.mem.1 (h.great.sub m hm))
theorem build_mem {l : List En} {roots : List Md} (h : RightG l roots) (m : Md) : m ∈ buildL l roots ↔ Reached l roots m ∧ ∀ x, Reached l roots x → x.1 = m.1 → verCmp x.2 m.2 ≤ 0 := by
  rw [h.great.mem (fun m hm => h.right (h.mem.1 hm)), h.mem]
  exact ⟨fun ⟨h1, h2⟩ => ⟨h1, fun x hx => h2 x (h.mem.2 hx)⟩, fun ⟨h1, h2⟩ => ⟨h1, fun x hx => h2 x (h.mem.1 hx)⟩⟩
theorem build_over {l : List En} {roots : List Md} (h : RightG l roots) {m : Md} (hm : Reached l roots m) : ∃ x ∈ buildL l roots, x.1 = m.1 ∧ verCmp m.2 x.2 ≤ 0 := h.great.over m (h.mem.2 hm)
theorem build_reached {l : List En} {roots : List Md} (h : RightG l roots) {m : Md} (hm : m ∈ buildL l roots) : Reached l roots m := h.mem.1 (h.great.sub m hm)
theorem RightG.sub {l : List En} {A B : List Md} (hB : RightG l B) (h : ∀ m ∈ A, Reached l B m) : RightG l A := ⟨hB.idx, fun m hm => hB.entry (h m hm)⟩
theorem RightG.build {l : List En} {A : List Md} (h : RightG l A) : RightG l (buildL l A) := h.sub fun _ hm => build_reached h hm
theorem build_under {l : List En} {A B : List Md} (hA : RightG l A) (hB : RightG l B) (h : ∀ m, Reached l A m → Reached l B m) : underB (buildL l A) (buildL l B) = true := by
  rw [under_mem]
  intro m hm
  obtain ⟨x, hx, e1, e2⟩ := build_over hB (h m (build_reached hA hm))
  rw [hasB_rise hB.great.rise]
  exact ⟨x, hx, e1, verLess_of_le e2⟩
theorem build_again {l : List En} {A : List Md} (h : RightG l A) : buildL l (buildL l A) = buildL l A := by
  have hb := h.build
  refine rises_ext modCmp_ord hb.great.rises h.great.rises fun m => ?_
  have hr : ∀ x, Reached l (buildL l A) x → Reached l A x := fun x hx => reached_sub (fun y hy => build_reached h hy) hx
  rw [build_mem hb]
  constructor
  · rintro ⟨h1, h2⟩
    obtain ⟨z, hz, e1, e2⟩ := build_over h (hr m h1)
    have e3 := h2 z (.root hz) e1
    have : m = z := modCmp_zero (hb.right h1) (build_right h z hz) (by
      unfold modCmp
      rw [orI_eq, e1, compareBytes_self]
      have := verCmp_ord.anti m.2 z.2
      have := verCmp_ord.anti z.2 m.2
      exact ⟨rfl, by omega⟩)
    rw [this]; exact hz
  · intro hm
    have h3 := (build_mem h m).1 hm
    exact ⟨.root hm, fun x hx e => h3.2 x (hr x hx) e⟩
end Go.Proofs.Pw

namespace Go.Proofs.Pw
open Go.RowKit
open Go.Lib hiding intOf
theorem app_mods (w : World) (base : Nat) (hb : base ≤ w.heap.size) (o v : Value) (L : List (ByteArray × ByteArray)) (l : List Md) (ho : w.ownsRow base 38 2 o L.length (mdVs L)) (h : ModsAt w v l) (hL : L.length ≤ 1000000) (hl : l.length ≤ 1000000) :
    ∃ o' w', (Builtin.append_ #[23, 23] 23 #[o, v]).run Tryz.prog w = .ok o' w' ∧ (∃ L', mdTs L' = mdTs L ++ l ∧ w'.ownsRow base 38 2 o' L'.length (mdVs L')) ∧ w.grownBy w' o.ownBlock := by
  obtain ⟨i0, hi, hz0, hz1, hz2⟩ := info_parts Tryz.infoMod
  obtain ⟨a, n, cap, P, V, rfl, rfl, hnc, hcap, hc⟩ := h
  rw [mdF_length] at hl
  cases a with
  | none =>
    have hn0 : n = 0 := by
      rcases Nat.eq_zero_or_pos n with h | h
      · exact h
      · obtain ⟨b, o, e, _⟩ := hc 0 h
        cases e
    subst hn0
    have hform : ∃ a m c, o = .slice a m c ∧ m ≤ c := by
      rcases ho.2 with ⟨rfl, _⟩ | ⟨g, c, cur, rfl, _, _, h1, _⟩
      · exact ⟨_, _, _, rfl, Nat.le_refl _⟩
      · exact ⟨_, _, _, rfl, h1⟩
    obtain ⟨ao, m, c, rfl, hmc⟩ := hform
    exact ⟨_, w, run_append_nothing (P := Tryz.prog) w 23 23 23 38 i0 Tryz.underlying23 hi ao m c hmc (.slice none 0 cap) (Src.ofNil w Tryz.underlying23 cap), ⟨L, by simp [mdF], ho⟩, World.grownBy.refl _ _⟩
  | some a =>
    have hnews : ∀ j u, (mdVs (mdL n P V))[j]? = some u → w.cell? (a.add j) = some u := by
      rcases Nat.eq_zero_or_pos n with h | h
      · subst h
        intro j u hu
        simp [mdL, mdVs] at hu
      · obtain ⟨b, o, e, _⟩ := hc 0 h
        injection e with e
        subst e
        exact mods_cells (fun j hj => by
          obtain ⟨b', o', e, h1, h2⟩ := hc j hj
          injection e with e
          injection e with e1 e2 _
          subst e1 e2
          exact ⟨h1, h2⟩)
    obtain ⟨kv, w', h1, h2, h3, _⟩ := run_append_own (P := Tryz.prog) w base 23 23 38 i0 (.agg #[.string ⟨#[]⟩, .string ⟨#[]⟩]) 2 32 Tryz.underlying23 hi hz0 hz1 hz2 rfl (by decide) o L.length (mdVs L) ho a n cap (mdVs (mdL n P V)) (by rw [mdVs_length, mdL_length]) hnews mdVs_one (by unfold maxLen; omega) (by omega) hb
    refine ⟨kv, w', h1, ⟨L ++ mdL n P V, by rw [← mdL_ts]; simp [mdTs], ?_⟩, h3⟩
    rw [mdVs_append, List.length_append, mdL_length]
    exact h2
end Go.Proofs.Pw

namespace Go.Proofs.Pw
open Go.RowKit
open Go.Lib hiding intOf
theorem grownBy_setRow (w : World) (g : Nat) (cs : Array Value) : w.grownBy (w.setRow g cs) (some g) :=
  ⟨rfl, rfl, rfl, by simp [World.setRow], fun k _ hk => setRow_other w g k cs (by rintro rfl; exact hk rfl)⟩
theorem ModsAt.grownBy {w w' : World} {v : Value} {l : List Md} {r : Option Nat} (h : ModsAt w v l) (hg : w.grownBy w' r) (hr : ∀ q n m, v = .slice (some q) n m → some q.block ≠ r) : ModsAt w' v l := by
  obtain ⟨a, n, cap, P, V, rfl, h2, h3, h4, h5⟩ := h
  refine ⟨a, n, cap, P, V, rfl, h2, h3, h4, fun j hj => ?_⟩
  obtain ⟨b, o, rfl, e1, e2⟩ := h5 j hj
  have hb : some b ≠ r := hr _ _ _ rfl
  exact ⟨b, o, rfl, hg.cell e1 hb, hg.cell e2 hb⟩
set_option maxHeartbeats 2000000 in
set_option maxRecDepth 100000 in
theorem cloneM_calls (v : Value) (l : List Md) (w : World) (h : ModsAt w v l) (hl : l.length ≤ 1000000) :
    Calls Tryz.prog 83 #[v] w fun e w' => ∃ v' L, e = .returned v' ∧ l = mdTs L ∧ w'.ownsRow w.heap.size 38 2 v' L.length (mdVs L) ∧ Below w.heap.size w w' := by
  obtain ⟨i0, hi, hz0, hz1, hz2⟩ := info_parts Tryz.infoMod
  obtain ⟨a, n, cap, P, V, rfl, rfl, hnc, hcap, hc⟩ := h
  rw [mdF_length] at hl
  cases a with
  | none =>
    have hn0 : n = 0 := by
      rcases Nat.eq_zero_or_pos n with h | h
      · exact h
      · obtain ⟨b, o, e, _⟩ := hc 0 h
        cases e
    subst hn0
    clear hc
    have hq := fun (w : World) (a : Option Addr) (n c n' c' : Nat) => Lib.run_eql_slice_nil (P := Tryz.prog) w _ _ a n c n' c' Tryz.underlying23
    go_enter Tryz.func83, Tryz.ntmps83
    go_wp2_with fail
    go_ret
    exact ⟨_, [], rfl, rfl, World.ownsRow_nil _ _ _ _, Below.refl _ _⟩
  | some a =>
    have hc2 : ∃ news, news.length = n * 2 ∧ (∀ j u, news[j]? = some u → w.cell? (a.add j) = some u) ∧ news = mdVs (mdL n P V) := by
      refine ⟨_, by rw [mdVs_length, mdL_length], ?_, rfl⟩
      rcases Nat.eq_zero_or_pos n with h | h
      · subst h
        intro j u hu
        simp [mdL, mdVs] at hu
      · obtain ⟨b, o, e, _⟩ := hc 0 h
        injection e with e
        subst e
        exact mods_cells (fun j hj => by
          obtain ⟨b', o', e, h1, h2⟩ := hc j hj
          injection e with e
          injection e with e1 e2 _
          subst e1 e2
          exact ⟨h1, h2⟩)
    obtain ⟨news, hn1, hn2, hn3⟩ := hc2
    have HN := Lib.hid hn3
    have H2 := Lib.hid hn2
    have hq := fun (w : World) (a : Option Addr) (n c n' c' : Nat) => Lib.run_eql_slice_nil (P := Tryz.prog) w _ _ a n c n' c' Tryz.underlying23
    clear hc hn3 hn2
    go_enter Tryz.func83, Tryz.ntmps83
    go_wp2_with (at_builtin; refine wpList_append_own _ rfl _ _ 23 rfl w.heap.size 38 i0 (.agg #[.string ⟨#[]⟩, .string ⟨#[]⟩]) 2 32 Tryz.underlying23 hi hz0 hz1 hz2 rfl (by decide) _ _ _ rfl (World.ownsRow_made w #[] 0 (Nat.le_refl _) (Nat.zero_le _) (by simp)) a n cap news rfl hn1 (fun j u hu => Lib.cell?_alloc_some _ (H2.out j u hu)) (by rw [HN.out]; exact mdVs_one) (by unfold maxLen; omega) (by omega) (by simp) ?_; intro v' w1 hown1 hgrow1 _)
    go_ret
    have ho : w1.ownsRow w.heap.size 38 2 v' (mdL n P V).length (mdVs (mdL n P V)) := by
      rw [mdL_length, ← HN.out]
      simpa using hown1
    exact ⟨v', mdL n P V, rfl, (mdL_ts n P V).symm, ho, ((Below.refl _ w).alloc (Nat.le_refl _) _).grown hgrow1 (by simp) (fun k hk => by cases hk; exact Nat.le_refl _)⟩
end Go.Proofs.Pw

namespace Go.Proofs.Pw
open Go.RowKit
open Go.Lib hiding intOf
theorem zeroCells_len (z : Array Value) (h : z.size = 2) (n : Nat) : (Builtin.zeroCells z n).toList.length = n * 2 := by
  simp [Builtin.zeroCells, h]
end Go.Proofs.Pw

namespace Go.Proofs.Pw
open Go.RowKit
open Go.Lib hiding intOf
theorem run_clear_rowK {P : Program} (w : World) (t e ty : TypeId) (z : Value) (k : Nat) (ht : P.underlying t = some (.slice e)) (hv : ∀ w, (zeroValue e).run P w = .ok z w) (hz : (Builtin.zeroCells z.cells k).toList.length = k * 2) (h1 : ∀ u ∈ (Builtin.zeroCells z.cells k).toList, u.oneCell' = true) (g o c : Nat) (hk : 0 < k) (cur : Array Value) (et : TypeId) (hg : w.heap[g]? = some (.cells cur et (0, 0))) (hfit : o + k * 2 ≤ cur.size) :
    (Builtin.clear_ #[t] ty #[.slice (some ⟨g, o, none⟩) k c]).run P w = .ok (.tuple #[]) (w.setRow g (splice cur.toList o (Builtin.zeroCells z.cells k).toList).toArray) := by
  have hst := run_storeCells_at P g o et (Builtin.zeroCells z.cells k).toList 0 cur w hg (by rw [hz]; simpa using hfit) h1
  simp only [Nat.add_zero] at hst
  obtain ⟨m, rfl⟩ : ∃ m, k = m + 1 := ⟨k - 1, by omega⟩
  simp [Builtin.clear_, run_underlying ht, hv, hst, splice]
theorem wpList_clearK {P : Program} {w : World} {ops : Array Oper} {rest : List Oper} {o : Oper} {a : Act} {Q : Exit → Act → World → Prop} (hgd : o.guard = none) (d : Operand) (t : TypeId)
    (ho : o.op = .call { callee := .builtin .clear, args := #[d], argTypes := #[t] }) (e : TypeId) (z : Value) (k : Nat) (ht : P.underlying t = some (.slice e)) (hv : ∀ w, (zeroValue e).run P w = .ok z w) (hz : (Builtin.zeroCells z.cells k).toList.length = k * 2) (h1 : ∀ u ∈ (Builtin.zeroCells z.cells k).toList, u.oneCell' = true) (g off c : Nat) (hk : 0 < k) (hd : a.eval d = .slice (some ⟨g, off, none⟩) k c)
    (cur : List Value) (et : TypeId) (hg : w.heap[g]? = some (.cells cur.toArray et (0, 0))) (hfit : off + k * 2 ≤ cur.length) (B : Nat) (w0 : World) (hb : Below B w0 w) (hBg : B ≤ g)
    (h : ∀ w', Hid (w'.heap[g]? = some (.cells (splice cur off (Builtin.zeroCells z.cells k).toList).toArray et (0, 0))) → Below B w0 w' → Hid (w.grownBy w' (some g)) → wpList P ops Q rest (a.put o.dst (.tuple #[])) w') : wpList P ops Q (o :: rest) a w := by
  refine wpList_plain hgd fun K hK => ?_
  have hrun := run_clear_rowK (P := P) w t e o.type z k ht hv hz h1 g off c hk cur.toArray et hg (by simpa using hfit)
  unfold Oper.wp
  simp [execOp, ho, resolve, invoke, builtin, hd, hrun, Result.andThen]
  exact hK _ _ (h _ (show _ = _ by simpa using setRow_heap w g _ _ et _ hg) (below_setRow hb hBg _) (Lib.hid (grownBy_setRow w g _)))
end Go.Proofs.Pw

namespace Go.Proofs.Pw
open Go.RowKit
open Go.Lib hiding intOf
theorem ownsRow_set1 {w : World} {base e k g cap m n j : Nat} {xs : List Value} (h : w.ownsRow base e k (.slice (some ⟨g, 0, none⟩) m cap) n xs) (u : Value) : (w.setCell ⟨g, j, none⟩ u).ownsRow base e k (.slice (some ⟨g, 0, none⟩) m cap) n (xs.set j u) := by
  refine ⟨by rw [List.length_set]; exact h.1, ?_⟩
  rcases h.2 with ⟨h2, _⟩ | ⟨g', c', cur, e1, hb, hg, hn, hm, hcs, ht⟩
  · cases h2
  · injection e1 with e1 e2 e3
    injection e1 with e1
    injection e1 with e1
    subst e1 e2 e3
    refine .inr ⟨g, cap, cur.setIfInBounds j u, rfl, hb, ?_, hn, hm, by simpa using hcs, ?_⟩
    · simp [World.setCell, Array.getElem?_modify, hg]
    · rw [Array.toList_setIfInBounds, List.take_set, ht]
theorem mdVs_set : ∀ (L : List (ByteArray × ByteArray)) (i : Nat) (x y : ByteArray), mdVs (L.set i (x, y)) = ((mdVs L).set (i * 2) (.string x)).set (i * 2 + 1) (.string y)
  | [], i, x, y => by simp [mdVs]
  | a :: r, 0, x, y => by simp [mdVs]
  | a :: r, i + 1, x, y => by
    have := mdVs_set r i x y
    rw [List.set_cons_succ, show (i + 1) * 2 = i * 2 + 2 by omega]
    simp only [mdVs, List.flatMap_cons, List.cons_append, List.nil_append, List.set_cons_succ] at *
    rw [this]
theorem own_put {w : World} {base e g cap m i : Nat} {L : List (ByteArray × ByteArray)} (h : w.ownsRow base e 2 (.slice (some ⟨g, 0, none⟩) m cap) L.length (mdVs L)) (x y : ByteArray) :
    ((w.setCell ⟨g, i * 2, none⟩ (.string x)).setCell ⟨g, i * 2 + 1, none⟩ (.string y)).ownsRow base e 2 (.slice (some ⟨g, 0, none⟩) m cap) (L.set i (x, y)).length (mdVs (L.set i (x, y))) := by
  rw [List.length_set, mdVs_set]
  exact ownsRow_set1 (ownsRow_set1 h _) _
theorem own_cells {w : World} {base e g cap m i : Nat} {L : List (ByteArray × ByteArray)} {x y : ByteArray} (h : w.ownsRow base e 2 (.slice (some ⟨g, 0, none⟩) m cap) L.length (mdVs L)) (hi : L[i]? = some (x, y)) :
    w.cell? ⟨g, i * 2, none⟩ = some (.string x) ∧ w.cell? ⟨g, i * 2 + 1, none⟩ = some (.string y) ∧ m = L.length := by
  rcases h.2 with ⟨h2, _⟩ | ⟨g', c', cur, e1, hb, hg, hn, hm, hcs, ht⟩
  · cases h2
  · injection e1 with e1 e2 e3
    injection e1 with e1
    injection e1 with e1
    subst e1 e2 e3
    obtain ⟨q0, q1⟩ := mdVs_get hi
    have hl := (List.getElem?_eq_some_iff.1 hi).1
    rw [← ht, List.getElem?_take, if_pos (by omega)] at q0 q1
    refine ⟨?_, ?_, rfl⟩
    · rw [cell_of_row w g _ cur e (0, 0) hg]; simpa using q0
    · rw [cell_of_row w g _ cur e (0, 0) hg]; simpa using q1
theorem own_frozen {w : World} {base e g cap m n j : Nat} {xs : List Value} (h : w.ownsRow base e 2 (.slice (some ⟨g, 0, none⟩) m cap) n xs) : w.frozen? ⟨g, j, none⟩ = false := by
  rcases h.2 with ⟨h2, _⟩ | ⟨g', c', cur, e1, hb, hg, hn, hm, hcs, ht⟩
  · cases h2
  · injection e1 with e1 e2 e3
    injection e1 with e1
    injection e1 with e1
    subst e1 e2 e3
    simp [World.frozen?, hg]
theorem below_put {B : Nat} {w0 w : World} (h : Below B w0 w) {g i : Nat} (hg : B ≤ g) (x y : Value) : Below B w0 ((w.setCell ⟨g, i * 2, none⟩ x).setCell ⟨g, i * 2 + 1, none⟩ y) :=
  (h.setCell (p := ⟨g, i * 2, none⟩) hg x).setCell (p := ⟨g, i * 2 + 1, none⟩) hg y
def laysGrowMR : Go.Shelf.Ren := ⟨fun | 4 => 118 | n => n,
  fun | 0 => 0 | 3 => 3 | 4 => 4 | 9 => 9 | 20 => 20 | 22 => 23 | 25 => 38 | n => n, fun n => n⟩
theorem laysGrowM : Go.Proofs.Lays8.n4 Tryz.prog laysGrowMR := {
  mixed := by kernel_rfl
  f4 := ⟨Tryz.f118.name, by decide, Tryz.func118.trans (congrArg some (by kernel_rfl))⟩
  t0 := Tryz.underlying0
  a0 := Tryz.isAgg0
  z0 := Tryz.sizeOf0
  v0 := Tryz.zeroValue0
  t3 := Tryz.underlying3
  a3 := Tryz.isAgg3
  z3 := Tryz.sizeOf3
  v3 := Tryz.zeroValue3
  t4 := Tryz.underlying4
  a4 := Tryz.isAgg4
  z4 := Tryz.sizeOf4
  v4 := Tryz.zeroValue4
  t9 := Tryz.underlying9
  a9 := Tryz.isAgg9
  z9 := Tryz.sizeOf9
  v9 := Tryz.zeroValue9
  t20 := Tryz.underlying20
  a20 := Tryz.isAgg20
  z20 := Tryz.sizeOf20
  v20 := Tryz.zeroValue20
  t22 := Tryz.underlying23
  a22 := Tryz.isAgg23
  z22 := Tryz.sizeOf23
  v22 := Tryz.zeroValue23 }
theorem growM_calls (n : Nat) (w : World) (hn : n ≤ 1000000) :
    Calls Tryz.prog 118 #[.slice none 0 0, .int .i64 n] w fun e w' => (∃ v, e = .returned v ∧ w'.ownsRow w.heap.size 38 2 v 0 []) ∧ Below w.heap.size w w' := by
  obtain ⟨i0, hi0, hz0, hz1, hz2⟩ := info_parts Tryz.infoMod
  by_cases h0 : n = 0
  · subst h0
    refine (Any8.slices_Grow_room laysGrowM none 0 0 0 w (Nat.le_refl _) (by decide) (by decide) (Nat.le_refl _)).mono ?_
    rintro e w' ⟨rfl, rfl⟩
    exact ⟨⟨_, rfl, World.ownsRow_nil _ _ _ _⟩, Below.refl _ _⟩
  · refine (Any8.slices_Grow_grow laysGrowM i0 (.agg #[.string ⟨#[]⟩, .string ⟨#[]⟩]) hi0 hz0 (by omega) none 0 0 n [] w (Nat.le_refl _) (by omega) (by rw [hz2]; omega) (by omega) (by simp) (fun _ => rfl) (fun a e => by cases e)).mono ?_
    rintro e w' ⟨rfl, rfl⟩
    have hge := grownCap_ge w (0 + n) 0 (laysGrowMR.t 25)
    have hle := grownCap_le_maxLen w (0 + n) 0 (laysGrowMR.t 25) (by unfold maxLen; omega)
    refine ⟨⟨_, rfl, by simp, .inr ⟨w.heap.size, _, _, rfl, Nat.le_refl _, Go.Deep.blk_alloc_new w.drew _, Nat.zero_le _, hle, ?_, by simp⟩⟩, ?_⟩
    · have z1 := zeroCells_len (Value.agg #[.string ⟨#[]⟩, .string ⟨#[]⟩]).cells rfl (0 + n - 0)
      have z2 := zeroCells_len (Value.agg #[.string ⟨#[]⟩, .string ⟨#[]⟩]).cells rfl (grownCap w (0 + n) 0 (laysGrowMR.t 25) - (0 + n))
      rw [Array.length_toList] at z1 z2
      rw [Array.size_append, Array.size_append, z1, z2]
      show ([] : List Value).toArray.size + _ + _ = grownCap w (0 + n) 0 (laysGrowMR.t 25) * 2
      show 0 + _ + _ = _
      omega
    · exact (Below.refl _ w).drew.alloc (Nat.le_refl _) _
theorem mods_len {w : World} {v : Value} {l : List Md} (h : ModsAt w v l) : ∃ a c, v = .slice a l.length c := by
  obtain ⟨a, n, cap, P, V, rfl, rfl, _⟩ := h
  exact ⟨a, cap, by rw [mdF_length]⟩
set_option maxHeartbeats 2000000 in
set_option maxRecDepth 100000 in
theorem concatM_calls (b : Nat) (va vb : Value) (la lb : List Md) (w : World) (ha : ModsAt w va la) (hb0 : ModsAt w vb lb) (hla : la.length ≤ 100000) (hlb : lb.length ≤ 100000) (c0 : w.cell? ⟨b, 0, none⟩ = some va) (c1 : w.cell? ⟨b, 1, none⟩ = some vb) :
    Calls Tryz.prog 76 #[.slice (some ⟨b, 0, none⟩) 2 2] w fun e w' => (∃ v L, e = .returned v ∧ mdTs L = la ++ lb ∧ w'.ownsRow w.heap.size 38 2 v L.length (mdVs L)) ∧ Below w.heap.size w w' := by
  obtain ⟨a1, k1, e1⟩ := mods_len ha
  obtain ⟨a2, k2, e2⟩ := mods_len hb0
  have HA := Lib.hid ha
  have HB := Lib.hid hb0
  have hgr := growM_calls (la.length + lb.length) w (by omega)
  subst e1 e2
  have hw1 := wrap_nat la.length (by omega)
  have hw2 := wrap_nat (la.length + lb.length) (by omega)
  push_cast at hw2 hgr
  generalize hn1 : la.length = n1 at *
  generalize hn2 : lb.length = n2 at *
  have HN := Lib.hid (And.intro hn1 hn2)
  replace hgr := Lib.hid hgr
  clear hn1 hn2 ha hb0
  go_enter Tryz.func76, Tryz.ntmps76
  go_wp2_with fail
  refine wp_loop_rounds 3 ?_
  rw [rounds_succ]
  go_wp2_with fail
  rw [rounds_succ]
  go_wp2_with fail
  rw [rounds_succ]
  go_wp2_with fail
  refine hgr.out.mono ?_
  rintro e w1 ⟨⟨v1, rfl, ho1⟩, hb1⟩
  have d0 := Below.cell_some hb1 c0
  have d1 := Below.cell_some hb1 c1
  obtain ⟨o2, w2, hap2, ⟨L2, hL2, ho2⟩, hg2⟩ := app_mods w1 w.heap.size hb1.size v1 (.slice a1 n1 k1) [] la ho1 (HA.out.below hb1) (by simp) (by rw [HN.out.1]; omega)
  have hb2 : Below w.heap.size w w2 := hb1.grown hg2 hb1.size (fun k hk => (ho1.lt k hk).1)
  obtain ⟨o3, w3, hap3, ⟨L3, hL3, ho3⟩, hg3⟩ := app_mods w2 w.heap.size hb2.size o2 (.slice a2 n2 k2) L2 lb ho2 (HB.out.below hb2) (by have := congrArg List.length hL2; rw [mdTs_length] at this; simp [mdTs] at this; have := HN.out.1; omega) (by rw [HN.out.2]; omega)
  have hb3 : Below w.heap.size w w3 := hb2.grown hg3 hb2.size (fun k hk => (ho2.lt k hk).1)
  have e0 := Below.cell_some hb2 c0
  have e1 := Below.cell_some hb2 c1
  obtain ⟨x1, y1, z1, rfl⟩ := own_form ho1
  obtain ⟨x2, y2, z2, rfl⟩ := own_form ho2
  obtain ⟨x3, y3, z3, rfl⟩ := own_form ho3
  have HAP2 := Lib.hid hap2
  have HAP3 := Lib.hid hap3
  have HO3 := Lib.hid ho3
  have HL : Hid (mdTs L3 = la ++ lb) := Lib.hid (by rw [hL3, hL2]; simp [mdTs])
  clear hap2 hap3 ho1 ho2 ho3 hL2 hL3 hg2 hg3 hgr
  go_wp2_with fail
  refine wp_loop_rounds 3 ?_
  rw [rounds_succ]
  go_wp2_with (at_builtin; refine wpList_append_run rfl _ _ 23 rfl _ _ rfl rfl _ _ HAP2.out ?_)
  rw [rounds_succ]
  go_wp2_with (at_builtin; refine wpList_append_run rfl _ _ 23 rfl _ _ rfl rfl _ _ HAP3.out ?_)
  rw [rounds_succ]
  go_wp2_with fail
  go_ret
  exact ⟨⟨_, L3, rfl, HL.out, HO3.out⟩, hb3⟩
end Go.Proofs.Pw

namespace Go.Proofs.Pw
open Go.RowKit
open Go.Lib hiding intOf
theorem mdTs_sn (L : List (ByteArray × ByteArray)) (x y : ByteArray) : mdTs (L ++ [(x, y)]) = mdTs L ++ [(x.data.toList, y.data.toList)] := by simp [mdTs]
theorem own_len {w : World} {base e k n cap m : Nat} {a : Option Addr} {xs : List Value} (h : w.ownsRow base e k (.slice a m cap) n xs) : m = n := by
  rcases h.2 with ⟨h1, rfl⟩ | ⟨g, c, cur, h1, _⟩
  · injection h1
  · injection h1
theorem grow1_new {out : List Md} {m : Md} (h : out.getLast?.map (·.1) ≠ some m.1) : grow1 out m = out ++ [m] := if_neg h
theorem set_last {α : Type} (l : List α) (a b : α) : (l ++ [a]).set l.length b = l ++ [b] := by
  rw [List.set_append_right _ _ (Nat.le_refl _)]; simp
theorem grow1_same {L : List (ByteArray × ByteArray)} {x y p q : ByteArray} (h : x = p) : grow1 (mdTs (L ++ [(x, y)])) (p.data.toList, q.data.toList) = mdTs ((L ++ [(x, y)]).set L.length (p, q)) := by
  subst h
  rw [set_last, mdTs_sn, mdTs_sn]
  unfold grow1
  rw [if_pos (by simp)]
  simp
theorem grow1_less {L : List (ByteArray × ByteArray)} {x y p q : ByteArray} (h : x ≠ p) : grow1 (mdTs (L ++ [(x, y)])) (p.data.toList, q.data.toList) = mdTs (L ++ [(x, y)] ++ [(p, q)]) := by
  rw [mdTs_sn (L ++ [(x, y)]), mdTs_sn L]
  refine grow1_new ?_
  simp only [List.getLast?_append, List.getLast?_singleton, Option.some_or, Option.map_some]
  exact fun e => h (bytes_eq.1 (Option.some.inj e))
theorem grow1_nil (p q : ByteArray) : grow1 (mdTs []) (p.data.toList, q.data.toList) = mdTs [(p, q)] := rfl
set_option maxHeartbeats 4000000 in
set_option maxRecDepth 100000 in
theorem greatest_calls (v : Value) (l : List Md) (w : World) (h : ModsAt w v l) (hl : l.length ≤ 1000000) :
    Calls Tryz.prog 64 #[v] w fun e w' => (∃ v' L, e = .returned v' ∧ mdTs L = greatest l ∧ w'.ownsRow w.heap.size 38 2 v' L.length (mdVs L)) ∧ Below w.heap.size w w' := by
  obtain ⟨i0, hi, hz0, hz1, hz2⟩ := info_parts Tryz.infoMod
  obtain ⟨a, n, cap, P, V, rfl, rfl, hnc, hcap, hc⟩ := h
  rw [mdF_length] at hl
  replace hc := Lib.hid hc
  go_enter Tryz.func64, Tryz.ntmps64
  go_wp2_with fail
  go_loopw [3, 9] (fun o i wr => ∃ (k : Nat) (L : List (ByteArray × ByteArray)), k ≤ n ∧ i = .int .i64 k ∧ Hid (wr.ownsRow w.heap.size 38 2 o L.length (mdVs L)) ∧ L.length ≤ k ∧ Hid (mdTs L = greatest ((mdF n P V).take k)) ∧ Below w.heap.size w wr) (fun _ i _ => n - (intOf i).toNat)
  case atStart => exact ⟨0, [], Nat.zero_le _, rfl, Lib.hid (World.ownsRow_nil _ _ _ _), Nat.le_refl _, Lib.hid rfl, Below.refl _ _⟩
  case round =>
    obtain ⟨k, L, hk, rfl, hO, hLk, hT, hBr⟩ := hrel
    obtain ⟨ao, no, co, rfl⟩ := own_form hO.out
    have hown := Lib.hid (fun q (e : (Value.slice ao no co).ownBlock = some q) => (hO.out.lt q e).1)
    by_cases hlt : k < n
    · have hkn : (k : Int) < (n : Int) := by omega
      obtain ⟨b1, o1, ea, c0, c1⟩ := hc.out k hlt
      replace c0 := Below.cell_some hBr c0
      replace c1 := Below.cell_some hBr c1
      have HTK := Lib.hid (mdF_take_succ n P V k hlt)
      subst ea
      have hba := below_alloc wr (.cells #[.string (P k), .string (V k)] 38)
      obtain ⟨y0, y1, _⟩ := box2_alloc wr (.string (P k)) (.string (V k)) 38
      rcases List.eq_nil_or_concat L with rfl | ⟨L', ⟨x, y⟩, hLc⟩
      · have hn0 : no = 0 := own_len hO.out
        subst hn0
        have HN : Hid (mdTs ([] ++ [(P k, V k)]) = greatest ((mdF n P V).take (k + 1))) := Lib.hid (by
          rw [HTK.out, greatest_snoc, ← hT.out]; exact (grow1_nil _ _).symm)
        have hOa := ownsRow_kept hO.out hba
        have hBa := below_step hBr hba
        clear hT HTK hO hBr
        go_wp2_with fail
        have hx1 : decide ((-1 : Int) ≥ 0) = false := by decide
        have hx2 : decide ((0 : Int) ≤ -1) = false := by decide
        generalize wr.alloc (.cells #[.string (P k), .string (V k)] 38) = wa at *
        refine wp_region_quiet_patch (by kernel_rfl) (by kernel_rfl) ?_
        repeat (go_big_quiet_step (fail))
        refine wpQuiet_nil ?_
        intro _ hw'
        obtain ⟨⟨dq, osq⟩, hw''⟩ := hw'
        subst hw''
        have hb := below_patch wa dq osq
        replace hBa := below_step hBa hb
        replace hOa := hOa.below hb
        replace y0 := Below.cell_some hb y0
        replace y1 := Below.cell_some hb y1
        clear hb
        generalize patch wa dq osq = w5 at hBa hOa y0 y1 ⊢
        have HO := Lib.hid hOa
        clear hOa hx1 hx2
        have hBr := hBa
        have hLk : ([] : List (ByteArray × ByteArray)).length ≤ k := by simp
        go_wp2_with (at_builtin; refine wpList_append_own _ rfl _ _ 23 rfl w.heap.size 38 i0 (.agg #[.string ⟨#[]⟩, .string ⟨#[]⟩]) 2 32 Tryz.underlying23 hi hz0 hz1 hz2 rfl (by decide) _ _ _ rfl (HO.out.alloc _) ⟨w5.heap.size, 0, none⟩ 1 1 [.string (P k), .string (V k)] rfl rfl (cell_two_new _ _ _ _) (by intro u hu; simp at hu; rcases hu with rfl | rfl <;> rfl) (by unfold maxLen; omega) (by omega) (by have := hBr.size; simp; omega) ?_; intro o' w4 hown4 hgrow4 _)
        go_roundw
        case rel =>
          refine ⟨k + 1, [] ++ [(P k, V k)], by omega, by go_num, Lib.hid ?_, by first | (simp at hLk ⊢; omega) | (simp at hLk ⊢), HN, ?_⟩
          · rw [List.length_append, List.length_singleton, ← mdVs_snoc]
            exact hown4
          · exact (hBr.alloc hBr.size _).grown hgrow4 (by have := hBr.size; simp; omega) hown.out
        case measure => simp [intOf]; omega
      · rw [List.concat_eq_append] at hLc
        subst hLc
        have hT1 := hT.out
        have hOs := hO.out
        have hlx : L'.length < (L' ++ [(x, y)]).length := by simp
        obtain ⟨ag, rfl⟩ : ∃ g, ao = some ⟨g, 0, none⟩ := by
          rcases hO.out.2 with ⟨_, h1⟩ | ⟨g, c, cur, h1, _⟩
          · simp at h1
          · injection h1 with h1; exact ⟨g, h1⟩
        obtain ⟨d0, d1, hno⟩ := own_cells (i := L'.length) (x := x) (y := y) hOs (by simp)
        have hnl : no = L'.length + 1 := by rw [hno]; simp
        clear hno
        subst hnl
        replace d0 := Below.cell_some hba d0
        replace d1 := Below.cell_some hba d1
        have hOa := ownsRow_kept hO.out hba
        have hBa := below_step hBr hba
        have hw1 := wrap_nat L'.length (by simp at hLk; omega)
        have hm1 : ((L'.length + 1 : Nat) : Int) - 1 = (L'.length : Int) := by omega
        clear hT hO
        have hnn1 : decide ((L'.length : Int) ≥ 0) = true := decide_eq_true (by omega)
        have hnn2 : decide (0 ≤ (L'.length : Int)) = true := decide_eq_true (by omega)
        by_cases hxp : x = P k
        · subst hxp
          go_wp2_with fail
          generalize wr.alloc (.cells #[.string (P k), .string (V k)] 38) = wa at *
          have kqd0 := fun d os => cell_patch (d := d) (os := os) d0
          have kqy0 := fun d os => cell_patch (d := d) (os := os) y0
          refine wp_region_quiet_patch (by kernel_rfl) (by kernel_rfl) ?_
          repeat (go_big_quiet_step (fail))
          refine wpQuiet_nil ?_
          intro _ hw'
          obtain ⟨⟨dq, osq⟩, hw''⟩ := hw'
          subst hw''
          clear kqd0 kqy0
          have hb := below_patch wa dq osq
          replace hBa := below_step hBa hb
          replace hOa := hOa.below hb
          replace y0 := Below.cell_some hb y0
          replace y1 := Below.cell_some hb y1
          clear hb
          generalize patch wa dq osq = w5 at hBa hOa y0 y1 ⊢
          clear d0 d1
          obtain ⟨d0, d1, -⟩ := own_cells (i := L'.length) (x := P k) (y := y) hOa (by simp)
          have f0 := own_frozen (j := L'.length * 2) hOa
          have f1 := own_frozen (j := L'.length * 2 + 1) hOa
          have s1 : (w5.setCell ⟨ag, L'.length * 2, none⟩ (.string (P k))).cell? ⟨ag, L'.length * 2 + 1, none⟩ = some (.string y) := by rw [set_off _ (by omega)]; exact d1
          have s2 : (w5.setCell ⟨ag, L'.length * 2, none⟩ (.string (P k))).frozen? ⟨ag, L'.length * 2 + 1, none⟩ = false := by simpa using f1
          have HP := Lib.hid (own_put (i := L'.length) hOa (P k) (V k))
          have HN : Hid (mdTs ((L' ++ [(P k, y)]).set L'.length (P k, V k)) = greatest ((mdF n P V).take (k + 1))) := Lib.hid (by
            rw [HTK.out, greatest_snoc, ← hT1, grow1_same rfl])
          have hag := Lib.hid (hown.out ag rfl)
          have hLk2 := Lib.hid hLk
          clear hOa hOs hT1 HTK hLk hlx
          have hi1 : (L'.length : Int) < (L'.length : Int) + 1 := by omega
          go_wp2_with fail
          go_roundw
          case rel =>
            refine ⟨k + 1, (L' ++ [(P k, y)]).set L'.length (P k, V k), by omega, by go_num, HP, by rw [List.length_set]; have := hLk2.out; omega, HN, below_put hBa hag.out _ _⟩
          case measure => simp [intOf]; omega
        · have hq1 : (x.toList == (P k).toList) = false := by rw [toList_data, toList_data]; exact beq_eq_false_iff_ne.2 (fun e => hxp (bytes_eq.1 e))
          go_wp2_with fail
          generalize wr.alloc (.cells #[.string (P k), .string (V k)] 38) = wa at *
          have kqd0 := fun d os => cell_patch (d := d) (os := os) d0
          have kqy0 := fun d os => cell_patch (d := d) (os := os) y0
          refine wp_region_quiet_patch (by kernel_rfl) (by kernel_rfl) ?_
          repeat (go_big_quiet_step (fail))
          refine wpQuiet_nil ?_
          intro _ hw'
          obtain ⟨⟨dq, osq⟩, hw''⟩ := hw'
          subst hw''
          clear kqd0 kqy0
          have hb := below_patch wa dq osq
          replace hBa := below_step hBa hb
          replace hOa := hOa.below hb
          replace y0 := Below.cell_some hb y0
          replace y1 := Below.cell_some hb y1
          clear hb
          generalize patch wa dq osq = w5 at hBa hOa y0 y1 ⊢
          have HO := Lib.hid hOa
          have HN : Hid (mdTs (L' ++ [(x, y)] ++ [(P k, V k)]) = greatest ((mdF n P V).take (k + 1))) := Lib.hid (by
            rw [HTK.out, greatest_snoc, ← hT1, grow1_less hxp])
          have hLk2 : L'.length + 1 ≤ k := by simpa using hLk
          replace hBr := hBa
          clear hOa hOs hT1 HTK d0 d1
          go_wp2_with (at_builtin; refine wpList_append_own _ rfl _ _ 23 rfl w.heap.size 38 i0 (.agg #[.string ⟨#[]⟩, .string ⟨#[]⟩]) 2 32 Tryz.underlying23 hi hz0 hz1 hz2 rfl (by decide) _ _ _ rfl (HO.out.alloc _) ⟨w5.heap.size, 0, none⟩ 1 1 [.string (P k), .string (V k)] rfl rfl (cell_two_new _ _ _ _) (by intro u hu; simp at hu; rcases hu with rfl | rfl <;> rfl) (by unfold maxLen; omega) (by omega) (by have := hBr.size; simp; omega) ?_; intro o' w4 hown4 hgrow4 _)
          go_roundw
          case rel =>
            refine ⟨k + 1, (L' ++ [(x, y)]) ++ [(P k, V k)], by omega, by go_num, Lib.hid ?_, by first | (simp at hLk ⊢; omega) | (simp at hLk ⊢), HN, ?_⟩
            · rw [List.length_append, List.length_singleton, ← mdVs_snoc]
              exact hown4
            · exact (hBr.alloc hBr.size _).grown hgrow4 (by have := hBr.size; simp; omega) hown.out
          case measure => simp [intOf]; omega
    · obtain rfl : k = n := by omega
      have HF : Hid (mdTs L = greatest (mdF k P V)) := Lib.hid (by rw [hT.out, mdF_take_all])
      have HOr := hO
      clear hT hlt
      go_wp2_with fail
      go_ret
      exact ⟨⟨_, L, rfl, HF.out, HOr.out⟩, hBr⟩
end Go.Proofs.Pw

namespace Go.Proofs.Pw
open Go.RowKit
open Go.Lib hiding intOf
noncomputable def buildR (l : List En) (roots : List Md) : List Md := if (startErr l roots).1 = 0 then buildL l roots else []
theorem build_of {l : List En} {roots : List Md} : greatest (reachR l roots) = buildR l roots := by
  unfold reachR buildR
  by_cases h0 : (startErr l roots).1 = 0
  · rw [if_pos h0, if_pos h0]; rfl
  · rw [if_neg h0, if_neg h0]; rfl
theorem build_len {l : List En} {roots : List Md} (h : RightG l roots) : (buildL l roots).length ≤ 100 := by
  have h1 : (buildL l roots).length ≤ (reachL l roots).length := List.Nodup.length_le_of_subset (by
    have := h.great.rises
    unfold Rises at this
    exact this.imp fun {x y} h e => by subst e; rw [modCmp_ord.self] at h; omega) (fun m hm => h.great.sub m hm)
  have h2 : (reachL l roots).length ≤ l.length := by
    unfold reachL
    exact Nat.le_trans (List.length_filter_le _ _) (by rw [List.length_map]; exact Nat.le_refl _)
  have := h.idx.len
  omega
theorem mvsBuild_in (ks : List Nat) (A : Nat → Addr) (hks : IdxKs ks) (a : Option Addr) (n cap : Nat) (P V : Nat → ByteArray) (R : Nat → List Md) (K : Nat → List Str) (Bk : Nat → Bool) (Rv Kv : Nat → Value) (rv : Value) (roots : List Md) (w : World) (hE : EnvP ks A w) (h : EntsIn w a n cap P V R K Bk Rv Kv) (hs : ShortI (enF n P V R K Bk)) (hr : ModsAt w rv roots) (hl : roots.length ≤ 100000) :
    Calls Tryz.prog 21 #[.slice a n cap, rv] w fun e w' => (∃ x ev, e = .returned (.tuple #[x, ev]) ∧ FaultAt A w' ev (startErr (enF n P V R K Bk) roots) ∧ ModsAt w' x (buildR (enF n P V R K Bk) roots)) ∧ Below w.heap.size w w' := by
  have hre := grReach_in ks A hks a n cap P V R K Bk Rv Kv rv roots w hE h hs hr hl
  obtain ⟨ar, rn, rc, _, _, rfl, _⟩ := id hr
  have hlen : (reachR (enF n P V R K Bk) roots).length ≤ 1000000 := by
    unfold reachR
    by_cases h0 : (startErr (enF n P V R K Bk) roots).1 = 0
    · rw [if_pos h0]
      have h2 : (reachL (enF n P V R K Bk) roots).length ≤ (enF n P V R K Bk).length := by
        unfold reachL
        exact Nat.le_trans (List.length_filter_le _ _) (by rw [List.length_map]; exact Nat.le_refl _)
      have := (rightG_of h0).idx.len
      omega
    · rw [if_neg h0]; decide
  have hbu := build_of (l := enF n P V R K Bk) (roots := roots)
  have hbe : (startErr (enF n P V R K Bk) roots).1 ≠ 0 → buildR (enF n P V R K Bk) roots = [] := fun h0 => by unfold buildR; rw [if_neg h0]
  generalize reachR (enF n P V R K Bk) roots = X at hre hlen hbu
  generalize buildR (enF n P V R K Bk) roots = Y at hbu hbe ⊢
  replace hre := Lib.hid hre
  clear h hs hr hE
  go_enter Tryz.func21, Tryz.ntmps21
  go_wp2_with fail
  refine hre.out.mono ?_
  rintro e w1 ⟨⟨x, ev, rfl, hf, hx⟩, hB⟩
  have hgr := greatest_calls x X w1 hx hlen
  obtain ⟨ax, nx, cx, _, _, rfl, _⟩ := id hx
  replace hgr := Lib.hid hgr
  clear hre hx hlen
  rcases fault_form hf with ⟨h0, rfl⟩ | ⟨h0, ty, q, rfl⟩
  · have HF := Lib.hid hf
    clear hf h0 hbe
    go_wp2_with fail
    refine hgr.out.mono ?_
    rintro e w2 ⟨⟨v2, L, rfl, hL, ho⟩, hb2⟩
    have hM := modsAt_own ho
    rw [hL, hbu] at hM
    have HM := Lib.hid hM
    clear hM ho hL
    go_wp2_with fail
    go_ret2
    exact ⟨⟨_, _, rfl, HF.out.below hb2, HM.out⟩, below_step hB hb2⟩
  · have HF := Lib.hid hf
    have HY := Lib.hid (hbe h0)
    clear hf h0 hbe hbu hgr
    go_wp2_with fail
    go_ret2
    refine ⟨⟨_, _, rfl, HF.out, ?_⟩, hB⟩
    rw [HY.out]
    exact ModsAt.nil _
end Go.Proofs.Pw

namespace Go.Proofs.Pw
open Go.RowKit
open Go.Lib hiding intOf
end Go.Proofs.Pw

namespace Go.Proofs.Pw
open Go.RowKit
open Go.Lib hiding intOf
theorem ModsAt.take {w : World} {a : Option Addr} {n cap k : Nat} {l : List Md} (h : ModsAt w (.slice a n cap) l) (hk : k ≤ n) : ModsAt w (.slice a k cap) (l.take k) := by
  obtain ⟨a', n', cap', P, V, e, rfl, h3, h4, h5⟩ := h
  injection e with e1 e2 e3
  subst e1 e2 e3
  refine ⟨a, k, cap, P, V, rfl, ?_, by omega, h4, fun j hj => h5 j (by omega)⟩
  unfold mdF
  rw [← List.map_take, List.take_range, Nat.min_eq_left hk]
def smRoots2 : List Md := [(sA.data.toList, v100.data.toList), (sA.data.toList, v110.data.toList)]
theorem sm_err2 : startErr smL smRoots2 = (0, -1) := by decide +kernel
theorem sm_right2 : RightG smL smRoots2 := rightG_of (by rw [sm_err2])
theorem sm_build : buildR smL smRoots2 = smX := by
  unfold buildR
  rw [if_pos (by rw [sm_err2])]
  refine rises_ext modCmp_ord sm_right2.great.rises sm_rises fun m => ?_
  rw [build_mem sm_right2]
  have hT : ∀ x, Reached smL smRoots2 x → x ∈ [(sA.data.toList, v100.data.toList), (sA.data.toList, v110.data.toList), (sB.data.toList, v010.data.toList)] := fun x hx => reached_closed (by decide +kernel) (by decide +kernel) hx
  have r110 : Reached smL smRoots2 (sA.data.toList, v110.data.toList) := .root (by decide +kernel)
  have hm : (enAt smL 1) ∈ smL := enAt_mem (by decide +kernel)
  have r010 : Reached smL smRoots2 (sB.data.toList, v010.data.toList) := .step (e := enAt smL 1) hm r110 (by decide +kernel)
  constructor
  · rintro ⟨h1, h2⟩
    have h3 := hT m h1
    simp only [List.mem_cons, List.mem_nil_iff, or_false] at h3
    rcases h3 with rfl | rfl | rfl
    · exact absurd (h2 _ r110 rfl) (by decide +kernel)
    · simp [smX]
    · simp [smX]
  · intro h
    simp only [smX, List.mem_cons, List.mem_nil_iff, or_false] at h
    rcases h with rfl | rfl
    · refine ⟨r110, fun x hx e => ?_⟩
      have h3 := hT x hx
      simp only [List.mem_cons, List.mem_nil_iff, or_false] at h3
      rcases h3 with rfl | rfl | rfl
      · decide +kernel
      · decide +kernel
      · exact absurd e (by decide +kernel)
    · refine ⟨r010, fun x hx e => ?_⟩
      have h3 := hT x hx
      simp only [List.mem_cons, List.mem_nil_iff, or_false] at h3
      rcases h3 with rfl | rfl | rfl
      · exact absurd e (by decide +kernel)
      · exact absurd e (by decide +kernel)
      · decide +kernel
end Go.Proofs.Pw

namespace Go.Proofs.Pw
open Go.Lib hiding intOf
theorem RightG.subl {l : List En} {sel out : List Md} (h : RightG l sel) (hs : out.Sublist sel) : RightG l out := ⟨h.idx, fun m hm => h.at_ m (hs.subset hm)⟩
theorem reached_subl {l : List En} {sel out : List Md} (hs : out.Sublist sel) {m : Md} (h : Reached l out m) : Reached l sel m := reached_sub (fun _ hy => .root (hs.subset hy)) h
structure TlFacts (l : List En) (sel x : List Md) : Prop where
  sub : x.Sublist sel
  same : buildL l x = sel
  least : ∀ j, j < x.length → buildL l (x.eraseIdx j) ≠ sel
theorem TlFacts.under {l : List En} {sel x : List Md} (hG : RightG l sel) (hS : buildL l sel = sel) (h : TlFacts l sel x) {y : List Md} (hy : y.Sublist x) : underB (buildL l y) sel = true := by
  have hs := hy.trans h.sub
  have := build_under (hG.subl hs) hG (fun m hm => reached_subl hs hm)
  rw [hS] at this
  exact this
end Go.Proofs.Pw

namespace Go.Proofs.Pw
open Go.RowKit
open Go.Lib hiding intOf
set_option maxRecDepth 100000 in
theorem equalM_calls (v u : Value) (l m : List Md) (w : World) (h : ModsAt w v l) (g : ModsAt w u m) :
    Calls Tryz.prog 78 #[v, u] w fun e w' => e = .returned (.bool (decide (l = m))) ∧ Below w.heap.size w w' := by
  obtain ⟨a, n, cap, P, V, rfl, rfl, hn, hcap, hc⟩ := h
  obtain ⟨a', n', cap', Q, U, rfl, rfl, hn', hcap', hc'⟩ := g
  have hg := Tryz.md_guard
  have hq := md_neq
  by_cases hnn : n = n'
  · subst hnn
    replace hc := Lib.hid hc
    replace hc' := Lib.hid hc'
    go_enter Tryz.func78, Tryz.ntmps78
    go_wp2_with fail
    go_loopw [5, 13] (fun _ i wr => ∃ k : Nat, k ≤ n ∧ i = .int .i64 k ∧ Below w.heap.size w wr ∧ Hid (∀ j, j < k → P j = Q j ∧ V j = U j)) (fun _ i _ => n - (intOf i).toNat)
    case atStart => exact ⟨0, by omega, rfl, Below.refl _ _, Lib.hid (fun j hj => absurd hj (Nat.not_lt_zero _))⟩
    case round =>
      obtain ⟨k, hk, rfl, hb, HA⟩ := hrel
      by_cases hlt : k < n
      · obtain ⟨b1, o1, rfl, d1, d2⟩ := hc.out k hlt
        obtain ⟨b2, o2, rfl, d3, d4⟩ := hc'.out k hlt
        replace d1 := Below.cell_some hb d1
        replace d2 := Below.cell_some hb d2
        replace d3 := Below.cell_some hb d3
        replace d4 := Below.cell_some hb d4
        by_cases he : P k = Q k ∧ V k = U k
        · have HE := Lib.hid he
          have hd := decide_eq_true he
          clear he
          go_wp2_with fail
          go_region
          all_goals
            go_wp2_with fail
            go_roundw
            case rel =>
              refine ⟨k + 1, by omega, by go_num, hb.drew, Lib.hid (fun j hj => ?_)⟩
              by_cases e : j = k
              · subst e; exact HE.out
              · exact HA.out j (by omega)
            case measure => simp [intOf]; omega
        · have HF : Hid (decide (mdF n P V = mdF n Q U) = false) := Lib.hid (decide_eq_false (fun e => he (mdF_ext.1 e k hlt)))
          have hd := decide_eq_false he
          clear he
          go_wp2_with fail
          go_region
          all_goals
            go_wp2_with fail
            go_ret
            rw [HF.out]
            exact ⟨rfl, hb.drew⟩
      · obtain rfl : k = n := by omega
        have HF : Hid (decide (mdF k P V = mdF k Q U) = true) := Lib.hid (decide_eq_true (mdF_ext.2 HA.out))
        go_wp2_with fail
        go_ret
        rw [HF.out]
        exact ⟨rfl, hb⟩
  · have HF : Hid (decide (mdF n P V = mdF n' Q U) = false) := Lib.hid (decide_eq_false (fun e => hnn (by have := congrArg List.length e; rwa [mdF_length, mdF_length] at this)))
    have hnn2 : ((n : Int) == (n' : Int)) = false := beq_eq_false_iff_ne.2 (by omega)
    clear hc hc' hnn hg hq
    go_enter Tryz.func78, Tryz.ntmps78
    go_wp2_with fail
    go_ret
    rw [HF.out]
    exact ⟨rfl, Below.refl _ _⟩
end Go.Proofs.Pw

namespace Go.Proofs.Pw
open Go.RowKit
open Go.Lib hiding intOf
end Go.Proofs.Pw

namespace Go.Proofs.Pw
open Go.RowKit
open Go.Lib hiding intOf
theorem smX_err : startErr smL smX = (0, -1) := by decide +kernel
theorem smX_right : RightG smL smX := rightG_of (by rw [smX_err])
theorem sm_build2 : buildL smL smRoots2 = smX := by
  have := sm_build
  unfold buildR at this
  rw [if_pos (by rw [sm_err2])] at this
  exact this
theorem smX_build : buildL smL smX = smX := by
  have := build_again sm_right2
  rw [sm_build2] at this
  exact this
end Go.Proofs.Pw

namespace Go.Proofs.Pw
open Go.Lib hiding intOf
def versL (l : List En) (p : Str) : List Str := (l.filter fun e => decide (e.md.1 = p)).map (·.md.2)
def backB (l : List En) (p v : Str) : Bool := decide (0 ≤ findE l (p, v)) && (enAt l (findE l (p, v)).toNat).back
def preB (v : Str) : Bool := decide (verErr v ≠ 0) || decide (0 < (verPre v).length)
def likedL (l : List En) (p : Str) (vs : List Str) : List Str :=
  if vs.filter (fun v => !(backB l p v || preB v)) ≠ [] then vs.filter (fun v => !(backB l p v || preB v))
  else if vs.filter (fun v => !backB l p v) ≠ [] then vs.filter (fun v => !backB l p v) else vs
def lastS (vs : List Str) : Str := (vs.getLast?).getD []
def latestL (l : List En) (p : Str) : Str := lastS (likedL l p (vsort (versL l p)))
def rankS (l : List En) (p v : Str) : Nat := if backB l p v = true then 0 else if preB v = true then 1 else 2
def bestS (rk : Str → Nat) : List Str → Str × Int → Str × Int
  | [], b => b
  | v :: r, b => bestS rk r (if b.2 ≤ (rk v : Int) then (v, (rk v : Int)) else b)
theorem bestS_app (rk : Str → Nat) : ∀ (a b : List Str) (x : Str × Int), bestS rk (a ++ b) x = bestS rk b (bestS rk a x)
  | [], _, _ => rfl
  | v :: a, b, x => by simp only [List.cons_append, bestS]; exact bestS_app rk a b _
theorem bestS_snoc (rk : Str → Nat) (l : List Str) (v : Str) (x : Str × Int) : bestS rk (l ++ [v]) x = if (bestS rk l x).2 ≤ (rk v : Int) then (v, (rk v : Int)) else bestS rk l x := by
  rw [bestS_app]; rfl
theorem snoc_ind {α : Type} {p : List α → Prop} (h0 : p []) (h1 : ∀ l a, p l → p (l ++ [a])) (l : List α) : p l := by
  have : ∀ r : List α, p r.reverse := fun r => by
    induction r with
    | nil => exact h0
    | cons a r ih => rw [List.reverse_cons]; exact h1 _ _ ih
  have h := this l.reverse
  rwa [List.reverse_reverse] at h
theorem bestS_spec (rk : Str → Nat) (l : List Str) : (l = [] ∧ bestS rk l ([], -1) = ([], -1)) ∨ ∃ k : Nat, (bestS rk l ([], -1)).2 = k ∧ (∀ v ∈ l, rk v ≤ k) ∧ (l.filter fun v => decide (k ≤ rk v)) ≠ [] ∧ (bestS rk l ([], -1)).1 = lastS (l.filter fun v => decide (k ≤ rk v)) := by
  induction l using snoc_ind with
  | h0 => exact .inl ⟨rfl, rfl⟩
  | h1 l v ih =>
    right
    rw [bestS_snoc]
    rcases ih with ⟨h1, h2⟩ | ⟨k, h1, h2, h3, h4⟩
    · subst h1
      rw [h2]
      refine ⟨rk v, ?_, fun x hx => ?_, ?_, ?_⟩
      · rw [if_pos (by omega)]
      · simp at hx; rw [hx]; exact Nat.le_refl _
      · simp
      · rw [if_pos (by omega)]; simp [lastS]
    · by_cases hle : k ≤ rk v
      · refine ⟨rk v, ?_, fun x hx => ?_, ?_, ?_⟩
        · rw [if_pos (by rw [h1]; omega)]
        · rcases List.mem_append.1 hx with h | h
          · exact Nat.le_trans (h2 x h) hle
          · simp at h; rw [h]; exact Nat.le_refl _
        · rw [List.filter_append]; simp
        · rw [if_pos (by rw [h1]; omega), List.filter_append]
          simp [lastS]
      · refine ⟨k, ?_, fun x hx => ?_, ?_, ?_⟩
        · rw [if_neg (by rw [h1]; omega)]; exact h1
        · rcases List.mem_append.1 hx with h | h
          · exact h2 x h
          · simp at h; rw [h]; omega
        · rw [List.filter_append]
          intro h
          exact h3 (List.append_eq_nil_iff.1 h).1
        · rw [if_neg (by rw [h1]; omega), List.filter_append]
          have : ([v].filter fun x => decide (k ≤ rk x)) = [] := by simp [hle]
          rw [this, List.append_nil]
          exact h4
theorem latest_best (l : List En) (p : Str) (vs : List Str) : (bestS (rankS l p) vs ([], -1)).1 = lastS (likedL l p vs) := by
  have e2 : ∀ v, decide (2 ≤ rankS l p v) = !(backB l p v || preB v) := fun v => by
    unfold rankS
    cases backB l p v <;> cases preB v <;> simp
  have e1 : ∀ v, decide (1 ≤ rankS l p v) = !backB l p v := fun v => by
    unfold rankS
    cases backB l p v <;> cases preB v <;> simp
  have e0 : ∀ v, decide (0 ≤ rankS l p v) = true := fun v => by simp
  have f2 : vs.filter (fun v => decide (2 ≤ rankS l p v)) = vs.filter fun v => !(backB l p v || preB v) := List.filter_congr (fun v _ => e2 v)
  have f1 : vs.filter (fun v => decide (1 ≤ rankS l p v)) = vs.filter fun v => !backB l p v := List.filter_congr (fun v _ => e1 v)
  have f0 : vs.filter (fun v => decide (0 ≤ rankS l p v)) = vs := List.filter_eq_self.2 (fun v _ => e0 v)
  have hle : ∀ v, rankS l p v ≤ 2 := fun v => by unfold rankS; split <;> (try split) <;> omega
  have none_of : ∀ {q : Str → Bool}, (∀ v ∈ vs, q v = false) → vs.filter q = [] := fun h => List.filter_eq_nil_iff.2 (fun v hv => by rw [h v hv]; decide)
  rcases bestS_spec (rankS l p) vs with ⟨h1, h2⟩ | ⟨k, h1, h2, h3, h4⟩
  · subst h1
    rw [h2]
    rfl
  · rw [h4]
    obtain ⟨v0, hv0⟩ := List.exists_mem_of_ne_nil _ h3
    have hv1 := (List.mem_filter.1 hv0).1
    have hv2 : k ≤ rankS l p v0 := of_decide_eq_true (List.mem_filter.1 hv0).2
    have hk2 : k ≤ 2 := Nat.le_trans hv2 (hle v0)
    unfold likedL
    by_cases hk : k = 2
    · subst hk
      rw [f2] at h3 ⊢
      rw [if_pos h3]
    · have n2 : vs.filter (fun v => !(backB l p v || preB v)) = [] := by
        rw [← f2]
        exact none_of (fun v hv => decide_eq_false (by have := h2 v hv; omega))
      rw [if_neg (by rw [n2]; exact fun h => h rfl)]
      by_cases hk1 : k = 1
      · subst hk1
        rw [f1] at h3 ⊢
        rw [if_pos h3]
      · have hk0 : k = 0 := by omega
        subst hk0
        have n1 : vs.filter (fun v => !backB l p v) = [] := by
          rw [← f1]
          exact none_of (fun v hv => decide_eq_false (by have := h2 v hv; omega))
        rw [if_neg (by rw [n1]; exact fun h => h rfl), f0]
theorem likedL_sub {l : List En} {p : Str} {vs : List Str} {v : Str} (h : v ∈ likedL l p vs) : v ∈ vs := by
  unfold likedL at h
  split at h
  · exact (List.mem_filter.1 h).1
  · split at h
    · exact (List.mem_filter.1 h).1
    · exact h
theorem likedL_len (l : List En) (p : Str) (vs : List Str) : (likedL l p vs).length ≤ vs.length := by
  unfold likedL
  split
  · exact List.length_filter_le _ _
  · split
    · exact List.length_filter_le _ _
    · exact Nat.le_refl _
theorem likedL_ne {l : List En} {p : Str} {vs : List Str} (h : vs ≠ []) : likedL l p vs ≠ [] := by
  unfold likedL
  split
  · assumption
  · split
    · assumption
    · exact h
theorem lastS_mem {vs : List Str} (h : vs ≠ []) : lastS vs ∈ vs := by
  unfold lastS
  rw [List.getLast?_eq_some_getLast h, Option.getD_some]
  exact List.getLast_mem h
theorem versL_mem {l : List En} {p v : Str} : v ∈ versL l p ↔ ∃ e ∈ l, e.md = (p, v) := by
  unfold versL
  rw [List.mem_map]
  constructor
  · rintro ⟨e, he, rfl⟩
    exact ⟨e, (List.mem_filter.1 he).1, by rw [← of_decide_eq_true (List.mem_filter.1 he).2]⟩
  · rintro ⟨e, he, e1⟩
    refine ⟨e, List.mem_filter.2 ⟨he, decide_eq_true (by rw [e1])⟩, by rw [e1]⟩
theorem vsort_len (l : List Str) : (vsort l).length ≤ l.length := List.Nodup.length_le_of_subset (by
  have := vsort_rises l
  unfold Rises at this
  exact this.imp fun {x y} h e => by subst e; rw [verCmp_ord.self] at h; omega) (fun m hm => ((vsort_mem l m).1 hm).1)
theorem versL_snoc (l : List En) (e : En) (p : Str) : versL (l ++ [e]) p = versL l p ++ (if e.md.1 = p then [e.md.2] else []) := by
  unfold versL
  rw [List.filter_append, List.map_append]
  congr 1
  by_cases h : e.md.1 = p
  · simp [h]
  · simp [h]
theorem versL_len (l : List En) (p : Str) : (versL l p).length ≤ l.length := by
  unfold versL
  rw [List.length_map]
  exact List.length_filter_le _ _
end Go.Proofs.Pw

namespace Go.Proofs.Pw
open Go.Lib hiding intOf
def riseB (l : List Md) : Bool := (List.range (l.length - 1)).all fun i => decide (compareBytes (mdAt l i).1 (mdAt l (i + 1)).1 < 0)
end Go.Proofs.Pw

namespace Go.Proofs.Pw
open Go.Lib hiding intOf
def latestM (l : List En) (sel : List Md) : List Md := sel.map fun m => (m.1, latestL l m.1)
theorem latestM_len (l : List En) (sel : List Md) : (latestM l sel).length = sel.length := by unfold latestM; rw [List.length_map]
theorem latestM_snoc (l : List En) (sel : List Md) (m : Md) : latestM l (sel ++ [m]) = latestM l sel ++ [(m.1, latestL l m.1)] := by simp [latestM]
theorem latest_in {l : List En} (h : RightI l) {m : Md} {e : En} (he : e ∈ l) (hm : e.md = m) : ∃ e ∈ l, e.md = (m.1, latestL l m.1) := by
  have h1 : m.2 ∈ versL l m.1 := versL_mem.2 ⟨e, he, hm⟩
  have h2 : m.2 ∈ vsort (versL l m.1) := (vsort_mem _ _).2 ⟨h1, by rw [← hm]; exact (modErr_zero (h.mds e he)).2⟩
  have h3 : vsort (versL l m.1) ≠ [] := fun e => by rw [e] at h2; cases h2
  have h4 := likedL_sub (lastS_mem (likedL_ne (l := l) (p := m.1) h3))
  exact versL_mem.1 ((vsort_mem _ _).1 h4).1
def oneErr (l : List En) (roots : List Md) (m : Md) : Nat × Int := orE (startErr l roots) (if findE l m < 0 then (5, -1) else (0, -1))
noncomputable def oneR (l : List En) (roots : List Md) (m : Md) : List Md := if (oneErr l roots m).1 = 0 then buildL l (roots ++ [m]) else []
theorem one_start {l : List En} {roots : List Md} {m : Md} (h : (startErr l roots).1 = 0) (hm : ¬ findE l m < 0) : (startErr l (roots ++ [m])).1 = 0 := by
  rw [startErr_app]
  refine ⟨h, ?_⟩
  unfold startErr at h ⊢
  rw [orE_zero] at h ⊢
  refine ⟨h.1, rootsErr_zero.2 fun x hx => ?_⟩
  simp only [List.mem_singleton] at hx
  subst hx
  obtain ⟨k, _, hk, e⟩ := findE_nat hm
  exact ⟨_, enAt_mem hk, e⟩
def newsB (l : List En) (m : Md) : Bool := verLess m.2 (latestL l m.1)
def newsL (l : List En) (sel : List Md) : List Md := latestM l (sel.filter (newsB l))
def newsErr (l : List En) (sel : List Md) : Nat × Int := orE (idxErr l) (if riseB sel = true then (0, -1) else (8, -1))
def newsR (l : List En) (sel : List Md) : List Md := if (newsErr l sel).1 = 0 then newsL l sel else []
theorem newsL_snoc (l : List En) (sel : List Md) (m : Md) : newsL l (sel ++ [m]) = newsL l sel ++ (if newsB l m = true then [(m.1, latestL l m.1)] else []) := by
  unfold newsL
  rw [List.filter_append]
  cases h : newsB l m
  · simp [h, latestM]
  · simp [h, latestM]
noncomputable def nextL (l : List En) (sel : List Md) : List Md := buildL l (sel ++ latestM l sel)
noncomputable def allF (l : List En) : Nat → List Md → List Md
  | 0, sel => sel
  | n + 1, sel => if nextL l sel = sel then sel else allF l n (nextL l sel)
noncomputable def allL (l : List En) (roots : List Md) : List Md := allF l (l.length + 1) (buildL l roots)
def coverB (x : List Md) (m : Md) : Bool := x.any fun y => decide (y.1 = m.1) && decide (verCmp m.2 y.2 ≤ 0)
theorem coverB_iff {x : List Md} {m : Md} : coverB x m = true ↔ ∃ y ∈ x, y.1 = m.1 ∧ verCmp m.2 y.2 ≤ 0 := by
  unfold coverB
  rw [List.any_eq_true]
  simp only [Bool.and_eq_true, decide_eq_true_eq]
def weight (l : List En) (x : List Md) : Nat := l.countP fun e => coverB x e.md
theorem countP_lt {α : Type} {p q : α → Bool} : ∀ {l : List α}, (∀ a ∈ l, p a = true → q a = true) → (∃ a ∈ l, q a = true ∧ p a = false) → l.countP p < l.countP q
  | [], _, h => by obtain ⟨a, ha, _⟩ := h; cases ha
  | a :: r, h1, h2 => by
    have hm : r.countP p ≤ r.countP q := List.countP_mono_left fun x hx => h1 x (by simp [hx])
    rw [List.countP_cons, List.countP_cons]
    obtain ⟨b, hb, hq, hp⟩ := h2
    rcases List.mem_cons.1 hb with rfl | hb
    · rw [hq, hp]
      simp only [if_true, Bool.false_eq_true, if_false]
      omega
    · have ih := countP_lt (fun x hx => h1 x (by simp [hx])) ⟨b, hb, hq, hp⟩
      have h3 := h1 a (by simp)
      cases hpa : p a
      · simp only [Bool.false_eq_true, if_false]
        omega
      · rw [h3 hpa]
        simp only [if_true]
        omega
theorem weight_le (l : List En) (x : List Md) : weight l x ≤ l.length := List.countP_le_length
structure SelOk (l : List En) (x : List Md) : Prop where
  right : RightG l x
  rise : RiseP x
def OverM (x y : List Md) : Prop := ∀ m ∈ x, ∃ z ∈ y, z.1 = m.1 ∧ verCmp m.2 z.2 ≤ 0
theorem OverM.trans {x y z : List Md} (h1 : OverM x y) (h2 : OverM y z) : OverM x z := fun m hm => by
  obtain ⟨a, ha, e1, h3⟩ := h1 m hm
  obtain ⟨b, hb, e2, h4⟩ := h2 a ha
  exact ⟨b, hb, e2.trans e1, le_trans3 h3 h4⟩
theorem OverM.cover {x y : List Md} (h : OverM x y) {m : Md} (hm : coverB x m = true) : coverB y m = true := by
  obtain ⟨a, ha, e1, h1⟩ := coverB_iff.1 hm
  obtain ⟨b, hb, e2, h2⟩ := h a ha
  exact coverB_iff.2 ⟨b, hb, e2.trans e1, le_trans3 h1 h2⟩
theorem SelOk.md {l : List En} {x : List Md} (h : SelOk l x) {m : Md} (hm : m ∈ x) : mdErr m = 0 := h.right.right (.root hm)
theorem riseP_rises {x : List Md} (h : RiseP x) : Rises modCmp x := (great_self h).rises
theorem over_anti {l : List En} {x y : List Md} (hx : SelOk l x) (hy : SelOk l y) (h1 : OverM x y) (h2 : OverM y x) : x = y := by
  have key : ∀ {x y : List Md}, SelOk l x → SelOk l y → OverM x y → OverM y x → ∀ m ∈ x, m ∈ y := fun {x y} hx hy h1 h2 m hm => by
    obtain ⟨a, ha, e1, h3⟩ := h1 m hm
    obtain ⟨b, hb, e2, h4⟩ := h2 a ha
    have e3 : b = m := hx.rise.unique hb hm (e2.trans e1)
    subst e3
    have h5 : verCmp b.2 a.2 = 0 := by
      have := verCmp_ord.anti a.2 b.2
      have := verCmp_ord.anti b.2 a.2
      omega
    have : b = a := modCmp_zero (hx.md hb) (hy.md ha) (by unfold modCmp; rw [orI_eq, e1, compareBytes_self]; exact ⟨rfl, h5⟩)
    rw [this]; exact ha
  exact rises_ext modCmp_ord (riseP_rises hx.rise) (riseP_rises hy.rise) fun m => ⟨key hx hy h1 h2 m, key hy hx h2 h1 m⟩
theorem weight_lt {l : List En} {x y : List Md} (hx : SelOk l x) (hy : SelOk l y) (h : OverM x y) (hne : y ≠ x) : weight l x < weight l y := by
  refine countP_lt (fun e _ he => h.cover he) ?_
  apply Classical.byContradiction
  intro hno
  refine hne (over_anti hy hx (fun m hm => ?_) h)
  obtain ⟨e, he, e1⟩ := hy.right.at_ m hm
  cases hc : coverB x e.md
  · refine absurd ⟨e, he, ?_, hc⟩ hno
    rw [e1]
    exact coverB_iff.2 ⟨m, hm, rfl, by rw [verCmp_ord.self]; decide⟩
  · rw [e1] at hc
    exact coverB_iff.1 hc
theorem next_right {l : List En} {x : List Md} (hx : RightG l x) : RightG l (x ++ latestM l x) := ⟨hx.idx, fun m hm => by
  rcases List.mem_append.1 hm with h | h
  · exact hx.at_ m h
  · unfold latestM at h
    obtain ⟨y, hy, rfl⟩ := List.mem_map.1 h
    obtain ⟨e, he, e1⟩ := hx.at_ y hy
    exact latest_in hx.idx he e1⟩
theorem build_ok {l : List En} {A : List Md} (h : RightG l A) : SelOk l (buildL l A) := ⟨h.build, h.great.rise⟩
theorem next_ok {l : List En} {x : List Md} (hx : RightG l x) : SelOk l (nextL l x) := build_ok (next_right hx)
theorem next_over {l : List En} {x : List Md} (hx : RightG l x) : OverM x (nextL l x) := fun m hm => build_over (next_right hx) (.root (by simp [hm]))
theorem next_len {l : List En} {x : List Md} (hx : RightG l x) : (nextL l x).length ≤ 100 := by
  have h1 := next_ok hx
  have h2 : (nextL l x).length ≤ (l.map (·.md)).length := List.Nodup.length_le_of_subset (by
    have := riseP_rises h1.rise
    unfold Rises at this
    exact this.imp fun {x y} h e => by subst e; rw [modCmp_ord.self] at h; omega) (fun m hm => by
    obtain ⟨e, he, e1⟩ := h1.right.at_ m hm
    exact List.mem_map.2 ⟨e, he, e1⟩)
  rw [List.length_map] at h2
  exact Nat.le_trans h2 hx.idx.len
theorem allF_stop {l : List En} {x : List Md} (h : nextL l x = x) : ∀ n, allF l n x = x
  | 0 => rfl
  | n + 1 => by rw [allF, if_pos h]
theorem allF_fuel {l : List En} : ∀ (n m : Nat) {x : List Md}, SelOk l x → l.length - weight l x < n → l.length - weight l x < m → allF l n x = allF l m x
  | 0, m, x, _, h, _ => absurd h (Nat.not_lt_zero _)
  | n + 1, 0, x, _, _, h => absurd h (Nat.not_lt_zero _)
  | n + 1, m + 1, x, hx, h1, h2 => by
    rw [allF, allF]
    by_cases e : nextL l x = x
    · rw [if_pos e, if_pos e]
    · rw [if_neg e, if_neg e]
      have h3 := weight_lt hx (next_ok hx.right) (next_over hx.right) e
      have h4 := weight_le l (nextL l x)
      exact allF_fuel n m (next_ok hx.right) (by omega) (by omega)
structure AllOk (l : List En) (x y : List Md) : Prop where
  ok : SelOk l y
  over : OverM x y
  stop : nextL l y = y
noncomputable def allR (l : List En) (roots : List Md) : List Md := if (startErr l roots).1 = 0 then allL l roots else []
theorem AllOk.none {l : List En} {x y : List Md} (h : AllOk l x y) : newsL l y = [] := by
  unfold newsL
  have : y.filter (newsB l) = [] := by
    rw [List.filter_eq_nil_iff]
    intro m hm hn
    have h1 := next_right h.ok.right
    have h2 : (m.1, latestL l m.1) ∈ y ++ latestM l y := List.mem_append.2 (.inr (List.mem_map.2 ⟨m, hm, rfl⟩))
    obtain ⟨z, hz, e1, h3⟩ := build_over h1 (.root h2)
    have hz2 : z ∈ nextL l y := hz
    rw [h.stop] at hz2
    have e2 : z = m := h.ok.rise.unique hz2 hm e1
    subst e2
    unfold newsB at hn
    rw [verLess_of_le h3] at hn
    cases hn
  rw [this]; rfl
end Go.Proofs.Pw

namespace Go.Proofs.Pw
open Go.RowKit Go.Sort
open Go.Lib hiding intOf
theorem holds_below {w w' : World} {blk off : Nat} {d : Array Str} (h : Holds encStr w blk off d) (hb : Below w.heap.size w w') (hblk : blk < w.heap.size) : Holds encStr w' blk off d :=
  fun j hj => ⟨Below.cell_some hb (h j hj).1, (hb.frozen (p := ⟨blk, off + j, none⟩) hblk).trans (h j hj).2⟩
theorem holds_setCell {w : World} {blk off : Nat} {d : Array Str} (h : Holds encStr w blk off d) {i : Nat} (hi : i < d.size) (u : Str) : Holds encStr (w.setCell ⟨blk, off + i, none⟩ (encStr u)) blk off (d.setIfInBounds i u) := by
  intro j hj
  have hj' : j < d.size := by simpa using hj
  refine ⟨?_, by simp [(h j hj').2]⟩
  by_cases e : j = i
  · subst e
    rw [getElem!_set_same d j u hj', World.cell?_setCell_same _ _ _ (h j hj').1]
  · rw [getElem!_set_other d i j u e, World.cell?_setCell_other _ _ _ _ (by intro h2; injection h2 with _ h3 _; omega)]
    exact (h j hj').1
theorem below_putRow {B : Nat} {w w' : World} (h : Below B w w') {blk : Nat} (hb : B ≤ blk) (off : Nat) (d : Array Str) : Below B w (putRow encStr w' blk off d) := by
  refine h.trans ⟨rfl, rfl, rfl, by simp [putRow, mapBlock], fun k hk => ?_⟩
  simp only [putRow, mapBlock, Array.getElem?_modify]
  rw [if_neg (by omega)]
def TestsB (g : Nat) (lb : Array Value) (p : Str → Bool) (l : List Str) (base : Nat) (w : World) : Prop :=
  ∀ W, Below base w W → ∀ s ∈ l, Calls Tryz.prog g (#[encStr s] ++ lb) W fun e w'' => e = .returned (.bool (p s)) ∧ Below W.heap.size W w''
theorem mem_arr {d : Array Str} {j : Nat} (hj : j < d.size) : d[j]! ∈ d.toList ∧ d.toList[j]? = some d[j]! := by
  have e : d[j]! = d[j] := getElem!_pos d j hj
  rw [e]
  exact ⟨by simp, by simp [hj]⟩
set_option maxHeartbeats 400000 in
theorem indexFuncS_calls (g : Nat) (lb : Array Value) (eg : ∀ args w, (callFunc g args).run Tryz.prog w = .ok (.enter g args) w) (p : Str → Bool) (blk off cap base : Nat) (d : Array Str) (w : World) (hn : d.size ≤ 4000000001)
    (hbase : base ≤ w.heap.size) (_hblk : blk < w.heap.size) (hH : Holds encStr w blk off d) (hT : TestsB g lb p d.toList base w) :
    Calls Tryz.prog 174 #[.slice (some ⟨blk, off, none⟩) d.size cap, .func (.func g) #[] lb] w fun e w' => e = .returned (.int .i64 (findI p d.toList)) ∧ Below w.heap.size w w' := by
  replace hH := Lib.hid hH
  replace hT := Lib.hid hT
  go_enter Tryz.func174, Tryz.ntmps174
  go_wp2_with fail
  go_loopw [8] (fun i wr => ∃ k : Nat, k ≤ d.size ∧ i = .int .i64 k ∧ Below w.heap.size w wr ∧ Hid (∀ j, j < k → p d[j]! = false)) (fun i _ => d.size - (intOf i).toNat)
  case atStart => exact ⟨0, by omega, rfl, Below.refl _ _, Lib.hid (fun j hj => absurd hj (Nat.not_lt_zero _))⟩
  case round =>
    obtain ⟨k, hk, rfl, hb, HA⟩ := hrel
    by_cases hlt : k < d.size
    · have hck := Below.cell_some hb (hH.out k hlt).1
      have hcall := hT.out wr (hb.mono hbase) _ (mem_arr hlt).1
      have HF := Lib.hid (mem_arr hlt).2
      generalize hs : d[k]! = s at hck hcall HF
      have HS := Lib.hid hs
      clear hs
      cases hq : p s with
      | true =>
        rw [hq] at hcall
        have HR : Hid (findI p d.toList = k) := Lib.hid (findI_hit HF.out hq (fun j y hj hy => by
          have := (mem_arr (d := d) (j := j) (by omega)).2
          rw [hy] at this
          injection this with this
          rw [this]
          exact HA.out j hj))
        clear hq
        go_wp2_with (go_at_fn g; refine hcall.mono ?_; rintro e w' ⟨rfl, hb2⟩)
        go_ret
        rw [HR.out]
        exact ⟨rfl, below_step hb hb2⟩
      | false =>
        rw [hq] at hcall
        have HQ := Lib.hid hq
        clear hq
        go_wp2_with (go_at_fn g; refine hcall.mono ?_; rintro e w' ⟨rfl, hb2⟩)
        go_roundw
        case rel =>
          refine ⟨k + 1, by omega, by go_num, below_step hb hb2, Lib.hid (fun j hj => ?_)⟩
          by_cases e : j = k
          · subst e; rw [HS.out]; exact HQ.out
          · exact HA.out j (by omega)
        case measure => simp [intOf]; omega
    · obtain rfl : k = d.size := by omega
      have HR : Hid (findI p d.toList = -1) := Lib.hid (findI_none (fun j y hy => by
        have hj : j < d.size := by have := (List.getElem?_eq_some_iff.1 hy).1; simpa using this
        have := (mem_arr (d := d) hj).2
        rw [hy] at this
        injection this with this
        rw [this]
        exact HA.out j hj))
      go_wp2_with fail
      go_ret
      rw [HR.out]
      exact ⟨rfl, hb⟩
theorem findI_cases (p : Str → Bool) (d : Array Str) : (findI p d.toList = -1 ∧ ∀ j, j < d.size → p d[j]! = false) ∨ ∃ k, k < d.size ∧ findI p d.toList = (k : Int) ∧ p d[k]! = true ∧ ∀ j, j < k → p d[j]! = false := by
  cases h : d.toList.findIdx? p with
  | none =>
    left
    refine ⟨by unfold findI; rw [h], fun j hj => ?_⟩
    rw [List.findIdx?_eq_none_iff] at h
    exact h _ (mem_arr hj).1
  | some k =>
    right
    rw [List.findIdx?_eq_some_iff_getElem] at h
    obtain ⟨hk, h1, h2⟩ := h
    have hk' : k < d.size := by simpa using hk
    have e : ∀ j (hj : j < d.size), d.toList[j]'(by simpa using hj) = d[j]! := fun j hj => by rw [getElem!_pos d j hj]; simp
    refine ⟨k, hk', ?_, by rw [← e k hk']; exact h1, fun j hj => ?_⟩
    · exact findI_hit (mem_arr hk').2 (by rw [← e k hk']; exact h1) (fun j y hj hy => by
        have hjd : j < d.size := by omega
        have h3 := h2 j hj
        rw [e j hjd] at h3
        have := (mem_arr (d := d) hjd).2
        rw [hy] at this
        injection this with this
        rw [this]
        simpa using h3)
    · have h3 := h2 j hj
      rw [e j (by omega)] at h3
      simpa using h3
theorem holds_take {w : World} {blk off : Nat} {l m : List Str} (h : Holds encStr w blk off (l ++ m).toArray) : Holds encStr w blk off l.toArray := by
  intro j hj
  have hj' : j < l.length := by simpa using hj
  have := h j (by simp; omega)
  have e : (l ++ m).toArray[j]! = l.toArray[j]! := by
    rw [getElem!_pos _ j (by simp; omega), getElem!_pos _ j (by simpa using hj)]
    simp [List.getElem_append_left hj']
  rw [e] at this
  exact this
set_option maxHeartbeats 2000000 in
set_option maxRecDepth 100000 in
theorem deleteFunc_calls (g : Nat) (lb : Array Value) (eg : ∀ args w, (callFunc g args).run Tryz.prog w = .ok (.enter g args) w) (p : Str → Bool) (blk off cap base : Nat) (d : Array Str) (w : World) (hn : d.size ≤ 4000000001) (hcap : d.size ≤ cap)
    (hbase : base ≤ blk) (hblk : blk < w.heap.size) (hH : Holds encStr w blk off d) (hT : TestsB g lb p d.toList base w) :
    Calls Tryz.prog 183 #[.slice (some ⟨blk, off, none⟩) d.size cap, .func (.func g) #[] lb] w fun e w' =>
      e = .returned (.slice (some ⟨blk, off, none⟩) (d.toList.filter fun x => !p x).length cap) ∧ Below base w w' ∧ Holds encStr w' blk off (d.toList.filter fun x => !p x).toArray := by
  have hIF := indexFuncS_calls g lb eg p blk off cap base d w hn (by omega) hblk hH hT
  have hfil : (d.toList.filter fun x => !p x) = keptUpTo (fun j => !p d[j]!) d d.size := (keptUpTo_filter (fun x => !p x) d).symm
  obtain ⟨kp, HK⟩ : ∃ kp : Nat → Bool, Hid (kp = fun j => !p d[j]!) := ⟨_, Lib.hid rfl⟩
  rw [hfil, ← HK.out]
  clear hfil
  rcases findI_cases p d with ⟨e1, hall⟩ | ⟨k0, hk0, e1, ht, hall⟩
  · rw [e1] at hIF
    have e3 : keptUpTo kp d d.size = d.toList := by
      rw [keptUpTo_all kp d _ (fun j hj => by rw [HK.out]; show (!p d[j]!) = true; rw [hall j hj]; rfl)]
      apply List.ext_getElem?
      intro i
      by_cases hi : i < d.size
      · rw [(mem_arr hi).2]; simp [hi]
      · rw [List.getElem?_eq_none (by simp; omega), List.getElem?_eq_none (by simp; omega)]
    have E3 := Lib.hid e3
    replace hH := Lib.hid hH
    replace hT := Lib.hid hT
    clear hall e1 e3
    go_enter Tryz.func183, Tryz.ntmps183
    go_wp2_with fail
    refine hIF.mono ?_
    rintro e w1 ⟨rfl, hb1⟩
    go_wp2_with fail
    go_ret
    rw [E3.out]
    exact ⟨by simp, hb1.mono (by omega), by simpa using holds_below hH.out hb1 hblk⟩
  · rw [e1] at hIF
    have hI0 : KeptInv kp d (k0 + 1) k0 d := KeptInv.start (fun j hj => by rw [HK.out]; show (!p d[j]!) = true; rw [hall j hj]; rfl) (by rw [HK.out]; show (!p d[k0]!) = false; rw [ht]; rfl)
    have hne1 : ((k0 : Int) == -1) = false := beq_eq_false_iff_ne.2 (by omega)
    have zr := Tryz.zeroValue9
    replace hH := Lib.hid hH
    replace hT := Lib.hid hT
    replace hI0 := Lib.hid hI0
    clear hall e1 ht
    go_enter Tryz.func183, Tryz.ntmps183
    go_wp2_with fail
    refine hIF.mono ?_
    rintro e w1 ⟨rfl, hb1⟩
    go_wp2_with fail
    go_loopg [5, 6, 7] d.size (fun gg s5 s6 _ wr => ∃ (i j : Nat) (dk : Array Str), s5 = .int .i64 i ∧ s6 = .int .i64 j ∧ j ≤ d.size ∧ d.size - j ≤ gg ∧ Below base w wr ∧ Hid (Holds encStr wr blk off dk) ∧ Hid (KeptInv kp d j i dk))
    case atStart => exact ⟨k0, k0 + 1, d, rfl, by go_num, by omega, by omega, hb1.mono (by omega), Lib.hid (holds_below hH.out hb1 hblk), hI0⟩
    case round =>
      obtain ⟨i, j, dk, rfl, rfl, hjd, hgg, hB, hHk, hI⟩ := hrel
      have hij := hI.out.lt
      have hds := hI.out.size
      have hblkr : blk < wr.heap.size := Nat.lt_of_lt_of_le hblk hB.size
      by_cases hlt : j < d.size
      · have hltz : (j : Int) < (d.size : Int) := by omega
        obtain ⟨cj, _⟩ := hHk.out j (by omega)
        rw [hI.out.high j (by omega)] at cj
        have hcall := hT.out wr hB _ (mem_arr hlt).1
        have hfut : Hid (∀ w', Below wr.heap.size wr w' → w'.cell? ⟨blk, off + i, none⟩ = some (encStr dk[i]!) ∧ w'.frozen? ⟨blk, off + i, none⟩ = false) := Lib.hid (fun w' hb => (holds_below hHk.out hb hblkr) i (by omega))
        generalize hu : d[j]! = u at cj hcall
        have HU := Lib.hid hu
        generalize dk[i]! = old at hfut
        clear hu
        cases hq : p u with
        | false =>
          rw [hq] at hcall
          have HQ := Lib.hid hq
          have HDS := Lib.hid hds
          clear hq hds
          go_wp2_with (go_at_fn g; refine hcall.mono ?_; rintro e w' ⟨rfl, hb2⟩; obtain ⟨ci, fi⟩ := hfut.out w' hb2)
          go_roundg (d.size - (j + 1))
          case measure => omega
          case rel =>
            refine ⟨i + 1, j + 1, dk.setIfInBounds i u, by go_num, by go_num, by omega, Nat.le_refl _, ?_, Lib.hid ?_, Lib.hid ?_⟩
            · exact (hB.trans (hb2.mono (by omega))).setCell hbase _
            · exact holds_setCell (holds_below hHk.out hb2 hblkr) (by have := HDS.out; omega) u
            · have := hI.out.keep hlt (by rw [HK.out]; show (!p d[j]!) = true; rw [HU.out, HQ.out]; rfl)
              rwa [HU.out] at this
        | true =>
          rw [hq] at hcall
          have HQ := Lib.hid hq
          clear hq hds hfut
          go_wp2_with (go_at_fn g; refine hcall.mono ?_; rintro e w' ⟨rfl, hb2⟩)
          go_roundg (d.size - (j + 1))
          case measure => omega
          case rel => exact ⟨i, j + 1, dk, rfl, by go_num, by omega, Nat.le_refl _, hB.trans (hb2.mono (by omega)), Lib.hid (holds_below hHk.out hb2 hblkr), Lib.hid (hI.out.skip (by rw [HK.out]; show (!p d[j]!) = false; rw [HU.out, HQ.out]; rfl))⟩
      · obtain rfl : j = d.size := by omega
        have hltz : ¬ (d.size : Int) < (d.size : Int) := by omega
        have hcl : ∀ ty, (Builtin.clear_ #[41] ty #[.slice (some ⟨blk, off + i, none⟩) (d.size - i) (cap - i)]).run Tryz.prog wr = .ok (.tuple #[]) (wr.setCells blk (off + i) (List.replicate (d.size - i) (encStr []))) :=
          fun ty => Lib.run_clear_slice wr _ _ ty _ Tryz.underlying41 zr rfl rfl blk (off + i) _ _ (by omega) (fun t ht => by rw [show off + i + t = off + (i + t) by omega, (hHk.out (i + t) (by omega)).1]; rfl) (fun t ht => by rw [show off + i + t = off + (i + t) by omega]; exact (hHk.out (i + t) (by omega)).2)
        have HDS := Lib.hid hds
        clear hds
        go_wp2_with fail
        go_ret
        have hI := hI.out
        have hrow : wr.setCells blk (off + i) (List.replicate (d.size - i) (encStr [])) = putRow encStr wr blk off (keptUpTo kp d d.size ++ List.replicate (d.size - i) []).toArray := by
          rw [← hI.done [], ← putRow_setCells encStr wr blk off _ dk i (by simp; have := HDS.out; omega), putRow_self encStr wr blk off dk hHk.out, List.map_replicate]
        refine ⟨by rw [hI.len]; rfl, ?_, ?_⟩
        · show Below base w (wr.setCells blk (off + i) (List.replicate (d.size - i) (encStr [])))
          rw [hrow]
          exact below_putRow hB hbase _ _
        · show Holds encStr (wr.setCells blk (off + i) (List.replicate (d.size - i) (encStr []))) blk off _
          rw [hrow]
          apply holds_take (m := List.replicate (d.size - i) [])
          exact holds_putRow encStr wr blk off dk _ hHk.out (by simp [hI.len]; have := HDS.out; omega)
end Go.Proofs.Pw

namespace Go.Proofs.Pw
open Go.RowKit
def laysSortSR : Go.Shelf.Ren := ⟨fun | 6 => 186 | 14 => 218 | 15 => 103 | 20 => 235 | 21 => 236 | 22 => 237 | 23 => 238 | 24 => 239 | 25 => 240 | 26 => 241 | 27 => 242 | 28 => 150 | 29 => 151 | 46 => 257 | 47 => 189 | 48 => 190 | 49 => 258 | 50 => 259 | 57 => 270 | n => n,
  fun | 0 => 0 | 3 => 3 | 4 => 4 | 5 => 5 | 9 => 9 | 22 => 41 | 24 => 9 | 25 => 86 | 39 => 122 | 45 => 155 | 46 => 156 | 50 => 160 | 53 => 163 | 55 => 165 | 66 => 197 | 70 => 201 | 76 => 230 | 77 => 91 | n => n, fun n => n⟩
theorem laysSortS : Go.Proofs.SlLaysF.n6 Tryz.prog laysSortSR := {
  mixed := by kernel_rfl
  f6 := ⟨Tryz.f186.name, by decide, Tryz.func186.trans (congrArg some (by kernel_rfl))⟩
  f14 := ⟨Tryz.f218.name, by decide, Tryz.func218.trans (congrArg some (by kernel_rfl))⟩
  f15 := Tryz.func103.trans (congrArg some (by kernel_rfl))
  f20 := ⟨Tryz.f235.name, by decide, Tryz.func235.trans (congrArg some (by kernel_rfl))⟩
  f21 := ⟨Tryz.f236.name, by decide, Tryz.func236.trans (congrArg some (by kernel_rfl))⟩
  f22 := ⟨Tryz.f237.name, by decide, Tryz.func237.trans (congrArg some (by kernel_rfl))⟩
  f23 := ⟨Tryz.f238.name, by decide, Tryz.func238.trans (congrArg some (by kernel_rfl))⟩
  f24 := ⟨Tryz.f239.name, by decide, Tryz.func239.trans (congrArg some (by kernel_rfl))⟩
  f25 := ⟨Tryz.f240.name, by decide, Tryz.func240.trans (congrArg some (by kernel_rfl))⟩
  f26 := ⟨Tryz.f241.name, by decide, Tryz.func241.trans (congrArg some (by kernel_rfl))⟩
  f27 := ⟨Tryz.f242.name, by decide, Tryz.func242.trans (congrArg some (by kernel_rfl))⟩
  f28 := Tryz.func150.trans (congrArg some (by kernel_rfl))
  f29 := Tryz.func151.trans (congrArg some (by kernel_rfl))
  f46 := ⟨Tryz.f257.name, by decide, Tryz.func257.trans (congrArg some (by kernel_rfl))⟩
  f47 := Tryz.func189.trans (congrArg some (by kernel_rfl))
  f48 := Tryz.func190.trans (congrArg some (by kernel_rfl))
  f49 := ⟨Tryz.f258.name, by decide, Tryz.func258.trans (congrArg some (by kernel_rfl))⟩
  f50 := ⟨Tryz.f259.name, by decide, Tryz.func259.trans (congrArg some (by kernel_rfl))⟩
  f57 := ⟨Tryz.f270.name, by decide, Tryz.func270.trans (congrArg some (by kernel_rfl))⟩
  t0 := Tryz.underlying0
  a0 := Tryz.isAgg0
  z0 := Tryz.sizeOf0
  v0 := Tryz.zeroValue0
  t3 := Tryz.underlying3
  a3 := Tryz.isAgg3
  z3 := Tryz.sizeOf3
  v3 := Tryz.zeroValue3
  t4 := Tryz.underlying4
  a4 := Tryz.isAgg4
  z4 := Tryz.sizeOf4
  v4 := Tryz.zeroValue4
  t5 := Tryz.underlying5
  a5 := Tryz.isAgg5
  z5 := Tryz.sizeOf5
  v5 := Tryz.zeroValue5
  t9 := Tryz.underlying9
  a9 := Tryz.isAgg9
  z9 := Tryz.sizeOf9
  v9 := Tryz.zeroValue9
  t22 := Tryz.underlying41
  a22 := Tryz.isAgg41
  z22 := Tryz.sizeOf41
  v22 := Tryz.zeroValue41
  a24 := Tryz.isAgg9
  z24 := Tryz.sizeOf9
  t25 := Tryz.underlying86
  a25 := Tryz.isAgg86
  z25 := Tryz.sizeOf86
  v25 := Tryz.zeroValue86
  t39 := Tryz.underlying122
  a39 := Tryz.isAgg122
  z39 := Tryz.sizeOf122
  v39 := Tryz.zeroValue122
  t45 := Tryz.underlying155
  a45 := Tryz.isAgg155
  z45 := Tryz.sizeOf155
  v45 := Tryz.zeroValue155
  t46 := Tryz.underlying156
  a46 := Tryz.isAgg156
  z46 := Tryz.sizeOf156
  v46 := Tryz.zeroValue156
  t50 := Tryz.underlying160
  a50 := Tryz.isAgg160
  z50 := Tryz.sizeOf160
  v50 := Tryz.zeroValue160
  t53 := Tryz.underlying163
  a53 := Tryz.isAgg163
  z53 := Tryz.sizeOf163
  v53 := Tryz.zeroValue163
  t55 := Tryz.underlying165
  a55 := Tryz.isAgg165
  z55 := Tryz.sizeOf165
  v55 := Tryz.zeroValue165
  t66 := Tryz.underlying197
  a66 := Tryz.isAgg197
  z66 := Tryz.sizeOf197
  v66 := Tryz.zeroValue197
  t70 := Tryz.underlying201
  a70 := Tryz.isAgg201
  z70 := Tryz.sizeOf201
  v70 := Tryz.zeroValue201
  t76 := Tryz.underlying230
  a76 := Tryz.isAgg230
  z76 := Tryz.sizeOf230
  v76 := Tryz.zeroValue230
  t77 := Tryz.underlying91
  a77 := Tryz.isAgg91
  z77 := Tryz.sizeOf91
  v77 := Tryz.zeroValue91 }
end Go.Proofs.Pw

namespace Go.Proofs.Pw
open Go.RowKit
end Go.Proofs.Pw

namespace Go.Proofs.Pw
open Go.RowKit Go.Sort
open Go.Lib hiding intOf
theorem bytes_back (b : ByteArray) : (⟨b.data.toList.toArray⟩ : ByteArray) = b := bytes_eq.1 rfl
theorem lstF_arr (n : Nat) (L : Nat → ByteArray) (j : Nat) (h : j < n) : (lstF n L).toArray[j]! = (L j).data.toList := by
  rw [getElem!_pos _ j (by rw [List.size_toArray, lstF_length]; exact h)]
  have := lstF_get n L j h
  rw [List.getElem?_eq_getElem (by rw [lstF_length]; exact h)] at this
  simpa using this
theorem strsAt_holds {w : World} {g off cap : Nat} {l : List Str} (h : Holds encStr w g off l.toArray) (hc : l.length ≤ cap) (hm : cap ≤ 9223372036854775807) : StrsAt w (.slice (some ⟨g, off, none⟩) l.length cap) l := by
  refine ⟨_, l.length, cap, fun j => ⟨(l.getD j []).toArray⟩, rfl, ?_, hc, hm, fun j hj => ⟨g, off, rfl, ?_⟩⟩
  · apply List.ext_getElem?
    intro i
    by_cases hi : i < l.length
    · rw [lstF_get _ _ i hi, List.getElem?_eq_getElem hi, List.getD_eq_getElem?_getD, List.getElem?_eq_getElem hi]; rfl
    · rw [List.getElem?_eq_none (by omega), List.getElem?_eq_none (by rw [lstF_length]; omega)]
  · have := (h j (by simpa using hj)).1
    rw [this]
    show some (encStr l.toArray[j]!) = some (Value.string ⟨(l.getD j []).toArray⟩)
    rw [getElem!_pos _ j (by simpa using hj), List.getD_eq_getElem?_getD, List.getElem?_eq_getElem hj]
    simp
theorem lstF_mem' {m : Nat} {M : Nat → ByteArray} {x : Str} : x ∈ lstF m M ↔ ∃ j, j < m ∧ (M j).data.toList = x := by simp [lstF]
theorem compactUpTo_length_le {α : Type} [Inhabited α] [DecidableEq α] (d : Array α) : (compactUpTo d d.size).length ≤ d.size := by
  unfold compactUpTo
  rw [List.length_map]
  exact Nat.le_trans (List.length_filter_le _ _) (by simp)
theorem cloneS_calls (a : Option Addr) (n cap : Nat) (L : Nat → ByteArray) (w : World) (hn : n ≤ 4000000000) (hc : ∀ j, j < n → ∃ b o, a = some ⟨b, o, none⟩ ∧ w.cell? ⟨b, o + j, none⟩ = some (.string (L j))) :
    Calls Tryz.prog 184 #[.slice a n cap] w fun e w' => ((e = .returned (.slice none 0 0) ∧ n = 0) ∨ ∃ g c, e = .returned (.slice (some ⟨g, 0, none⟩) n c) ∧ w.heap.size ≤ g ∧ g < w'.heap.size ∧ n ≤ c ∧ c ≤ 9223372036854775807 ∧ Holds encStr w' g 0 (lstF n L).toArray) ∧ Below w.heap.size w w' := by
  have key : ∀ (v' : Value) (w' : World) (zs : List ByteArray), zs.length = n → (∀ j, j < n → zs[j]? = some (L j)) → w'.ownsRow w.heap.size 9 1 v' n (zs.map Value.string) → v' ≠ .slice none 0 0 → ∃ g c, v' = .slice (some ⟨g, 0, none⟩) n c ∧ w.heap.size ≤ g ∧ g < w'.heap.size ∧ n ≤ c ∧ c ≤ 9223372036854775807 ∧ Holds encStr w' g 0 (lstF n L).toArray := by
    intro v' w' zs hz hL h hne
    rcases h.2 with ⟨rfl, _⟩ | ⟨g, c, cur, rfl, hb, hg, hnc, hm, hs, ht⟩
    · exact absurd rfl hne
    · refine ⟨g, c, rfl, hb, (Array.getElem?_eq_some_iff.1 hg).1, hnc, by unfold maxLen at hm; exact hm, fun j hj => ?_⟩
      have hj' : j < n := by simpa [lstF_length] using hj
      rw [Nat.zero_add, lstF_arr n L j hj']
      show _ = some (Value.string ⟨(L j).data.toList.toArray⟩) ∧ _
      rw [bytes_back]
      constructor
      · rw [cell_of_row w' g j cur 9 (0, 0) hg]
        have h1 : (zs.map Value.string)[j]? = some (.string (L j)) := by rw [List.getElem?_map, hL j hj']; rfl
        rw [← ht, List.getElem?_take, if_pos (by omega)] at h1
        simpa using h1
      · simp [World.frozen?, hg]
  by_cases h0 : n = 0
  · subst h0
    cases a with
    | none => exact (Tryz.slices_Clone_string_nil 0 cap w).mono fun e w' ⟨h1, h2⟩ => ⟨.inl ⟨h1, rfl⟩, by rw [h2]; exact Below.refl _ _⟩
    | some a =>
        refine (Tryz.slices_Clone_string_zero a cap w).mono fun e w' ⟨v', h1, h2, h3, h4⟩ => ?_
        obtain ⟨g, c, rfl, r⟩ := key v' w' [] rfl (fun j hj => absurd hj (Nat.not_lt_zero _)) h2 h3
        exact ⟨.inr ⟨g, c, h1, r⟩, h4⟩
  · obtain ⟨b, o, rfl, _⟩ := hc 0 (by omega)
    have hc2 : ∀ j, j < n → w.cell? ⟨b, o + j, none⟩ = some (.string (L j)) := fun j hj => by
      obtain ⟨b', o', e, h⟩ := hc j hj
      injection e with e
      injection e with e1 e2 _
      rw [e1, e2]; exact h
    have hzl : ((List.range n).map L).length = n := by simp
    have hzg : ∀ j, j < n → ((List.range n).map L)[j]? = some (L j) := fun j hj => by simp [hj]
    refine (Tryz.slices_Clone_string b o n cap ((List.range n).map L) w (by rw [hzl]; exact Nat.le_refl _) (by omega) (fun j hj => by
      rw [hzl] at hj
      rw [List.getD_eq_getElem?_getD, hzg j hj]
      exact hc2 j hj)).mono fun e w' ⟨v', h1, h2, h3, h4⟩ => ?_
    rw [List.take_of_length_le (by rw [hzl]; exact Nat.le_refl _)] at h2
    obtain ⟨g, c, rfl, r⟩ := key v' w' _ hzl hzg h2 h3
    exact ⟨.inr ⟨g, c, h1, r⟩, h4⟩
theorem indexFuncS_nil (f : Value) (cap : Nat) (w : World) :
    Calls Tryz.prog 174 #[.slice none 0 cap, f] w fun e w' => e = .returned (.int .i64 (-1)) ∧ w = w' := by
  go_enter Tryz.func174, Tryz.ntmps174
  go_wp2_with fail
  refine wp_loop_rounds 1 ?_
  rw [rounds_succ]
  go_wp2_with fail
  go_ret
  exact ⟨rfl, rfl⟩
theorem deleteFunc_nil (f : Value) (cap : Nat) (w : World) :
    Calls Tryz.prog 183 #[.slice none 0 cap, f] w fun e w' => e = .returned (.slice none 0 cap) ∧ w = w' := by
  go_enter Tryz.func183, Tryz.ntmps183
  go_wp2_with fail
  refine (indexFuncS_nil f cap _).mono ?_
  rintro e w' ⟨rfl, rfl⟩
  go_wp2_with fail
  go_ret
  exact ⟨rfl, rfl⟩
def OkV (s : Str) : Prop := verErr s = 0 ∧ s.length ≤ 1000000000
abbrev RV := {s : Str // OkV s}
instance : Inhabited RV := ⟨⟨[118, 48, 46, 48, 46, 48], by decide +kernel, by decide⟩⟩
def encRV (x : RV) : Value := encStr x.1
def cmpRV (x y : RV) : Int := verCmp x.1 y.1
theorem cmpRV_swo : SWO (ltOf cmpRV) := by
  have h := verCmp_ord
  refine ⟨fun x => ?_, fun x y z h1 h2 => ?_, fun x y z h1 h2 => ?_⟩
  · unfold ltOf cmpRV
    rw [h.self]; rfl
  · unfold ltOf cmpRV at *
    rw [decide_eq_true_iff] at *
    have a1 := h.tr x.1 y.1 z.1 (by omega) (by omega)
    rcases Int.lt_or_eq_of_le a1 with a2 | a2
    · exact a2
    · exfalso
      have a3 := h.zero a2
      have a4 := h.tr z.1 x.1 y.1 (by omega) (by omega)
      have a5 := (h.anti y.1 z.1).1 h2
      omega
  · unfold ltOf cmpRV at *
    rw [decide_eq_false_iff_not] at *
    intro h3
    have b1 := (h.anti x.1 z.1).1 h3
    have b2 := h.anti y.1 x.1
    have b3 := h.anti z.1 y.1
    have b4 := h.anti x.1 y.1
    have b5 := h.anti y.1 z.1
    have := h.tr z.1 y.1 x.1 (by omega) (by omega)
    omega
theorem encRV_one : Go.Proofs.OneCell encRV := fun _ => rfl
theorem below_sortW {B : Nat} {w0 w : World} (h : Below B w0 w) (hB : B ≤ w0.heap.size) {blk : Nat} (hb : B ≤ blk) (off m : Nat) (d : Array RV) (os : Array Obj) : Below B w0 (Go.Proofs.sortWorld encRV w blk off m d os) := by
  have hBs := h.size
  refine h.trans ⟨rfl, rfl, rfl, ?_, fun k hk => ?_⟩
  · simp [sortWorld, grow, putRow, mapBlock, Sort.ahead]
  · simp only [sortWorld, grow, putRow, mapBlock, Sort.ahead]
    by_cases hk2 : k < w.heap.size
    · rw [Array.getElem?_append_left (by simpa using hk2), Array.getElem?_modify, if_neg (by omega)]
    · exact absurd (Nat.lt_of_lt_of_le hk (Nat.le_trans hB hBs)) hk2
theorem sortV_calls (ks : List Nat) (A : Nat → Addr) (w0 w : World) (hE : EnvP ks A w0) (g cap : Nat) (d : Array RV) (hB : Below w0.heap.size w0 w) (hg0 : w0.heap.size ≤ g) (hg : g < w.heap.size) (hH : Holds encRV w g 0 d) (hsz : d.size ≤ 1000000) :
    Calls Tryz.prog 186 #[.slice (some ⟨g, 0, none⟩) d.size cap, .func (.func 105) #[] #[]] w fun e w' => e = .returned (.tuple #[]) ∧ ∃ d' : Array RV, d'.size = d.size ∧ (∀ x, x ∈ d'.toList ↔ x ∈ d.toList) ∧ (∀ i j, i < j → j < d'.size → verCmp d'[i]!.1 d'[j]!.1 ≤ 0) ∧ Holds encRV w' g 0 d' ∧ g < w'.heap.size ∧ Below w0.heap.size w0 w' := by
  have hcmp : CmpLays1 Tryz.prog 105 #[] encRV cmpRV g 0 d.size w := by
    intro m os dk hs x y
    refine (verCompareD ks A ⟨x.1.toArray⟩ ⟨y.1.toArray⟩ _ (hE.below (below_sortW hB (Nat.le_refl _) hg0 0 m dk os)) (by show x.1.length ≤ _; exact x.2.2) (by show y.1.length ≤ _; exact y.2.2) x.2.1 y.2.1).mono ?_
    rintro e w' ⟨rfl, hb⟩
    exact ⟨rfl, hb.grown⟩
  refine (Any.slices_SortFunc laysSortS encRV encRV_one cmpRV cmpRV_swo 105 #[] g 0 cap d w (Go.Proofs.enters_of Tryz.func105 (by kernel_rfl) rfl) hcmp hH hg (by omega)).mono ?_
  rintro e w' ⟨rfl, d', n, os, hp, hs, rfl⟩
  obtain ⟨hp1, _, hp3⟩ := hp
  have hH2 : Holds encRV (putRow encRV (Sort.ahead w n) g 0 d') g 0 d' := holds_putRow encRV _ g 0 d d' hH hp1
  refine ⟨rfl, d', hp1, fun x => ?_, fun i j hij hj => ?_, ?_, ?_, below_sortW hB (Nat.le_refl _) hg0 0 n d' os⟩
  · have := hp3.mem_iff (a := x)
    rw [Array.extract_eq_self_of_le (by omega), Array.extract_eq_self_of_le (Nat.le_refl _)] at this
    exact this
  · have h1 := hs i j (Nat.zero_le _) hij (by omega)
    unfold ltOf cmpRV at h1
    rw [decide_eq_false_iff_not] at h1
    have := verCmp_ord.anti d'[i]!.1 d'[j]!.1
    have := verCmp_ord.anti d'[j]!.1 d'[i]!.1
    omega
  · exact holds_grow encRV _ os g 0 d' (by simpa [putRow, mapBlock, Sort.ahead] using hg) hH2
  · simp [sortWorld, grow, putRow, mapBlock, Sort.ahead]; omega
theorem map_sub {P : Str → Prop} : ∀ (l : List Str), (∀ x ∈ l, P x) → ∃ m : List {s : Str // P s}, m.map (·.1) = l
  | [], _ => ⟨[], rfl⟩
  | a :: r, h => by
    obtain ⟨m, hm⟩ := map_sub r (fun x hx => h x (by simp [hx]))
    exact ⟨⟨a, h a (by simp)⟩ :: m, by simp [hm]⟩
theorem map_get (m : Array RV) (j : Nat) (hj : j < m.size) : (m.map (·.1))[j]! = (m[j]!).1 := by
  rw [getElem!_pos _ j (by simpa using hj), getElem!_pos m j hj]; simp
theorem holds_rv {w : World} {g off : Nat} {m : Array RV} : Holds encRV w g off m ↔ Holds encStr w g off (m.map (·.1)) := by
  constructor
  · intro h j hj
    have hj' : j < m.size := by simpa using hj
    rw [map_get m j hj']
    exact h j hj'
  · intro h j hj
    have := h j (by simpa using hj)
    rw [map_get m j hj] at this
    exact this
theorem vsort_of {l : List Str} {d : Array RV} (hm : ∀ x : RV, x ∈ d.toList ↔ x.1 ∈ l) (hl : ∀ x ∈ l, x.length ≤ 1000000000) (hs : ∀ i j, i < j → j < d.size → verCmp d[i]!.1 d[j]!.1 ≤ 0) : compactUpTo (d.map (·.1)) (d.map (·.1)).size = vsort l := by
  apply rises_ext verCmp_ord
  · apply compact_rises verCmp_ord
    · intro i j hij hj
      have hj' : j < d.size := by simpa using hj
      rw [map_get d i (by omega), map_get d j hj']
      exact hs i j hij hj'
    · intro i j hi hj he
      have hi' : i < d.size := by simpa using hi
      have hj' : j < d.size := by simpa using hj
      rw [map_get d i hi', map_get d j hj'] at he ⊢
      exact (verCmp_same d[i]!.2.1 d[j]!.2.1).1 he
  · exact vsort_rises l
  · intro x
    rw [compact_mem, vsort_mem]
    constructor
    · rintro ⟨i, hi, rfl⟩
      have hi' : i < d.size := by simpa using hi
      rw [map_get d i hi']
      exact ⟨(hm _).1 (by rw [getElem!_pos d i hi']; simp), d[i]!.2.1⟩
    · rintro ⟨h1, h2⟩
      have := (hm ⟨x, h2, hl x h1⟩).2 h1
      obtain ⟨i, hi, e⟩ := List.mem_iff_getElem.1 this
      have hi' : i < d.size := by simpa using hi
      refine ⟨i, by simpa using hi', ?_⟩
      rw [map_get d i hi', getElem!_pos d i hi']
      have e' : d[i] = ⟨x, h2, hl x h1⟩ := by simpa using e
      rw [e']
theorem verSort1_calls (ks : List Nat) (A : Nat → Addr) (s : ByteArray) (w : World) (hE : EnvP ks A w) (hs : s.size ≤ 1000000000) :
    Calls Tryz.prog 185 #[.string s] w fun e w' => e = .returned (.bool (!decide (verErr s.data.toList = 0))) ∧ Below w.heap.size w w' := by
  have hk := verCheck_calls ks A s w hE hs
  by_cases h0 : verErr s.data.toList = 0
  · rw [decide_eq_true h0]
    rw [h0, errV_zero] at hk
    clear h0
    replace hk := Lib.hid hk
    go_enter Tryz.func185, Tryz.ntmps185
    go_wp2_with fail
    refine hk.out.mono ?_
    rintro e w1 ⟨rfl, hb1⟩
    go_wp2_with fail
    go_ret
    exact ⟨rfl, hb1⟩
  · rw [decide_eq_false h0]
    rw [errV_pos A h0] at hk
    clear h0
    replace hk := Lib.hid hk
    go_enter Tryz.func185, Tryz.ntmps185
    go_wp2_with fail
    refine hk.out.mono ?_
    rintro e w1 ⟨rfl, hb1⟩
    go_wp2_with fail
    go_ret
    exact ⟨rfl, hb1⟩
theorem Tryz.enters_sort1 : ∀ args w, (callFunc 185 args).run Tryz.prog w = .ok (.enter 185 args) w := Go.Proofs.enters_of Tryz.func185 (by kernel_rfl) rfl
set_option maxHeartbeats 1000000 in
set_option maxRecDepth 100000 in
theorem verSort_calls (ks : List Nat) (A : Nat → Addr) (v : Value) (l : List Str) (w : World) (hE : EnvP ks A w) (hS : StrsAt w v l) (hn : l.length ≤ 1000000) (hl : ∀ x ∈ l, x.length ≤ 1000000000) :
    Calls Tryz.prog 141 #[v] w fun e w' => (∃ v', e = .returned v' ∧ StrsAt w' v' (vsort l)) ∧ Below w.heap.size w w' := by
  obtain ⟨a, n, cap, L, rfl, rfl, hnc, hcap, hc⟩ := hS
  rw [lstF_length] at hn
  have hcl := cloneS_calls a n cap L w (by omega) hc
  have hsn := AnyF.slices_SortFunc_none (P := Tryz.prog) (ρ := laysSortSR) { laysSortS with }
  have hce := Tryz.slices_Compact_string_empty
  have HL := Lib.hid hl
  replace hcl := Lib.hid hcl
  replace hsn := Lib.hid hsn
  replace hce := Lib.hid hce
  clear hc hl
  go_enter Tryz.func141, Tryz.ntmps141
  go_wp2_with fail
  refine hcl.out.mono ?_
  rintro e w1 ⟨h, hb1⟩
  rcases h with ⟨rfl, rfl⟩ | ⟨g, c, rfl, h1, h2, h3, h4, h5⟩
  · go_wp2_with fail
    refine (deleteFunc_nil _ 0 _).mono ?_
    rintro e w' ⟨rfl, rfl⟩
    go_wp2_with fail
    refine (hsn.out none 0 _ _).mono ?_
    rintro e w' ⟨rfl, rfl⟩
    go_wp2_with fail
    refine (hce.out none 0 _).mono ?_
    rintro e w' ⟨rfl, rfl⟩
    go_wp2_with fail
    go_ret
    exact ⟨⟨_, rfl, StrsAt.nil _⟩, hb1⟩
  · have hdz : (lstF n L).toArray.size = n := by rw [List.size_toArray, lstF_length]
    have hT : TestsB 185 #[] (fun s => !decide (verErr s = 0)) (lstF n L).toArray.toList w.heap.size w1 := by
      intro W hB s hs
      obtain ⟨j, hj, rfl⟩ := lstF_mem'.1 (by simpa using hs)
      have := verSort1_calls ks A (L j) W (hE.below (hb1.trans hB)) (by rw [size_eq]; exact HL.out _ (lstF_mem'.2 ⟨j, hj, rfl⟩))
      rw [← bytes_back (L j)] at this
      exact this
    have hD := deleteFunc_calls 185 #[] Tryz.enters_sort1 (fun s => !decide (verErr s = 0)) g 0 c w.heap.size (lstF n L).toArray w1 (by rw [hdz]; omega) (by rw [hdz]; exact h3) h1 h2 h5 hT
    rw [hdz] at hD
    have hfe : ((lstF n L).toArray.toList.filter fun x => !(!decide (verErr x = 0))) = (lstF n L).filter fun x => decide (verErr x = 0) := by
      congr 1; funext x; simp
    simp only [hfe] at hD
    obtain ⟨m, hm⟩ := map_sub (P := OkV) ((lstF n L).filter fun x => decide (verErr x = 0)) (fun x hx => ⟨by have := (List.mem_filter.1 hx).2; simpa using this, HL.out x (List.mem_filter.1 hx).1⟩)
    have hml : ((lstF n L).filter fun x => decide (verErr x = 0)).length = m.length := by rw [← hm, List.length_map]
    have hmn : m.length ≤ n := by
      have := List.length_filter_le (fun x => decide (verErr x = 0)) (lstF n L)
      rw [lstF_length, hml] at this
      exact this
    have hma : m.toArray.map (·.1) = ((lstF n L).filter fun x => decide (verErr x = 0)).toArray := by rw [← hm]; simp
    rw [hml, ← hma] at hD
    have hmem : ∀ x : RV, x ∈ m ↔ x.1 ∈ lstF n L := by
      intro x
      constructor
      · intro hx
        have : x.1 ∈ m.map (·.1) := List.mem_map.2 ⟨x, hx, rfl⟩
        rw [hm] at this
        exact (List.mem_filter.1 this).1
      · intro hx
        have : x.1 ∈ m.map (·.1) := by rw [hm]; exact List.mem_filter.2 ⟨hx, by simpa using x.2.1⟩
        obtain ⟨y, hy, e⟩ := List.mem_map.1 this
        have : y = x := Subtype.ext e
        rw [← this]; exact hy
    have HM := Lib.hid hmem
    replace hD := Lib.hid hD
    clear hT hfe hm hma hmem hcl
    go_wp2_with fail
    refine hD.out.mono ?_
    rintro e w2 ⟨rfl, hb2, h6⟩
    have hb02 := hb1.trans hb2
    have hso := sortV_calls ks A w w2 hE g c m.toArray hb02 h1 (Nat.lt_of_lt_of_le h2 hb2.size) (holds_rv.2 h6) (by simp; omega)
    rw [List.size_toArray] at hso
    replace hso := Lib.hid hso
    clear hD h6
    go_wp2_with fail
    refine hso.out.mono ?_
    rintro e w3 ⟨rfl, d', hd1, hd2, hd3, hd4, hd5, hb3⟩
    have hdm : (d'.map (·.1)).size = m.length := by rw [Array.size_map, hd1]
    have hH3 := holds_rv.1 hd4
    have hco := Tryz.slices_Compact_string_arr g 0 c (d'.map (·.1)) w3 hH3 (by rw [hdm]; omega) (by rw [hdm]; omega)
    have hv := vsort_of (l := lstF n L) (d := d') (fun x => by rw [hd2 x]; exact HM.out x) HL.out hd3
    rw [hv, hdm] at hco
    have hvl : (vsort (lstF n L)).length ≤ m.length := by
      rw [← hv, ← hdm]
      exact compactUpTo_length_le _
    replace hco := Lib.hid hco
    clear hso hv hd2 hd3 hd4 hsn hce
    go_wp2_with fail
    refine hco.out.mono ?_
    rintro e w4 ⟨rfl, q, rfl⟩
    go_wp2_with fail
    go_ret
    refine ⟨⟨_, rfl, ?_⟩, below_putRow (below_drewN hb3 q) h1 0 _⟩
    refine strsAt_holds (holds_take (m := List.replicate (m.length - (vsort (lstF n L)).length) []) ?_) (by omega) h4
    have hH4 : Holds encStr (Sort.ahead w3 q) g 0 (d'.map (·.1)) := fun j hj => hH3 j hj
    exact holds_putRow encStr (Sort.ahead w3 q) g 0 _ _ hH4 (by simp [hd1]; omega)
end Go.Proofs.Pw

namespace Go.Proofs.Pw
open Go.RowKit
open Go.Lib hiding intOf
open Go.Sort (grow grow_grow grow_empty)
def GrownW (w w' : World) : Prop := ∃ q os, w' = grow (w.drewN q) os
theorem GrownW.below {w w' : World} (h : GrownW w w') : Below w.heap.size w w' := by
  obtain ⟨q, os, rfl⟩ := h
  exact below_grow _ _ (Nat.le_refl _) _ _
theorem GrownW.trans {a b c : World} (h : GrownW a b) (k : GrownW b c) : GrownW a c := by
  obtain ⟨q, os, rfl⟩ := h
  obtain ⟨q', os', rfl⟩ := k
  refine ⟨q + q', os ++ os', ?_⟩
  show grow (grow ((a.drewN q).drewN q') os) os' = _
  rw [grow_grow, World.drewN_drewN]
theorem GrownW.refl (w : World) : GrownW w w := ⟨0, #[], (grow_empty _).symm⟩
end Go.Proofs.Pw

namespace Go.Proofs.Pw
open Go.RowKit
open Go.Lib hiding intOf
theorem worseN_one_left (b : Nat) : worseN 1 b = 1 := by unfold worseN; rw [if_pos (.inl rfl)]
theorem worseN_one_right (a : Nat) : worseN a 1 = 1 := by unfold worseN; split <;> omega
theorem numErrs_one : ∀ (l : List Str) (b : Nat), (b = 1 ∨ ∃ w ∈ l, (numberOf w).2 = 1) → numErrs l b = 1
  | [], b, h => by
    rcases h with h | ⟨w, hw, _⟩
    · exact h
    · cases hw
  | w :: r, b, h => by
    show numErrs r (worseN b (numberOf w).2) = 1
    apply numErrs_one r
    rcases h with rfl | ⟨x, hx, h1⟩
    · exact .inl (worseN_one_left _)
    · rcases List.mem_cons.1 hx with rfl | hx
      · rw [h1]; exact .inl (worseN_one_right _)
      · exact .inr ⟨x, hx, h1⟩
theorem partErrs_one : ∀ (l : List Str) (b : Nat), (b = 1 ∨ ∃ w ∈ l, partErr w = 1) → partErrs l b = 1
  | [], b, h => by
    rcases h with h | ⟨w, hw, _⟩
    · exact h
    · cases hw
  | w :: r, b, h => by
    show partErrs r (worseN b (partErr w)) = 1
    apply partErrs_one r
    rcases h with rfl | ⟨x, hx, h1⟩
    · exact .inl (worseN_one_left _)
    · rcases List.mem_cons.1 hx with rfl | hx
      · rw [h1]; exact .inl (worseN_one_right _)
      · exact .inr ⟨x, hx, h1⟩
theorem verErr_is {s : Str} (h1 : hasPrefix s [118] = true) (h2 : (verWords s).length = 3) : verErr s = verErrs s := by
  unfold verErr; rw [if_neg]; rw [h1, h2]; simp
theorem verErrs_one {s : Str} (h : partErrs (verPres s) (numErrs (verWords s) 0) = 1) : verErrs s = 1 := by
  unfold verErrs
  simp only
  rw [h]
  split
  · exact worseN_one_left _
  · rfl
theorem verErrs_num {s w : Str} (h : w ∈ verWords s) (h1 : (numberOf w).2 = 1) : verErrs s = 1 :=
  verErrs_one (partErrs_one _ _ (.inl (numErrs_one _ _ (.inr ⟨w, h, h1⟩))))
theorem verErrs_part {s w : Str} (h : w ∈ verPres s) (h1 : partErr w = 1) : verErrs s = 1 :=
  verErrs_one (partErrs_one _ _ (.inr ⟨w, h, h1⟩))
def bndN (b : Bool) : Nat := if b then 2 else 0
theorem bndN_step (b : Bool) {e : Nat} (h1 : e ≠ 1) (h2 : e ≤ 2) : worseN (bndN b) e = bndN (b || decide (0 < e)) := by
  obtain rfl | rfl : e = 0 ∨ e = 2 := by omega
  all_goals cases b <;> rfl
theorem verErrs_bnd {s : Str} {b : Bool} (h : partErrs (verPres s) (numErrs (verWords s) 0) = bndN b) : verErrs s = if b = true ∨ 5 < (verPres s).length then 2 else 0 := by
  unfold verErrs
  simp only
  rw [h]
  by_cases h5 : 5 < (verPres s).length
  · rw [if_pos h5, if_pos (.inr h5)]
    cases b <;> rfl
  · rw [if_neg h5]
    cases b
    · rw [if_neg (by simp [h5])]; rfl
    · rw [if_pos (.inl rfl)]; rfl
structure NBox (w : World) (b : Nat) (L : Nat → ByteArray) (k : Nat) (v3 : Value) : Prop where
  c : ∀ j, j < 3 → w.cell? ⟨b, j, none⟩ = some (.int .i64 (numAt L k j))
  c3 : w.cell? ⟨b, 3, none⟩ = some v3
  fr : ∀ j, w.frozen? ⟨b, j, none⟩ = false
theorem NBox.below {w w' : World} {b : Nat} {L : Nat → ByteArray} {k : Nat} {v3 : Value} (h : NBox w b L k v3) (hb : Below w.heap.size w w') : NBox w' b L k v3 :=
  ⟨fun j hj => Below.cell_some hb (h.c j hj), Below.cell_some hb h.c3, fun j => (hb.frozen (p := ⟨b, j, none⟩) (show b < w.heap.size from lt_of_cell h.c3)).trans (h.fr j)⟩
theorem nbox_alloc (w : World) (t : TypeId) (L : Nat → ByteArray) : NBox (w.alloc (.cells #[.int .i64 0, .int .i64 0, .int .i64 0, .slice none 0 0] t)) w.heap.size L 0 (.slice none 0 0) :=
  ⟨fun j hj => by rw [numAt_zero]; obtain rfl | rfl | rfl : j = 0 ∨ j = 1 ∨ j = 2 := by omega
                  all_goals simp, by simp, fun j => by simp⟩
theorem NBox.step {w : World} {b : Nat} {L : Nat → ByteArray} {k : Nat} {v3 : Value} (h : NBox w b L k v3) (hk : k < 3) : NBox (w.setCell ⟨b, k, none⟩ (.int .i64 ((numberOf (L k).data.toList).1 : Nat))) b L (k + 1) v3 := by
  refine ⟨fun j hj => ?_, ?_, fun j => by simp [h.fr]⟩
  · by_cases e : j = k
    · subst e
      rw [numAt_new]
      exact World.cell?_setCell_same _ _ _ (h.c j hj)
    · rw [numAt_old _ _ _ e, World.cell?_setCell_other _ _ _ _ (fun h2 => e (by injection h2 with _ h3 _; exact h3.symm))]
      exact h.c j hj
  · rw [World.cell?_setCell_other _ _ _ _ (fun h2 => by injection h2 with _ h3 _; omega)]
    exact h.c3
theorem NBox.set3 {w : World} {b : Nat} {L : Nat → ByteArray} {k : Nat} {v3 : Value} (h : NBox w b L k v3) (v : Value) : NBox (w.setCell ⟨b, 3, none⟩ v) b L k v := by
  refine ⟨fun j hj => ?_, World.cell?_setCell_same _ _ _ h.c3, fun j => by simp [h.fr]⟩
  rw [World.cell?_setCell_other _ _ _ _ (by intro e; injection e with _ e2 _; omega)]
  exact h.c j hj
theorem hasPrefix_byte (s : ByteArray) (h : 0 < s.size) : hasPrefix s.data.toList [118] = decide (s[0] = 118) := by
  have e : s.data.toList = s[0] :: s.data.toList.drop 1 := by
    have := drop_cons s 0 h
    simpa using this
  rw [e]
  unfold hasPrefix
  rw [Bool.eq_iff_iff]
  simp only [List.isPrefixOf, Bool.and_true, decide_eq_true_eq, beq_iff_eq]
  exact eq_comm
theorem trimPrefix_byte (s : ByteArray) (h : hasPrefix s.data.toList [118] = true) : trimPrefix s.data.toList [118] = s.data.toList.drop 1 := by
  unfold trimPrefix; rw [if_pos h]; rfl
set_option maxRecDepth 100000 in
set_option maxHeartbeats 400000 in
theorem refVerOf_none (s : ByteArray) (w : World) (hs : s.size ≤ 1000000000) (hp : hasPrefix s.data.toList [118] = false) :
    Calls Tryz.prog 89 #[.string s] w fun e w' => e = .returned (.tuple #[.agg #[.int .i64 0, .int .i64 0, .int .i64 0, .slice none 0 0], .int .i64 1]) ∧ Below w.heap.size w w' := by
  have hbA := below_alloc w (.cells #[.int .i64 0, .int .i64 0, .int .i64 0, .slice none 0 0] 108)
  obtain ⟨z0, z1, z2, z3, zf⟩ := box4_alloc w (.int .i64 0) (.int .i64 0) (.int .i64 0) (.slice none 0 0) 108
  have zf0 := zf 0
  have zf1 := zf 1
  have zf2 := zf 2
  have zf3 := zf 3
  clear zf
  by_cases h0 : s.size = 0
  · have h0' : ((s.size : Nat) : Int) = 0 := by omega
    clear hp
    go_enter Tryz.func89, Tryz.ntmps89
    go_wp2_with fail
    refine bodyPost_ret (v := .tuple #[.agg #[.int .i64 0, .int .i64 0, .int .i64 0, .slice none 0 0], .int .i64 1]) (by simp [results, Tryz.results89, go_sem, *]) rfl ⟨rfl, ?_⟩
    exact below_alloc _ _
  · have hlt : 0 < s.size := by omega
    rw [hasPrefix_byte s hlt] at hp
    have hp1 : ((s[0].toNat : Int) == 118) = false := beq_eq_false_iff_ne.2 (fun e => by
      have : s[0] = 118 := UInt8.toNat_inj.1 (by have : s[0].toNat = 118 := by exact_mod_cast e
                                                 rw [this]; rfl)
      simp [this] at hp)
    have h00 : ((s.size : Int) == 0) = false := beq_eq_false_iff_ne.2 (by omega)
    clear hp h0
    go_enter Tryz.func89, Tryz.ntmps89
    go_wp2_with fail
    refine bodyPost_ret (v := .tuple #[.agg #[.int .i64 0, .int .i64 0, .int .i64 0, .slice none 0 0], .int .i64 1]) (by simp [results, Tryz.results89, go_sem, *]) rfl ⟨rfl, ?_⟩
    exact below_alloc _ _
end Go.Proofs.Pw
