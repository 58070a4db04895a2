/- mod.Bare; the statements' own copies; are two files the same. -/
import Derived.Test.YtfkimddlgopgbaaGreatDoorFile2
import Derived.Test.YtfkimddlgopgbaaGreatDoorMem2
import Derived.Deep.Upon
import Derived.Stop.IfaceNil
namespace Go.Proofs.Pw
open Go.RowKit
open Go.Lib hiding intOf

theorem asF_nil (w : World) : (Instr.typeAssert .nilIface 31 89 true).run Tryz.prog w = .ok (.tuple #[.pointer none, .bool false]) w := by
  have z := Tryz.zeroValue89 w
  simp [Instr.typeAssert, run_underlying Tryz.underlying89, z]
theorem asF_other (v : Value) (w : World) : (Instr.typeAssert (.iface 259 v) 31 89 true).run Tryz.prog w = .ok (.tuple #[.pointer none, .bool false]) w := by
  have z := Tryz.zeroValue89 w
  simp [Instr.typeAssert, run_underlying Tryz.underlying89, z]
theorem asF_same (v : Value) (w : World) : (Instr.typeAssert (.iface 89 v) 31 89 true).run Tryz.prog w = .ok (.tuple #[v, .bool true]) w := by
  simp [Instr.typeAssert, run_underlying Tryz.underlying89]
set_option maxRecDepth 100000 in
theorem bare_calls (A : Nat → Addr) (v : Value) (r : Nat × Int) (w : World) (h : FaultAt A w v r) :
    Calls Tryz.prog 50 #[v] w fun e w' => e = .returned (errV A r.1) ∧ Below w.heap.size w w' := by
  rcases h with ⟨h1, h2, rfl⟩ | ⟨h1, h2, rfl⟩ | ⟨h1, b, rfl, c3, c4⟩
  · rw [h1, errV_zero]
    clear h1 h2
    have ha := asF_nil
    go_enter Tryz.func50, Tryz.ntmps50
    go_wp2_with fail
    go_ret
    exact ⟨rfl, Below.refl _ _⟩
  · rw [errV_pos A h1]
    clear h1 h2
    have ha := asF_other
    go_enter Tryz.func50, Tryz.ntmps50
    go_wp2_with fail
    go_ret
    exact ⟨rfl, Below.refl _ _⟩
  · rw [errV_pos A h1] at c4 ⊢
    clear h1
    have ha := asF_same
    go_enter Tryz.func50, Tryz.ntmps50
    go_wp2_with fail
    go_ret
    exact ⟨rfl, Below.refl _ _⟩

/-! ### rows of modules of one's own -/
def mdVs (l : List (ByteArray × ByteArray)) : List Value := l.flatMap fun m => [.string m.1, .string m.2]
def mdTs (l : List (ByteArray × ByteArray)) : List Md := l.map fun m => (m.1.data.toList, m.2.data.toList)
theorem mdVs_length (l) : (mdVs l).length = l.length * 2 := by
  induction l with
  | nil => rfl
  | cons a r ih =>
    show (([.string a.1, .string a.2] : List Value) ++ mdVs r).length = _
    rw [List.length_append, ih]; simp; omega
theorem mdTs_length (l) : (mdTs l).length = l.length := List.length_map ..
theorem mdVs_append (a b) : mdVs (a ++ b) = mdVs a ++ mdVs b := List.flatMap_append ..
theorem mdVs_one {l} : ∀ u ∈ mdVs l, u.oneCell' = true := by
  intro u hu
  simp only [mdVs, List.mem_flatMap] at hu
  obtain ⟨m, _, hu⟩ := hu
  simp at hu
  rcases hu with rfl | rfl <;> rfl
theorem mdVs_get : ∀ {l : List (ByteArray × ByteArray)} {j : Nat} {m : ByteArray × ByteArray}, l[j]? = some m → (mdVs l)[j * 2]? = some (.string m.1) ∧ (mdVs l)[j * 2 + 1]? = some (.string m.2)
  | [], j, m, h => by simp at h
  | a :: r, 0, m, h => by
    simp at h; subst h
    exact ⟨rfl, rfl⟩
  | a :: r, j + 1, m, h => by
    have := mdVs_get (l := r) (j := j) (m := m) (by simpa using h)
    have e : mdVs (a :: r) = .string a.1 :: .string a.2 :: mdVs r := rfl
    rw [e, show (j + 1) * 2 = j * 2 + 1 + 1 by omega, List.getElem?_cons_succ, List.getElem?_cons_succ, List.getElem?_cons_succ, List.getElem?_cons_succ]
    exact this
theorem modsAt_own {w : World} {base e : Nat} {v : Value} {l : List (ByteArray × ByteArray)} (h : w.ownsRow base e 2 v l.length (mdVs l)) : ModsAt w v (mdTs l) := by
  rcases h.2 with ⟨rfl, h0⟩ | ⟨g, cap, cur, rfl, hb, hg, hn, hm, hs, ht⟩
  · have : l = [] := List.eq_nil_of_length_eq_zero h0
    subst this
    exact ModsAt.nil w
  · refine ⟨_, l.length, cap, fun j => (l.getD j (ByteArray.empty, ByteArray.empty)).1, fun j => (l.getD j (ByteArray.empty, ByteArray.empty)).2, rfl, ?_, hn, by unfold maxLen at hm; exact hm, fun j hj => ⟨g, 0, rfl, ?_⟩⟩
    · apply List.ext_getElem?
      intro i
      by_cases hi : i < l.length
      · rw [mdF_get _ _ _ i hi]
        simp [mdTs, List.getD_eq_getElem?_getD, List.getElem?_eq_getElem hi]
      · rw [List.getElem?_eq_none (by rw [mdTs_length]; omega), List.getElem?_eq_none (by rw [mdF_length]; omega)]
    · have hget := mdVs_get (l := l) (j := j) (m := l.getD j (ByteArray.empty, ByteArray.empty)) (by rw [List.getD_eq_getElem?_getD, List.getElem?_eq_getElem hj]; rfl)
      rw [← ht] at hget
      rw [List.getElem?_take, if_pos (by omega), List.getElem?_take, if_pos (by omega)] at hget
      rw [Nat.zero_add]
      exact ⟨by rw [cell_of_row w g _ cur e (0, 0) hg]; simpa using hget.1, by rw [cell_of_row w g _ cur e (0, 0) hg]; simpa using hget.2⟩
/-- what lies in a slice of modules, as a list -/
def mdL (n : Nat) (P V : Nat → ByteArray) : List (ByteArray × ByteArray) := (List.range n).map fun j => (P j, V j)
theorem mdL_length (n P V) : (mdL n P V).length = n := by simp [mdL]
theorem mdL_ts (n P V) : mdTs (mdL n P V) = mdF n P V := by simp [mdL, mdTs, mdF]
theorem Tryz.infoMod : (Tryz.prog.info? 26).map (fun i => (i.zero, i.size, i.bytes)) = some (some (.agg #[.string ⟨#[]⟩, .string ⟨#[]⟩]), 2, 32) := by kernel_rfl

/-- the cells of a slice of modules, from one of its places on -/
theorem mods_cells {w : World} {b o n : Nat} {P V : Nat → ByteArray} (hc : ∀ j, j < n → w.cell? ⟨b, o + j * 2, none⟩ = some (.string (P j)) ∧ w.cell? ⟨b, o + j * 2 + 1, none⟩ = some (.string (V j))) :
    ∀ j u, (mdVs (mdL n P V))[j]? = some u → w.cell? ((⟨b, o, none⟩ : Addr).add j) = some u := by
  intro j u hu
  have hj : j < n * 2 := by
    have := (List.getElem?_eq_some_iff.1 hu).1
    rwa [mdVs_length, mdL_length] at this
  have hk : j / 2 < n := by omega
  have hg := mdVs_get (l := mdL n P V) (j := j / 2) (m := (P (j / 2), V (j / 2))) (by simp [mdL, hk])
  rw [show (⟨b, o, none⟩ : Addr).add j = ⟨b, o + j, none⟩ from by unfold Addr.add; split <;> simp_all]
  rcases Nat.mod_two_eq_zero_or_one j with h | h
  · rw [show j = j / 2 * 2 by omega] at hu ⊢
    rw [hg.1] at hu
    cases hu
    exact (hc _ hk).1
  · rw [show j = j / 2 * 2 + 1 by omega] at hu ⊢
    rw [hg.2] at hu
    cases hu
    rw [← Nat.add_assoc]
    exact (hc _ hk).2

set_option maxHeartbeats 1000000 in
/-- OwnMods -/
theorem ownMods_calls (v : Value) (l : List Md) (w : World) (h : ModsAt w v l) (hl : l.length ≤ 1000000) :
    Calls Tryz.prog 21 #[v] w fun e w' => (∃ v', e = .returned v' ∧ ModsAt w' v' l ∧ ∃ L, l = mdTs L ∧ w'.ownsRow w.heap.size 26 2 v' L.length (mdVs L)) ∧ Below w.heap.size w w' := by
  obtain ⟨i0, hi, hz0, hz1, hz2⟩ := info_parts Tryz.infoMod
  obtain ⟨a, n, cap, P, V, rfl, rfl, hnc, hcap, hc⟩ := h
  rw [mdF_length] at hl
  cases a with
  | none =>
    have hn0 : n = 0 := by
      rcases Nat.eq_zero_or_pos n with h | h
      · exact h
      · obtain ⟨b, o, e, _⟩ := hc 0 h
        cases e
    subst hn0
    clear hc
    have happ := fun W ty => run_append_nothing (P := Tryz.prog) W 22 22 ty 26 i0 Tryz.underlying22 hi none 0 0 (Nat.le_refl _) (.slice none 0 cap) (Src.ofNil W Tryz.underlying22 cap)
    go_enter Tryz.func21, Tryz.ntmps21
    go_wp2_with fail
    go_ret
    exact ⟨⟨_, rfl, ModsAt.nil w, [], rfl, World.ownsRow_nil _ _ _ _⟩, Below.refl _ _⟩
  | some a =>
    have hc2 : ∃ news, news.length = n * 2 ∧ (∀ j u, news[j]? = some u → w.cell? (a.add j) = some u) ∧ news = mdVs (mdL n P V) := by
      refine ⟨_, by rw [mdVs_length, mdL_length], ?_, rfl⟩
      rcases Nat.eq_zero_or_pos n with h | h
      · subst h
        intro j u hu
        simp [mdL, mdVs] at hu
      · obtain ⟨b, o, e, _⟩ := hc 0 h
        injection e with e
        subst e
        exact mods_cells (fun j hj => by
          obtain ⟨b', o', e, h1, h2⟩ := hc j hj
          injection e with e
          injection e with e1 e2 _
          subst e1 e2
          exact ⟨h1, h2⟩)
    obtain ⟨news, hn1, hn2, hn3⟩ := hc2
    have HN := Lib.hid hn3
    clear hc hn3
    go_enter Tryz.func21, Tryz.ntmps21
    go_wp2_with (at_builtin; refine wpList_append_own _ rfl _ _ 22 rfl w.heap.size 26 i0 (.agg #[.string ⟨#[]⟩, .string ⟨#[]⟩]) 2 32 Tryz.underlying22 hi hz0 hz1 hz2 rfl (by decide) _ _ _ rfl (World.ownsRow_nil _ _ _ _) a n cap news rfl hn1 hn2 (by rw [HN.out]; exact mdVs_one) (by unfold maxLen; omega) (by omega) (Nat.le_refl _) ?_; intro v' w1 hown1 hgrow1 _)
    go_ret
    have ho : w1.ownsRow w.heap.size 26 2 v' (mdL n P V).length (mdVs (mdL n P V)) := by
      rw [mdL_length, ← HN.out]
      simpa using hown1
    refine ⟨⟨v', rfl, by rw [← mdL_ts]; exact modsAt_own ho, mdL n P V, (mdL_ts n P V).symm, ho⟩, (Below.refl _ _).grown hgrow1 (Nat.le_refl _) (fun k h => by cases h)⟩

/-! ### a box of three cells that is stored to -/
structure Box3f (w : World) (b : Nat) (v0 v1 v2 : Value) : Prop where
  c0 : w.cell? ⟨b, 0, none⟩ = some v0
  c1 : w.cell? ⟨b, 1, none⟩ = some v1
  c2 : w.cell? ⟨b, 2, none⟩ = some v2
  fz : ∀ i, w.frozen? ⟨b, i, none⟩ = false
theorem Box3f.below {w w' : World} {b : Nat} {v0 v1 v2 : Value} (h : Box3f w b v0 v1 v2) (hb : Below w.heap.size w w') : Box3f w' b v0 v1 v2 :=
  ⟨Below.cell_some hb h.c0, Below.cell_some hb h.c1, Below.cell_some hb h.c2, fun i => (hb.frozen (p := ⟨b, i, none⟩) (show b < w.heap.size from lt_of_cell h.c0)).trans (h.fz i)⟩
theorem box3f_alloc (w : World) (v0 v1 v2 : Value) (t : TypeId) : Box3f (w.alloc (.cells #[v0, v1, v2] t)) w.heap.size v0 v1 v2 := ⟨by simp, by simp, by simp, fun i => by simp⟩
theorem set_same {w : World} {b k : Nat} {u : Value} (v : Value) (h : w.cell? ⟨b, k, none⟩ = some u) : (w.setCell ⟨b, k, none⟩ v).cell? ⟨b, k, none⟩ = some v := World.cell?_setCell_same _ _ _ h
theorem set_off {w : World} {b k j : Nat} (v : Value) (h : j ≠ k) : (w.setCell ⟨b, k, none⟩ v).cell? ⟨b, j, none⟩ = w.cell? ⟨b, j, none⟩ := World.cell?_setCell_other _ _ _ _ (by intro e; injection e with _ e _; exact h e.symm)
theorem set_blk {w : World} {b c k j : Nat} (v : Value) (h : c ≠ b) : (w.setCell ⟨b, k, none⟩ v).cell? ⟨c, j, none⟩ = w.cell? ⟨c, j, none⟩ := World.cell?_setCell_other _ _ _ _ (by intro e; injection e with e _ _; exact h e.symm)
theorem Box3f.set1 {w : World} {b : Nat} {v0 v1 v2 : Value} (h : Box3f w b v0 v1 v2) (v : Value) : Box3f (w.setCell ⟨b, 1, none⟩ v) b v0 v v2 :=
  ⟨by rw [set_off v (by decide)]; exact h.c0, set_same v h.c1, by rw [set_off v (by decide)]; exact h.c2, fun i => by simp [h.fz i]⟩
theorem Box3f.set2 {w : World} {b : Nat} {v0 v1 v2 : Value} (h : Box3f w b v0 v1 v2) (v : Value) : Box3f (w.setCell ⟨b, 2, none⟩ v) b v0 v1 v :=
  ⟨by rw [set_off v (by decide)]; exact h.c0, by rw [set_off v (by decide)]; exact h.c1, set_same v h.c2, fun i => by simp [h.fz i]⟩
theorem Box3f.other {w : World} {b c k : Nat} {v0 v1 v2 : Value} (h : Box3f w b v0 v1 v2) (hc : b ≠ c) (v : Value) : Box3f (w.setCell ⟨c, k, none⟩ v) b v0 v1 v2 :=
  ⟨by rw [set_blk v hc]; exact h.c0, by rw [set_blk v hc]; exact h.c1, by rw [set_blk v hc]; exact h.c2, fun i => by simp [h.fz i]⟩
/-- a slice of modules stays where another block is stored to -/
theorem ModsAt.other {w : World} {v : Value} {l : List Md} {c k : Nat} (h : ModsAt w v l) (hc : ∀ q n m, v = .slice (some q) n m → q.block ≠ c) (u : Value) : ModsAt (w.setCell ⟨c, k, none⟩ u) v l := by
  obtain ⟨a, n, cap, P, V, rfl, h2, h3, h4, h5⟩ := h
  refine ⟨a, n, cap, P, V, rfl, h2, h3, h4, fun j hj => ?_⟩
  obtain ⟨b, o, rfl, e1, e2⟩ := h5 j hj
  have hb : b ≠ c := hc _ _ _ rfl
  exact ⟨b, o, rfl, by rw [set_blk u hb]; exact e1, by rw [set_blk u hb]; exact e2⟩

set_option maxHeartbeats 1000000 in
set_option maxRecDepth 100000 in
/-- R.SameFile -/
theorem sameFile_calls (p q : ByteArray) (r1 x1 r2 x2 : Value) (R1 X1 R2 X2 : List Md) (w : World) (hr1 : ModsAt w r1 R1) (hx1 : ModsAt w x1 X1) (hr2 : ModsAt w r2 R2) (hx2 : ModsAt w x2 X2) :
    Calls Tryz.prog 14 #[.agg #[.string p, r1, x1], .agg #[.string q, r2, x2]] w fun e w' => e = .returned (.bool (decide (p = q) && (decide (R1 = R2) && decide (X1 = X2)))) ∧ Below w.heap.size w w' := by
  have hb1 := below_alloc w (.cells #[.string p, r1, x1] 24)
  have hb2 := below_alloc (w.alloc (.cells #[.string p, r1, x1] 24)) (.cells #[.string q, r2, x2] 24)
  have hB := below_step hb1 hb2
  have hz := (box3_alloc w (.string p) r1 x1 24).below hb2
  have hy := box3_alloc (w.alloc (.cells #[.string p, r1, x1] 24)) (.string q) r2 x2 24
  simp only [World.size_alloc] at hy
  have hs1 := fun W hb => sameMods_calls r1 r2 R1 R2 W (hr1.below hb) (hr2.below hb)
  have hs2 := fun W hb => sameMods_calls x1 x2 X1 X2 W (hx1.below hb) (hx2.below hb)
  obtain ⟨a1, n1, c1, _, _, rfl, _⟩ := id hr1
  obtain ⟨a2, n2, c2, _, _, rfl, _⟩ := id hr2
  obtain ⟨a3, n3, c3, _, _, rfl, _⟩ := id hx1
  obtain ⟨a4, n4, c4, _, _, rfl, _⟩ := id hx2
  generalize decide (R1 = R2) = Y1 at hs1 ⊢
  generalize decide (X1 = X2) = Y2 at hs2 ⊢
  replace hs1 := Lib.hid hs1
  replace hs2 := Lib.hid hs2
  clear hb1 hb2 hr1 hr2 hx1 hx2
  obtain ⟨z0, z1, z2⟩ := id hz
  obtain ⟨y0, y1, y2⟩ := id hy
  by_cases hpq : p = q
  · subst hpq
    rw [decide_eq_true rfl]
    cases Y1 with
    | false =>
      go_enter Tryz.func14, Tryz.ntmps14
      go_wp2_with fail
      refine (hs1.out _ hB).mono ?_
      rintro e w1 ⟨rfl, hb⟩
      replace hB := below_step hB hb
      clear hb
      go_wp2_with fail
      go_ret
      exact ⟨rfl, hB⟩
    | true =>
      go_enter Tryz.func14, Tryz.ntmps14
      go_wp2_with fail
      refine (hs1.out _ hB).mono ?_
      rintro e w1 ⟨rfl, hb⟩
      replace hB := below_step hB hb
      replace z2 := Below.cell_some hb z2
      replace y2 := Below.cell_some hb y2
      clear hb
      go_wp2_with fail
      refine (hs2.out _ hB).mono ?_
      rintro e w1 ⟨rfl, hb⟩
      replace hB := below_step hB hb
      clear hb
      go_wp2_with fail
      go_ret
      exact ⟨rfl, hB⟩
  · rw [decide_eq_false hpq]
    have e1 : (p.toList == q.toList) = false := by rw [toList_data, toList_data]; exact beq_eq_false_iff_ne.2 (fun e => hpq (bytes_eq.1 e))
    have e2 : p.toList ≠ q.toList := by rw [toList_data, toList_data]; exact fun e => hpq (bytes_eq.1 e)
    go_enter Tryz.func14, Tryz.ntmps14
    go_wp2_with fail
    go_ret
    exact ⟨rfl, hB⟩

theorem own_ge {w : World} {base e k n : Nat} {v : Value} {xs : List Value} (h : w.ownsRow base e k v n xs) : ∀ q n m, v = .slice (some q) n m → base ≤ q.block := by
  rintro q n m rfl
  exact (h.lt q.block rfl).1

set_option maxHeartbeats 1000000 in
set_option maxRecDepth 100000 in
/-- OwnFile -/
theorem ownFile_calls (p : ByteArray) (rv xv : Value) (R X : List Md) (w : World) (hr : ModsAt w rv R) (hx : ModsAt w xv X) (hR : R.length ≤ 1000000) (hX : X.length ≤ 1000000) :
    Calls Tryz.prog 10 #[.agg #[.string p, rv, xv]] w fun e w' => (∃ v1 v2, e = .returned (.agg #[.string p, v1, v2]) ∧ ModsAt w' v1 R ∧ ModsAt w' v2 X) ∧ Below w.heap.size w w' := by
  have hb1 := below_alloc w (.cells #[.string p, rv, xv] 24)
  have hb2 := below_alloc (w.alloc (.cells #[.string p, rv, xv] 24)) (.cells #[.string ⟨#[]⟩, .slice none 0 0, .slice none 0 0] 24)
  have hB := below_step hb1 hb2
  have hz := (box3f_alloc w (.string p) rv xv 24).below hb2
  have hy := box3f_alloc (w.alloc (.cells #[.string p, rv, xv] 24)) (.string ⟨#[]⟩) (.slice none 0 0) (.slice none 0 0) 24
  simp only [World.size_alloc] at hy
  have ho1 := fun W hb => ownMods_calls rv R W (hr.below hb) hR
  have ho2 := fun W (h : ModsAt W xv X) => ownMods_calls xv X W h hX
  obtain ⟨a1, n1, c1, _, _, rfl, _⟩ := id hr
  obtain ⟨a3, n3, c3, _, _, rfl, _⟩ := id hx
  replace ho1 := Lib.hid ho1
  replace ho2 := Lib.hid ho2
  clear hb1 hb2 hr
  obtain ⟨z0, z1, z2, zf⟩ := id hz
  go_enter Tryz.func10, Tryz.ntmps10
  go_wp2_with fail
  refine (ho1.out _ hB).mono ?_
  rintro e w1 ⟨⟨v1, rfl, hm1, L1, _, hw1⟩, hb⟩
  obtain ⟨a5, n5, c5, _, _, rfl, _⟩ := id hm1
  replace hB := below_step hB hb
  replace hz := hz.below hb
  replace hy := hy.below hb
  have hs1 := hz.set1 (.slice a5 n5 c5)
  have hym := hy.other (c := w.heap.size) (k := 1) (by omega) (.slice a5 n5 c5)
  have hBs := hB.setCell (p := ⟨w.heap.size, 1, none⟩) (Nat.le_refl _) (.slice a5 n5 c5)
  have hge1 : ∀ q n m, Value.slice a5 n5 c5 = .slice (some q) n m → q.block ≠ w.heap.size ∧ q.block ≠ w.heap.size + 1 := fun q n m e => by
    have := own_ge hw1 q n m e
    simp only [World.size_alloc] at this
    omega
  have hm1s := hm1.other (c := w.heap.size) (k := 1) (fun q n m e => (hge1 q n m e).1) (.slice a5 n5 c5)
  have hxs := hx.below hBs
  obtain ⟨z0, z1, z2, zf⟩ := id hz
  have hw1z' := hb.size
  have hsz : (w1.setCell ⟨w.heap.size, 1, none⟩ (.slice a5 n5 c5)).heap.size = w1.heap.size := by simp
  go_wp2_with fail
  generalize w1.setCell ⟨w.heap.size, 1, none⟩ (.slice a5 n5 c5) = w2 at hs1 hym hBs hm1s hxs hsz ⊢
  clear z0 z1 z2 zf hz hy hm1 hb hB
  obtain ⟨z0, z1, z2, zf⟩ := id hs1
  go_wp2_with fail
  refine (ho2.out _ hxs).mono ?_
  rintro e w3 ⟨⟨v2, rfl, hm2, L2, _, hw2⟩, hb⟩
  obtain ⟨a6, n6, c6, _, _, rfl, _⟩ := id hm2
  replace hBs := below_step hBs hb
  replace hs1 := hs1.below hb
  replace hym := hym.below hb
  replace hm1s := hm1s.below hb
  have hs2 := hs1.set2 (.slice a6 n6 c6)
  have hym2 := hym.other (c := w.heap.size) (k := 2) (by omega) (.slice a6 n6 c6)
  have hB3 := hBs.setCell (p := ⟨w.heap.size, 2, none⟩) (Nat.le_refl _) (.slice a6 n6 c6)
  have hm1t := hm1s.other (c := w.heap.size) (k := 2) (fun q n m e => (hge1 q n m e).1) (.slice a6 n6 c6)
  have hge2 : ∀ q n m, Value.slice a6 n6 c6 = .slice (some q) n m → q.block ≠ w.heap.size ∧ q.block ≠ w.heap.size + 1 := fun q n m e => by
    have h1 := own_ge hw2 q n m e
    have h2 := lt_of_cell hym.c0
    simp only [World.size_alloc] at hw1z'
    omega
  have hm2t := hm2.other (c := w.heap.size) (k := 2) (fun q n m e => (hge2 q n m e).1) (.slice a6 n6 c6)
  obtain ⟨z0, z1, z2, zf⟩ := id hs1
  obtain ⟨y0, y1, y2, yf⟩ := id hym
  have hfin : ∀ u0 u1 u2 : Value, ModsAt ((((w3.setCell ⟨w.heap.size, 2, none⟩ (.slice a6 n6 c6)).setCell ⟨w.heap.size + 1, 0, none⟩ u0).setCell ⟨w.heap.size + 1, 1, none⟩ u1).setCell ⟨w.heap.size + 1, 2, none⟩ u2) (.slice a5 n5 c5) R ∧ ModsAt ((((w3.setCell ⟨w.heap.size, 2, none⟩ (.slice a6 n6 c6)).setCell ⟨w.heap.size + 1, 0, none⟩ u0).setCell ⟨w.heap.size + 1, 1, none⟩ u1).setCell ⟨w.heap.size + 1, 2, none⟩ u2) (.slice a6 n6 c6) X ∧ Below w.heap.size w ((((w3.setCell ⟨w.heap.size, 2, none⟩ (.slice a6 n6 c6)).setCell ⟨w.heap.size + 1, 0, none⟩ u0).setCell ⟨w.heap.size + 1, 1, none⟩ u1).setCell ⟨w.heap.size + 1, 2, none⟩ u2) := fun u0 u1 u2 =>
    ⟨((hm1t.other (fun q n m e => (hge1 q n m e).2) u0).other (fun q n m e => (hge1 q n m e).2) u1).other (fun q n m e => (hge1 q n m e).2) u2,
     ((hm2t.other (fun q n m e => (hge2 q n m e).2) u0).other (fun q n m e => (hge2 q n m e).2) u1).other (fun q n m e => (hge2 q n m e).2) u2,
     ((hB3.setCell (p := ⟨w.heap.size + 1, 0, none⟩) (Nat.le_succ _) u0).setCell (p := ⟨w.heap.size + 1, 1, none⟩) (Nat.le_succ _) u1).setCell (p := ⟨w.heap.size + 1, 2, none⟩) (Nat.le_succ _) u2⟩
  replace hfin := Lib.hid hfin
  clear hm1t hm2t hge1 hge2 hym2 hs2 hB3 hxs hw2 hm2 hym hs1 hw1
  go_wp2_with fail
  refine bodyPost_ret (v := .agg #[.string p, .slice a5 n5 c5, .slice a6 n6 c6]) (by simp [results, Tryz.results10, go_sem, *]) rfl ?_
  exact ⟨⟨_, _, rfl, (hfin.out _ _ _).1, (hfin.out _ _ _).2.1⟩, (hfin.out _ _ _).2.2⟩
end Go.Proofs.Pw
