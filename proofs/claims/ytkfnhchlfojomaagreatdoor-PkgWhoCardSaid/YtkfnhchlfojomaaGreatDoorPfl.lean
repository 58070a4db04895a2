/- Pf: walks and plain laws, joined: File3 Ent FileFind IdxFind. Conditions: at each theorem. -/
import Derived.Test.YtkfnhchlfojomaaGreatDoorPfk
import Derived.Deep.Upon
import Derived.Stop.IfaceNil
import Derived.Test.YtkfnhchlfojomaaGreatDoorPfc
import Derived.Shelf.Abstract

namespace Go.Proofs.Pw
open Go.RowKit
open Go.Lib hiding intOf
def mdVs (l : List (ByteArray × ByteArray)) : List Value := l.flatMap fun m => [.string m.1, .string m.2]
def mdTs (l : List (ByteArray × ByteArray)) : List Md := l.map fun m => (m.1.data.toList, m.2.data.toList)
theorem mdVs_length (l) : (mdVs l).length = l.length * 2 := by
  induction l with
  | nil => rfl
  | cons a r ih =>
    show (([.string a.1, .string a.2] : List Value) ++ mdVs r).length = _
    rw [List.length_append, ih]; simp; omega
theorem mdTs_length (l) : (mdTs l).length = l.length := List.length_map ..
theorem mdVs_one {l} : ∀ u ∈ mdVs l, u.oneCell' = true := by
  intro u hu
  simp only [mdVs, List.mem_flatMap] at hu
  obtain ⟨m, _, hu⟩ := hu
  simp at hu
  rcases hu with rfl | rfl <;> rfl
theorem mdVs_get : ∀ {l : List (ByteArray × ByteArray)} {j : Nat} {m : ByteArray × ByteArray}, l[j]? = some m → (mdVs l)[j * 2]? = some (.string m.1) ∧ (mdVs l)[j * 2 + 1]? = some (.string m.2)
  | [], j, m, h => by simp at h
  | a :: r, 0, m, h => by
    simp at h; subst h
    exact ⟨rfl, rfl⟩
  | a :: r, j + 1, m, h => by
    have := mdVs_get (l := r) (j := j) (m := m) (by simpa using h)
    have e : mdVs (a :: r) = .string a.1 :: .string a.2 :: mdVs r := rfl
    rw [e, show (j + 1) * 2 = j * 2 + 1 + 1 by omega, List.getElem?_cons_succ, List.getElem?_cons_succ, List.getElem?_cons_succ, List.getElem?_cons_succ]
    exact this
theorem modsAt_own {w : World} {base e : Nat} {v : Value} {l : List (ByteArray × ByteArray)} (h : w.ownsRow base e 2 v l.length (mdVs l)) : ModsAt w v (mdTs l) := by
  rcases h.2 with ⟨rfl, h0⟩ | ⟨g, cap, cur, rfl, hb, hg, hn, hm, hs, ht⟩
  · have : l = [] := List.eq_nil_of_length_eq_zero h0
    subst this
    exact ModsAt.nil w
  · refine ⟨_, l.length, cap, fun j => (l.getD j (ByteArray.empty, ByteArray.empty)).1, fun j => (l.getD j (ByteArray.empty, ByteArray.empty)).2, rfl, ?_, hn, by unfold maxLen at hm; exact hm, fun j hj => ⟨g, 0, rfl, ?_⟩⟩
    · apply List.ext_getElem?
      intro i
      by_cases hi : i < l.length
      · rw [mdF_get _ _ _ i hi]
        simp [mdTs, List.getD_eq_getElem?_getD, List.getElem?_eq_getElem hi]
      · rw [List.getElem?_eq_none (by rw [mdTs_length]; omega), List.getElem?_eq_none (by rw [mdF_length]; omega)]
    · have hget := mdVs_get (l := l) (j := j) (m := l.getD j (ByteArray.empty, ByteArray.empty)) (by rw [List.getD_eq_getElem?_getD, List.getElem?_eq_getElem hj]; rfl)
      rw [← ht] at hget
      rw [List.getElem?_take, if_pos (by omega), List.getElem?_take, if_pos (by omega)] at hget
      rw [Nat.zero_add]
      exact ⟨by rw [cell_of_row w g _ cur e (0, 0) hg]; simpa using hget.1, by rw [cell_of_row w g _ cur e (0, 0) hg]; simpa using hget.2⟩
def mdL (n : Nat) (P V : Nat → ByteArray) : List (ByteArray × ByteArray) := (List.range n).map fun j => (P j, V j)
theorem mdL_length (n P V) : (mdL n P V).length = n := by simp [mdL]
theorem mdL_ts (n P V) : mdTs (mdL n P V) = mdF n P V := by simp [mdL, mdTs, mdF]
theorem Tryz.infoMod : (Tryz.prog.info? 29).map (fun i => (i.zero, i.size, i.bytes)) = some (some (.agg #[.string ⟨#[]⟩, .string ⟨#[]⟩]), 2, 32) := by kernel_rfl
theorem mods_cells {w : World} {b o n : Nat} {P V : Nat → ByteArray} (hc : ∀ j, j < n → w.cell? ⟨b, o + j * 2, none⟩ = some (.string (P j)) ∧ w.cell? ⟨b, o + j * 2 + 1, none⟩ = some (.string (V j))) :
    ∀ j u, (mdVs (mdL n P V))[j]? = some u → w.cell? ((⟨b, o, none⟩ : Addr).add j) = some u := by
  intro j u hu
  have hj : j < n * 2 := by
    have := (List.getElem?_eq_some_iff.1 hu).1
    rwa [mdVs_length, mdL_length] at this
  have hk : j / 2 < n := by omega
  have hg := mdVs_get (l := mdL n P V) (j := j / 2) (m := (P (j / 2), V (j / 2))) (by simp [mdL, hk])
  rw [show (⟨b, o, none⟩ : Addr).add j = ⟨b, o + j, none⟩ from by unfold Addr.add; split <;> simp_all]
  rcases Nat.mod_two_eq_zero_or_one j with h | h
  · rw [show j = j / 2 * 2 by omega] at hu ⊢
    rw [hg.1] at hu
    cases hu
    exact (hc _ hk).1
  · rw [show j = j / 2 * 2 + 1 by omega] at hu ⊢
    rw [hg.2] at hu
    cases hu
    rw [← Nat.add_assoc]
    exact (hc _ hk).2
set_option maxHeartbeats 1000000 in
theorem ownMods_calls (v : Value) (l : List Md) (w : World) (h : ModsAt w v l) (hl : l.length ≤ 1000000) :
    Calls Tryz.prog 17 #[v] w fun e w' => (∃ v', e = .returned v' ∧ ModsAt w' v' l ∧ ∃ L, l = mdTs L ∧ w'.ownsRow w.heap.size 29 2 v' L.length (mdVs L)) ∧ Below w.heap.size w w' := by
  obtain ⟨i0, hi, hz0, hz1, hz2⟩ := info_parts Tryz.infoMod
  obtain ⟨a, n, cap, P, V, rfl, rfl, hnc, hcap, hc⟩ := h
  rw [mdF_length] at hl
  cases a with
  | none =>
    have hn0 : n = 0 := by
      rcases Nat.eq_zero_or_pos n with h | h
      · exact h
      · obtain ⟨b, o, e, _⟩ := hc 0 h
        cases e
    subst hn0
    clear hc
    have happ := fun W ty => run_append_nothing (P := Tryz.prog) W 23 23 ty 29 i0 Tryz.underlying23 hi none 0 0 (Nat.le_refl _) (.slice none 0 cap) (Src.ofNil W Tryz.underlying23 cap)
    go_enter Tryz.func17, Tryz.ntmps17
    go_wp2_with fail
    go_ret
    exact ⟨⟨_, rfl, ModsAt.nil w, [], rfl, World.ownsRow_nil _ _ _ _⟩, Below.refl _ _⟩
  | some a =>
    have hc2 : ∃ news, news.length = n * 2 ∧ (∀ j u, news[j]? = some u → w.cell? (a.add j) = some u) ∧ news = mdVs (mdL n P V) := by
      refine ⟨_, by rw [mdVs_length, mdL_length], ?_, rfl⟩
      rcases Nat.eq_zero_or_pos n with h | h
      · subst h
        intro j u hu
        simp [mdL, mdVs] at hu
      · obtain ⟨b, o, e, _⟩ := hc 0 h
        injection e with e
        subst e
        exact mods_cells (fun j hj => by
          obtain ⟨b', o', e, h1, h2⟩ := hc j hj
          injection e with e
          injection e with e1 e2 _
          subst e1 e2
          exact ⟨h1, h2⟩)
    obtain ⟨news, hn1, hn2, hn3⟩ := hc2
    have HN := Lib.hid hn3
    clear hc hn3
    go_enter Tryz.func17, Tryz.ntmps17
    go_wp2_with (at_builtin; refine wpList_append_own _ rfl _ _ 23 rfl w.heap.size 29 i0 (.agg #[.string ⟨#[]⟩, .string ⟨#[]⟩]) 2 32 Tryz.underlying23 hi hz0 hz1 hz2 rfl (by decide) _ _ _ rfl (World.ownsRow_nil _ _ _ _) a n cap news rfl hn1 hn2 (by rw [HN.out]; exact mdVs_one) (by unfold maxLen; omega) (by omega) (Nat.le_refl _) ?_; intro v' w1 hown1 hgrow1 _)
    go_ret
    have ho : w1.ownsRow w.heap.size 29 2 v' (mdL n P V).length (mdVs (mdL n P V)) := by
      rw [mdL_length, ← HN.out]
      simpa using hown1
    refine ⟨⟨v', rfl, by rw [← mdL_ts]; exact modsAt_own ho, mdL n P V, (mdL_ts n P V).symm, ho⟩, (Below.refl _ _).grown hgrow1 (Nat.le_refl _) (fun k h => by cases h)⟩
structure Box3f (w : World) (b : Nat) (v0 v1 v2 : Value) : Prop where
  c0 : w.cell? ⟨b, 0, none⟩ = some v0
  c1 : w.cell? ⟨b, 1, none⟩ = some v1
  c2 : w.cell? ⟨b, 2, none⟩ = some v2
  fz : ∀ i, w.frozen? ⟨b, i, none⟩ = false
theorem Box3f.below {w w' : World} {b : Nat} {v0 v1 v2 : Value} (h : Box3f w b v0 v1 v2) (hb : Below w.heap.size w w') : Box3f w' b v0 v1 v2 :=
  ⟨Below.cell_some hb h.c0, Below.cell_some hb h.c1, Below.cell_some hb h.c2, fun i => (hb.frozen (p := ⟨b, i, none⟩) (show b < w.heap.size from lt_of_cell h.c0)).trans (h.fz i)⟩
theorem set_same {w : World} {b k : Nat} {u : Value} (v : Value) (h : w.cell? ⟨b, k, none⟩ = some u) : (w.setCell ⟨b, k, none⟩ v).cell? ⟨b, k, none⟩ = some v := World.cell?_setCell_same _ _ _ h
theorem set_off {w : World} {b k j : Nat} (v : Value) (h : j ≠ k) : (w.setCell ⟨b, k, none⟩ v).cell? ⟨b, j, none⟩ = w.cell? ⟨b, j, none⟩ := World.cell?_setCell_other _ _ _ _ (by intro e; injection e with _ e _; exact h e.symm)
theorem set_blk {w : World} {b c k j : Nat} (v : Value) (h : c ≠ b) : (w.setCell ⟨b, k, none⟩ v).cell? ⟨c, j, none⟩ = w.cell? ⟨c, j, none⟩ := World.cell?_setCell_other _ _ _ _ (by intro e; injection e with e _ _; exact h e.symm)
theorem Box3f.other {w : World} {b c k : Nat} {v0 v1 v2 : Value} (h : Box3f w b v0 v1 v2) (hc : b ≠ c) (v : Value) : Box3f (w.setCell ⟨c, k, none⟩ v) b v0 v1 v2 :=
  ⟨by rw [set_blk v hc]; exact h.c0, by rw [set_blk v hc]; exact h.c1, by rw [set_blk v hc]; exact h.c2, fun i => by simp [h.fz i]⟩
theorem ModsAt.other {w : World} {v : Value} {l : List Md} {c k : Nat} (h : ModsAt w v l) (hc : ∀ q n m, v = .slice (some q) n m → q.block ≠ c) (u : Value) : ModsAt (w.setCell ⟨c, k, none⟩ u) v l := by
  obtain ⟨a, n, cap, P, V, rfl, h2, h3, h4, h5⟩ := h
  refine ⟨a, n, cap, P, V, rfl, h2, h3, h4, fun j hj => ?_⟩
  obtain ⟨b, o, rfl, e1, e2⟩ := h5 j hj
  have hb : b ≠ c := hc _ _ _ rfl
  exact ⟨b, o, rfl, by rw [set_blk u hb]; exact e1, by rw [set_blk u hb]; exact e2⟩
end Go.Proofs.Pw

namespace Go.Proofs.Pw
open Go.RowKit
open Go.Lib hiding intOf
structure EntC (w : World) (b o : Nat) (p v : ByteArray) (rv kv : Value) (bk : Bool) : Prop where
  c0 : w.cell? ⟨b, o, none⟩ = some (.string p)
  c1 : w.cell? ⟨b, o + 1, none⟩ = some (.string v)
  c2 : w.cell? ⟨b, o + 2, none⟩ = some rv
  c3 : w.cell? ⟨b, o + 3, none⟩ = some kv
  c4 : w.cell? ⟨b, o + 4, none⟩ = some (.bool bk)
theorem EntC.below {w w' : World} {b o : Nat} {p v : ByteArray} {rv kv : Value} {bk : Bool} (h : EntC w b o p v rv kv bk) (hb : Below w.heap.size w w') : EntC w' b o p v rv kv bk :=
  ⟨Below.cell_some hb h.c0, Below.cell_some hb h.c1, Below.cell_some hb h.c2, Below.cell_some hb h.c3, Below.cell_some hb h.c4⟩
structure EntsIn (w : World) (a : Option Addr) (n cap : Nat) (P V : Nat → ByteArray) (R : Nat → List Md) (K : Nat → List Str) (B : Nat → Bool) (Rv Kv : Nat → Value) : Prop where
  le : n ≤ cap
  cap : cap ≤ 9223372036854775807
  at_ : ∀ j, j < n → ∃ b o, a = some ⟨b, o, none⟩ ∧ EntC w b (o + j * 5) (P j) (V j) (Rv j) (Kv j) (B j)
  reqs : ∀ j, j < n → ModsAt w (Rv j) (R j)
  packs : ∀ j, j < n → StrsAt w (Kv j) (K j)
theorem EntsIn.below {w w' : World} {a n cap P V R K B Rv Kv} (h : EntsIn w a n cap P V R K B Rv Kv) (hb : Below w.heap.size w w') : EntsIn w' a n cap P V R K B Rv Kv :=
  ⟨h.le, h.cap, fun j hj => let ⟨b, o, e, c⟩ := h.at_ j hj; ⟨b, o, e, c.below hb⟩, fun j hj => (h.reqs j hj).below hb, fun j hj => (h.packs j hj).below hb⟩
def EntsAt (w : World) (v : Value) (l : List En) : Prop :=
  ∃ a n cap P V R K B Rv Kv, v = .slice a n cap ∧ l = enF n P V R K B ∧ EntsIn w a n cap P V R K B Rv Kv
theorem EntsAt.below {w w' : World} {v : Value} {l : List En} (h : EntsAt w v l) (hb : Below w.heap.size w w') : EntsAt w' v l := by
  obtain ⟨a, n, cap, P, V, R, K, B, Rv, Kv, h1, h2, h3⟩ := h
  exact ⟨a, n, cap, P, V, R, K, B, Rv, Kv, h1, h2, h3.below hb⟩
theorem EntsAt.nil (w : World) : EntsAt w (.slice none 0 0) [] :=
  ⟨none, 0, 0, fun _ => ByteArray.empty, fun _ => ByteArray.empty, fun _ => [], fun _ => [], fun _ => false, fun _ => .slice none 0 0, fun _ => .slice none 0 0, rfl, rfl, Nat.le_refl _, by decide, fun j hj => absurd hj (Nat.not_lt_zero _), fun j hj => absurd hj (Nat.not_lt_zero _), fun j hj => absurd hj (Nat.not_lt_zero _)⟩
structure ShortI (l : List En) : Prop where
  len : l.length ≤ 1000000
  mds : ∀ e ∈ l, e.md.1.length ≤ 1000000 ∧ e.md.2.length ≤ 1000000
  reqs : ∀ e ∈ l, Short e.reqs
  packs : ∀ e ∈ l, e.packs.length ≤ 1000000 ∧ ∀ s ∈ e.packs, s.length ≤ 1000000
theorem ShortI.at_ {n : Nat} {P V : Nat → ByteArray} {R : Nat → List Md} {K : Nat → List Str} {B : Nat → Bool} (h : ShortI (enF n P V R K B)) {j : Nat} (hj : j < n) :
    n ≤ 1000000 ∧ (P j).size ≤ 1000000 ∧ (V j).size ≤ 1000000 ∧ Short (R j) ∧ (K j).length ≤ 1000000 ∧ ∀ s ∈ K j, s.length ≤ 1000000 := by
  have hm := List.mem_of_getElem? (enF_get n P V R K B j hj)
  have h1 := h.len
  rw [enF_length] at h1
  refine ⟨h1, ?_, ?_, h.reqs _ hm, (h.packs _ hm).1, (h.packs _ hm).2⟩
  · rw [size_eq]; exact (h.mds _ hm).1
  · rw [size_eq]; exact (h.mds _ hm).2
end Go.Proofs.Pw

namespace Go.Proofs.Pw
open Go.RowKit
open Go.Lib hiding intOf
def TestsM (g : Nat) (lb : Array Value) (p : Md → Bool) (n : Nat) (P V : Nat → ByteArray) (base : Nat) (w : World) : Prop :=
  ∀ W, Below base w W → ∀ j, j < n → Calls Tryz.prog g (#[.agg #[.string (P j), .string (V j)]] ++ lb) W fun e w'' => e = .returned (.bool (p ((P j).data.toList, (V j).data.toList))) ∧ Below W.heap.size W w''
set_option maxHeartbeats 1000000 in
set_option maxRecDepth 100000 in
theorem indexFuncM_calls (g : Nat) (lb : Array Value) (eg : ∀ args w, (callFunc g args).run Tryz.prog w = .ok (.enter g args) w) (p : Md → Bool) (a : Option Addr) (n cap base : Nat) (P V : Nat → ByteArray) (w : World) (hn : n ≤ 1000000) (hbase : base ≤ w.heap.size)
    (hc : ∀ j, j < n → ∃ b o, a = some ⟨b, o, none⟩ ∧ w.cell? ⟨b, o + j * 2, none⟩ = some (.string (P j)) ∧ w.cell? ⟨b, o + j * 2 + 1, none⟩ = some (.string (V j))) (hT : TestsM g lb p n P V base w) :
    Calls Tryz.prog 139 #[.slice a n cap, .func (.func g) #[] lb] w fun e w' => e = .returned (.int .i64 (findI p (mdF n P V))) ∧ Below w.heap.size w w' := by
  replace hc := Lib.hid hc
  replace hT := Lib.hid hT
  go_enter Tryz.func139, Tryz.ntmps139
  go_wp2_with fail
  go_loopw [8] (fun i wr => ∃ k : Nat, k ≤ n ∧ i = .int .i64 k ∧ Below w.heap.size w wr ∧ Hid (∀ j, j < k → p ((P j).data.toList, (V j).data.toList) = false)) (fun i _ => n - (intOf i).toNat)
  case atStart => exact ⟨0, by omega, rfl, Below.refl _ _, Lib.hid (fun j hj => absurd hj (Nat.not_lt_zero _))⟩
  case round =>
    obtain ⟨k, hk, rfl, hb, HA⟩ := hrel
    by_cases hlt : k < n
    · obtain ⟨b1, o1, rfl, c1, c2⟩ := hc.out k hlt
      replace c1 := Below.cell_some hb c1
      replace c2 := Below.cell_some hb c2
      have hcall := hT.out wr (hb.mono hbase) k hlt
      have hget := mdF_get n P V k hlt
      cases hq : p ((P k).data.toList, (V k).data.toList) with
      | true =>
        have HR : Hid (findI p (mdF n P V) = k) := Lib.hid (findI_hit hget hq (fun j y hj hy => by
          rw [mdF_get n P V j (by omega)] at hy
          cases hy
          exact HA.out j hj))
        rw [hq] at hcall
        clear hq hget
        go_wp2_with (go_at_fn g; refine hcall.mono ?_; rintro e w' ⟨rfl, hb2⟩)
        go_ret
        rw [HR.out]
        exact ⟨rfl, below_step hb hb2⟩
      | false =>
        have HN : Hid (∀ j, j < k + 1 → p ((P j).data.toList, (V j).data.toList) = false) := Lib.hid (fun j hj => by
          by_cases e : j = k
          · subst e; exact hq
          · exact HA.out j (by omega))
        rw [hq] at hcall
        clear hq hget
        go_wp2_with (go_at_fn g; refine hcall.mono ?_; rintro e w' ⟨rfl, hb2⟩)
        go_roundw
        case rel => exact ⟨k + 1, by omega, by go_num, below_step hb hb2, HN⟩
        case measure => simp [intOf]; omega
    · obtain rfl : k = n := by omega
      have HR : Hid (findI p (mdF k P V) = -1) := Lib.hid (findI_none (fun j y hy => by
        have hj : j < k := by have := (List.getElem?_eq_some_iff.1 hy).1; rwa [mdF_length] at this
        rw [mdF_get k P V j hj] at hy
        cases hy
        exact HA.out j hj))
      go_wp2_with fail
      go_ret
      rw [HR.out]
      exact ⟨rfl, hb⟩
end Go.Proofs.Pw

namespace Go.Proofs.Pw
open Go.RowKit
open Go.Lib hiding intOf
theorem EntsIn.forms {w : World} {a n cap P V R K B Rv Kv} (h : EntsIn w a n cap P V R K B Rv Kv) {j : Nat} (hj : j < n) : ∃ a1 n1 c1 a2 n2 c2, Rv j = .slice a1 n1 c1 ∧ Kv j = .slice a2 n2 c2 := by
  obtain ⟨a1, n1, c1, _, _, e1, _⟩ := h.reqs j hj
  obtain ⟨a2, n2, c2, _, e2, _⟩ := h.packs j hj
  exact ⟨_, _, _, _, _, _, e1, e2⟩
def TestsE (g : Nat) (lb : Array Value) (p : Nat → Bool) (n : Nat) (P V : Nat → ByteArray) (Rv Kv : Nat → Value) (B : Nat → Bool) (base : Nat) (w : World) : Prop :=
  ∀ W, Below base w W → ∀ j, j < n → Calls Tryz.prog g (#[.agg #[.string (P j), .string (V j), Rv j, Kv j, .bool (B j)]] ++ lb) W fun e w'' => e = .returned (.bool (p j)) ∧ Below W.heap.size W w''
set_option maxHeartbeats 1000000 in
set_option maxRecDepth 100000 in
theorem indexFuncE_calls (g : Nat) (lb : Array Value) (eg : ∀ args w, (callFunc g args).run Tryz.prog w = .ok (.enter g args) w) (p : Nat → Bool) (q : En → Bool) (a : Option Addr) (n cap base : Nat) (P V : Nat → ByteArray) (R : Nat → List Md) (K : Nat → List Str) (B : Nat → Bool) (Rv Kv : Nat → Value) (w : World) (hn : n ≤ 1000000) (hbase : base ≤ w.heap.size)
    (hc : EntsIn w a n cap P V R K B Rv Kv) (hq : ∀ j, j < n → q (enAt (enF n P V R K B) j) = p j) (hT : TestsE g lb p n P V Rv Kv B base w) :
    Calls Tryz.prog 125 #[.slice a n cap, .func (.func g) #[] lb] w fun e w' => e = .returned (.int .i64 (findI q (enF n P V R K B))) ∧ Below w.heap.size w w' := by
  replace hc := Lib.hid hc
  replace hT := Lib.hid hT
  replace hq := Lib.hid hq
  go_enter Tryz.func125, Tryz.ntmps125
  go_wp2_with fail
  go_loopw [8] (fun i wr => ∃ k : Nat, k ≤ n ∧ i = .int .i64 k ∧ Below w.heap.size w wr ∧ Hid (∀ j, j < k → p j = false)) (fun i _ => n - (intOf i).toNat)
  case atStart => exact ⟨0, by omega, rfl, Below.refl _ _, Lib.hid (fun j hj => absurd hj (Nat.not_lt_zero _))⟩
  case round =>
    obtain ⟨k, hk, rfl, hb, HA⟩ := hrel
    by_cases hlt : k < n
    · obtain ⟨b1, o1, rfl, hcell⟩ := hc.out.at_ k hlt
      obtain ⟨c0, c1, c2, c3, c4⟩ := hcell.below hb
      have hcall := hT.out wr (hb.mono hbase) k hlt
      have hget := enF_get n P V R K B k hlt
      obtain ⟨a1, n1, s1, a2, n2, s2, e1, e2⟩ := hc.out.forms hlt
      rw [e1] at c2
      rw [e2] at c3
      rw [e1, e2] at hcall
      clear hcell
      cases hp : p k with
      | true =>
        have HR : Hid (findI q (enF n P V R K B) = k) := Lib.hid (findI_hit hget (by have := hq.out k hlt; rw [enAt_enF hlt] at this; rw [this, hp]) (fun j y hj hy => by
          rw [enF_get n P V R K B j (by omega)] at hy
          have h1 := hq.out j (by omega)
          rw [enAt_enF (by omega)] at h1
          cases hy
          rw [h1]; exact HA.out j hj))
        rw [hp] at hcall
        clear hp hget e1 e2
        go_wp2_with (go_at_fn g; refine hcall.mono ?_; rintro e w' ⟨rfl, hb2⟩)
        go_ret
        rw [HR.out]
        exact ⟨rfl, below_step hb hb2⟩
      | false =>
        have HN : Hid (∀ j, j < k + 1 → p j = false) := Lib.hid (fun j hj => by
          by_cases e : j = k
          · subst e; exact hp
          · exact HA.out j (by omega))
        rw [hp] at hcall
        clear hp hget e1 e2
        go_wp2_with (go_at_fn g; refine hcall.mono ?_; rintro e w' ⟨rfl, hb2⟩)
        go_roundw
        case rel => exact ⟨k + 1, by omega, by go_num, below_step hb hb2, HN⟩
        case measure => simp [intOf]; omega
    · obtain rfl : k = n := by omega
      have HR : Hid (findI q (enF k P V R K B) = -1) := Lib.hid (findI_none (fun j y hy => by
        have hj : j < k := by have := (List.getElem?_eq_some_iff.1 hy).1; rwa [enF_length] at this
        have h1 := hq.out j hj
        rw [enAt_enF hj] at h1
        rw [enF_get k P V R K B j hj] at hy
        cases hy
        rw [h1]; exact HA.out j hj))
      go_wp2_with fail
      go_ret
      rw [HR.out]
      exact ⟨rfl, hb⟩
theorem Tryz.enters_ifind1 : ∀ args w, (callFunc 126 args).run Tryz.prog w = .ok (.enter 126 args) w := Go.Proofs.enters_of Tryz.func126 (by kernel_rfl) rfl
theorem idxFind1_calls (p v s u : ByteArray) (a1 a2 : Option Addr) (n1 c1 n2 c2 : Nat) (bk : Bool) (b : Nat) (w : World) (h0 : w.cell? ⟨b, 0, none⟩ = some (.string s)) (h1 : w.cell? ⟨b, 1, none⟩ = some (.string u)) :
    Calls Tryz.prog 126 #[.agg #[.string p, .string v, .slice a1 n1 c1, .slice a2 n2 c2, .bool bk], .pointer (some ⟨b, 0, none⟩)] w fun e w' => e = .returned (.bool (decide (p = s ∧ v = u))) ∧ Below w.heap.size w w' := by
  have hb := below_alloc w (.cells #[.string p, .string v, .slice a1 n1 c1, .slice a2 n2 c2, .bool bk] 37)
  have d0 := Below.cell_some hb h0
  have d1 := Below.cell_some hb h1
  have hg := Tryz.md_guard
  have hq := md_eql p v s u
  generalize decide (p = s ∧ v = u) = X at hq ⊢
  go_enter Tryz.func126, Tryz.ntmps126
  go_wp2_with fail
  go_ret
  exact ⟨rfl, hb⟩
theorem idxFind_in (a : Option Addr) (n cap : Nat) (P V : Nat → ByteArray) (R : Nat → List Md) (K : Nat → List Str) (B : Nat → Bool) (Rv Kv : Nat → Value) (p v : ByteArray) (w : World) (h : EntsIn w a n cap P V R K B Rv Kv) (hl : n ≤ 1000000) :
    Calls Tryz.prog 59 #[.slice a n cap, .agg #[.string p, .string v]] w fun e w' => e = .returned (.int .i64 (findE (enF n P V R K B) (p.data.toList, v.data.toList))) ∧ Below w.heap.size w w' := by
  have hb := below_alloc w (.cells #[.string p, .string v] 29)
  have hz := box2_alloc w (.string p) (.string v) 29
  have hi := indexFuncE_calls 126 #[.pointer (some ⟨w.heap.size, 0, none⟩)] Tryz.enters_ifind1 (fun j => decide (P j = p ∧ V j = v)) (isMd (p.data.toList, v.data.toList)) a n cap (w.alloc (.cells #[.string p, .string v] 29)).heap.size P V R K B Rv Kv (w.alloc (.cells #[.string p, .string v] 29)) hl (Nat.le_refl _) (h.below hb)
    (fun j hj => by
      rw [enAt_enF hj]
      unfold isMd
      rw [Bool.eq_iff_iff, decide_eq_true_iff, decide_eq_true_iff]
      exact bytes_pair)
    (fun W hW j hj => by
      obtain ⟨a1, n1, s1, a2, n2, s2, e1, e2⟩ := h.forms hj
      rw [e1, e2]
      exact idxFind1_calls (P j) (V j) p v a1 a2 n1 s1 n2 s2 (B j) w.heap.size W (Below.cell_some hW hz.c0) (Below.cell_some hW hz.c1))
  show Calls _ _ _ _ fun e w' => e = .returned (.int .i64 (findI (isMd (p.data.toList, v.data.toList)) (enF n P V R K B))) ∧ Below w.heap.size w w'
  generalize findI (isMd (p.data.toList, v.data.toList)) (enF n P V R K B) = x at hi ⊢
  replace hi := Lib.hid hi
  clear hz h
  go_enter Tryz.func59, Tryz.ntmps59
  go_wp2_with fail
  refine hi.out.mono ?_
  rintro e w1 ⟨rfl, hb1⟩
  go_wp2_with fail
  go_ret
  exact ⟨rfl, below_step hb hb1⟩
end Go.Proofs.Pw
