/- Da: walks and plain laws, joined: File3 DnBack RoundQ FileLaw IdxMath GrMath. Conditions: at each theorem. -/
import Derived.Test.YtnanklfbmmionaaGreatDoorDae
import Derived.Deep.Upon
import Derived.Stop.IfaceNil
import Derived.RangeFuncNested
import Derived.RangeFuncBound
import Derived.RangeFuncCalls
import Derived.RangeFuncLeaves
import Derived.RangeFuncBox
import Derived.RangeFuncMany
import Derived.RangeFuncKeeps
import Derived.Shelf.Abstract
import Derived.Shelf.RegionOpen
import Derived.WalkKit
import Derived.OwnWalkIn
import Derived.TacticsInMore
import Derived.LoopNIn
import Derived.LoopIn
import Derived.Sort.QuietThIn
import Derived.Sort.BigQuietIn
import Derived.Test.YtnanklfbmmionaaGreatDoorDab

namespace Go.Proofs.Pw
open Go.RowKit
open Go.Lib hiding intOf
def mdVs (l : List (ByteArray × ByteArray)) : List Value := l.flatMap fun m => [.string m.1, .string m.2]
def mdTs (l : List (ByteArray × ByteArray)) : List Md := l.map fun m => (m.1.data.toList, m.2.data.toList)
theorem mdVs_length (l) : (mdVs l).length = l.length * 2 := by
  induction l with
  | nil => rfl
  | cons a r ih =>
    show (([.string a.1, .string a.2] : List Value) ++ mdVs r).length = _
    rw [List.length_append, ih]; simp; omega
theorem mdTs_length (l) : (mdTs l).length = l.length := List.length_map ..
theorem mdVs_append (a b) : mdVs (a ++ b) = mdVs a ++ mdVs b := List.flatMap_append ..
theorem mdVs_one {l} : ∀ u ∈ mdVs l, u.oneCell' = true := by
  intro u hu
  simp only [mdVs, List.mem_flatMap] at hu
  obtain ⟨m, _, hu⟩ := hu
  simp at hu
  rcases hu with rfl | rfl <;> rfl
theorem mdVs_get : ∀ {l : List (ByteArray × ByteArray)} {j : Nat} {m : ByteArray × ByteArray}, l[j]? = some m → (mdVs l)[j * 2]? = some (.string m.1) ∧ (mdVs l)[j * 2 + 1]? = some (.string m.2)
  | [], j, m, h => by simp at h
  | a :: r, 0, m, h => by
    simp at h; subst h
    exact ⟨rfl, rfl⟩
  | a :: r, j + 1, m, h => by
    have := mdVs_get (l := r) (j := j) (m := m) (by simpa using h)
    have e : mdVs (a :: r) = .string a.1 :: .string a.2 :: mdVs r := rfl
    rw [e, show (j + 1) * 2 = j * 2 + 1 + 1 by omega, List.getElem?_cons_succ, List.getElem?_cons_succ, List.getElem?_cons_succ, List.getElem?_cons_succ]
    exact this
theorem modsAt_own {w : World} {base e : Nat} {v : Value} {l : List (ByteArray × ByteArray)} (h : w.ownsRow base e 2 v l.length (mdVs l)) : ModsAt w v (mdTs l) := by
  rcases h.2 with ⟨rfl, h0⟩ | ⟨g, cap, cur, rfl, hb, hg, hn, hm, hs, ht⟩
  · have : l = [] := List.eq_nil_of_length_eq_zero h0
    subst this
    exact ModsAt.nil w
  · refine ⟨_, l.length, cap, fun j => (l.getD j (ByteArray.empty, ByteArray.empty)).1, fun j => (l.getD j (ByteArray.empty, ByteArray.empty)).2, rfl, ?_, hn, by unfold maxLen at hm; exact hm, fun j hj => ⟨g, 0, rfl, ?_⟩⟩
    · apply List.ext_getElem?
      intro i
      by_cases hi : i < l.length
      · rw [mdF_get _ _ _ i hi]
        simp [mdTs, List.getD_eq_getElem?_getD, List.getElem?_eq_getElem hi]
      · rw [List.getElem?_eq_none (by rw [mdTs_length]; omega), List.getElem?_eq_none (by rw [mdF_length]; omega)]
    · have hget := mdVs_get (l := l) (j := j) (m := l.getD j (ByteArray.empty, ByteArray.empty)) (by rw [List.getD_eq_getElem?_getD, List.getElem?_eq_getElem hj]; rfl)
      rw [← ht] at hget
      rw [List.getElem?_take, if_pos (by omega), List.getElem?_take, if_pos (by omega)] at hget
      rw [Nat.zero_add]
      exact ⟨by rw [cell_of_row w g _ cur e (0, 0) hg]; simpa using hget.1, by rw [cell_of_row w g _ cur e (0, 0) hg]; simpa using hget.2⟩
def mdL (n : Nat) (P V : Nat → ByteArray) : List (ByteArray × ByteArray) := (List.range n).map fun j => (P j, V j)
theorem mdL_length (n P V) : (mdL n P V).length = n := by simp [mdL]
theorem mdL_ts (n P V) : mdTs (mdL n P V) = mdF n P V := by simp [mdL, mdTs, mdF]
theorem Tryz.infoMod : (Tryz.prog.info? 29).map (fun i => (i.zero, i.size, i.bytes)) = some (some (.agg #[.string ⟨#[]⟩, .string ⟨#[]⟩]), 2, 32) := by kernel_rfl
theorem mods_cells {w : World} {b o n : Nat} {P V : Nat → ByteArray} (hc : ∀ j, j < n → w.cell? ⟨b, o + j * 2, none⟩ = some (.string (P j)) ∧ w.cell? ⟨b, o + j * 2 + 1, none⟩ = some (.string (V j))) :
    ∀ j u, (mdVs (mdL n P V))[j]? = some u → w.cell? ((⟨b, o, none⟩ : Addr).add j) = some u := by
  intro j u hu
  have hj : j < n * 2 := by
    have := (List.getElem?_eq_some_iff.1 hu).1
    rwa [mdVs_length, mdL_length] at this
  have hk : j / 2 < n := by omega
  have hg := mdVs_get (l := mdL n P V) (j := j / 2) (m := (P (j / 2), V (j / 2))) (by simp [mdL, hk])
  rw [show (⟨b, o, none⟩ : Addr).add j = ⟨b, o + j, none⟩ from by unfold Addr.add; split <;> simp_all]
  rcases Nat.mod_two_eq_zero_or_one j with h | h
  · rw [show j = j / 2 * 2 by omega] at hu ⊢
    rw [hg.1] at hu
    cases hu
    exact (hc _ hk).1
  · rw [show j = j / 2 * 2 + 1 by omega] at hu ⊢
    rw [hg.2] at hu
    cases hu
    rw [← Nat.add_assoc]
    exact (hc _ hk).2
set_option maxHeartbeats 1000000 in
theorem ownMods_calls (v : Value) (l : List Md) (w : World) (h : ModsAt w v l) (hl : l.length ≤ 1000000) :
    Calls Tryz.prog 20 #[v] w fun e w' => (∃ v', e = .returned v' ∧ ModsAt w' v' l ∧ ∃ L, l = mdTs L ∧ w'.ownsRow w.heap.size 29 2 v' L.length (mdVs L)) ∧ Below w.heap.size w w' := by
  obtain ⟨i0, hi, hz0, hz1, hz2⟩ := info_parts Tryz.infoMod
  obtain ⟨a, n, cap, P, V, rfl, rfl, hnc, hcap, hc⟩ := h
  rw [mdF_length] at hl
  cases a with
  | none =>
    have hn0 : n = 0 := by
      rcases Nat.eq_zero_or_pos n with h | h
      · exact h
      · obtain ⟨b, o, e, _⟩ := hc 0 h
        cases e
    subst hn0
    clear hc
    have happ := fun W ty => run_append_nothing (P := Tryz.prog) W 23 23 ty 29 i0 Tryz.underlying23 hi none 0 0 (Nat.le_refl _) (.slice none 0 cap) (Src.ofNil W Tryz.underlying23 cap)
    go_enter Tryz.func20, Tryz.ntmps20
    go_wp2_with fail
    go_ret
    exact ⟨⟨_, rfl, ModsAt.nil w, [], rfl, World.ownsRow_nil _ _ _ _⟩, Below.refl _ _⟩
  | some a =>
    have hc2 : ∃ news, news.length = n * 2 ∧ (∀ j u, news[j]? = some u → w.cell? (a.add j) = some u) ∧ news = mdVs (mdL n P V) := by
      refine ⟨_, by rw [mdVs_length, mdL_length], ?_, rfl⟩
      rcases Nat.eq_zero_or_pos n with h | h
      · subst h
        intro j u hu
        simp [mdL, mdVs] at hu
      · obtain ⟨b, o, e, _⟩ := hc 0 h
        injection e with e
        subst e
        exact mods_cells (fun j hj => by
          obtain ⟨b', o', e, h1, h2⟩ := hc j hj
          injection e with e
          injection e with e1 e2 _
          subst e1 e2
          exact ⟨h1, h2⟩)
    obtain ⟨news, hn1, hn2, hn3⟩ := hc2
    have HN := Lib.hid hn3
    clear hc hn3
    go_enter Tryz.func20, Tryz.ntmps20
    go_wp2_with (at_builtin; refine wpList_append_own _ rfl _ _ 23 rfl w.heap.size 29 i0 (.agg #[.string ⟨#[]⟩, .string ⟨#[]⟩]) 2 32 Tryz.underlying23 hi hz0 hz1 hz2 rfl (by decide) _ _ _ rfl (World.ownsRow_nil _ _ _ _) a n cap news rfl hn1 hn2 (by rw [HN.out]; exact mdVs_one) (by unfold maxLen; omega) (by omega) (Nat.le_refl _) ?_; intro v' w1 hown1 hgrow1 _)
    go_ret
    have ho : w1.ownsRow w.heap.size 29 2 v' (mdL n P V).length (mdVs (mdL n P V)) := by
      rw [mdL_length, ← HN.out]
      simpa using hown1
    refine ⟨⟨v', rfl, by rw [← mdL_ts]; exact modsAt_own ho, mdL n P V, (mdL_ts n P V).symm, ho⟩, (Below.refl _ _).grown hgrow1 (Nat.le_refl _) (fun k h => by cases h)⟩
structure Box3f (w : World) (b : Nat) (v0 v1 v2 : Value) : Prop where
  c0 : w.cell? ⟨b, 0, none⟩ = some v0
  c1 : w.cell? ⟨b, 1, none⟩ = some v1
  c2 : w.cell? ⟨b, 2, none⟩ = some v2
  fz : ∀ i, w.frozen? ⟨b, i, none⟩ = false
theorem Box3f.below {w w' : World} {b : Nat} {v0 v1 v2 : Value} (h : Box3f w b v0 v1 v2) (hb : Below w.heap.size w w') : Box3f w' b v0 v1 v2 :=
  ⟨Below.cell_some hb h.c0, Below.cell_some hb h.c1, Below.cell_some hb h.c2, fun i => (hb.frozen (p := ⟨b, i, none⟩) (show b < w.heap.size from lt_of_cell h.c0)).trans (h.fz i)⟩
theorem set_same {w : World} {b k : Nat} {u : Value} (v : Value) (h : w.cell? ⟨b, k, none⟩ = some u) : (w.setCell ⟨b, k, none⟩ v).cell? ⟨b, k, none⟩ = some v := World.cell?_setCell_same _ _ _ h
theorem set_off {w : World} {b k j : Nat} (v : Value) (h : j ≠ k) : (w.setCell ⟨b, k, none⟩ v).cell? ⟨b, j, none⟩ = w.cell? ⟨b, j, none⟩ := World.cell?_setCell_other _ _ _ _ (by intro e; injection e with _ e _; exact h e.symm)
theorem set_blk {w : World} {b c k j : Nat} (v : Value) (h : c ≠ b) : (w.setCell ⟨b, k, none⟩ v).cell? ⟨c, j, none⟩ = w.cell? ⟨c, j, none⟩ := World.cell?_setCell_other _ _ _ _ (by intro e; injection e with e _ _; exact h e.symm)
end Go.Proofs.Pw

namespace Go.Proofs.Pw
open Go.RowKit
open Go.Lib hiding intOf
attribute [local go_sem] Oper.semAt_some
def backTo (len : Nat) (k : Nat) : List (Fin len) := (List.finRange len).reverse.take k
theorem backTo_succ {len k : Nat} (h : k < len) : backTo len (k + 1) = backTo len k ++ [⟨len - 1 - k, by omega⟩] := by
  unfold backTo
  rw [List.take_add_one, List.getElem?_eq_getElem (by simpa using h)]
  simp
theorem backTo_length {len k : Nat} (h : k ≤ len) : (backTo len k).length = k := by simp [backTo]; omega
theorem backTo_all (len : Nat) : backTo len len = (List.finRange len).reverse := List.take_of_length_le (by simp)
set_option maxRecDepth 100000 in
set_option maxHeartbeats 2000000 in
theorem back1_in (F : Fence) (n : Nat) (h7 : F.fn 211) (hro : F.round = none) (hn : 1 ≤ n) (l Bs n₀ b off len cap : Nat) (L : Nat → ByteArray) (hl : len ≤ 1000000) (hb : b < n₀) (J Jx : List (Fin len) → World → Prop)
    (hY : ∀ pre x W, J pre W → pre.length < len → YieldAt F (n - 1) Tryz.prog l #[.int .i64 (x.val : Int), .string (L x.val)] W fun e W' =>
      (e = .returned (.bool true) ∧ J (pre ++ [x]) W' ∧ Below n₀ W W') ∨ (e = .returned (.bool false) ∧ Jx (pre ++ [x]) W'))
    (W : World) (hBs : W.cell? ⟨Bs, 0, none⟩ = some (.slice (some ⟨b, off, none⟩) len cap)) (hBl : Bs < n₀) (hc : ∀ j, j < len → W.cell? ⟨b, off + j, none⟩ = some (.string (L j))) (h0 : J [] W) :
    CallsIn F n Tryz.prog 211 #[.func (.yield l) #[] #[], .pointer (some ⟨Bs, 0, none⟩)] W fun e W' => (∃ v, e = .returned v) ∧
      ((∃ ys, ys = backTo len len ∧ J ys W') ∨ (∃ pre, (∃ k, k ≤ len ∧ pre = backTo len k) ∧ Jx pre W')) := by
  refine callsIn_of_wp Tryz.func211 rfl h7 ?_ hro
  simp only [Tryz.ntmps211, List.size_toArray, List.length_cons, List.length_nil, Nat.reduceAdd, Nat.reduceSub, Array.replicate_succ, Array.replicate_zero, List.push_toArray, List.append_toArray, List.nil_append, List.cons_append]
  gi_wp2
  gi_loopw [3] (fun i wr => ∃ k : Nat, k ≤ len ∧ i = .int .i64 ((len : Int) - 1 - k) ∧ J (backTo len k) wr ∧ Below n₀ W wr)
    (fun i _ => (intOf i + 1).toNat)
  case atStart => exact ⟨0, Nat.zero_le _, by simp, h0, Below.refl _ _⟩
  case round =>
    obtain ⟨k, hk, rfl, hJs, hnx⟩ := hrel
    by_cases hlt : k < len
    · have hcx := (hnx.cell (p := ⟨b, off + (len - 1 - k), none⟩) hb).trans (hc (len - 1 - k) (by omega))
      have hbx := (hnx.cell (p := ⟨Bs, 0, none⟩) hBl).trans hBs
      obtain ⟨fn, tmps, assign, body, hy, hR⟩ := hY _ (⟨len - 1 - k, by omega⟩ : Fin len) wr hJs (by rw [backTo_length (by omega)]; exact hlt)
      dsimp only at hy
      obtain ⟨i, hi⟩ : ∃ i : Nat, len - 1 - k = i := ⟨_, rfl⟩
      have hik : (len : Int) - 1 - (k : Int) = (i : Int) := by omega
      have hsucc := backTo_succ hlt
      simp only [hi] at hcx hy hR hsucc
      rw [hik]
      have hin : i < len := by omega
      have hiz : (i : Int) < (len : Int) := by omega
      have hi0 : (0 : Int) ≤ (i : Int) := by omega
      gi_wp2
      refine hR.mono ?_
      rintro e W3 (⟨rfl, hJ3, hk3⟩ | ⟨rfl, hJx3⟩)
      · gi_wp2
        go_roundw
        case rel => exact ⟨k + 1, by omega, by first | (simp; omega) | simp, by rw [hsucc]; exact hJ3, hnx.trans hk3⟩
        case measure => simp [intOf] <;> omega
      · gi_wp2
        refine bodyPost_ret (results_none rfl _ _ _) rfl ?_
        exact ⟨⟨_, rfl⟩, .inr ⟨_, ⟨k + 1, by omega, hsucc.symm⟩, hJx3⟩⟩
    · obtain rfl : k = len := by omega
      have hik : (k : Int) - 1 - (k : Int) = -1 := by omega
      rw [hik]
      gi_wp2
      go_end0
      exact ⟨⟨_, rfl⟩, .inl ⟨_, rfl, hJs⟩⟩
set_option maxRecDepth 100000 in
set_option maxHeartbeats 1000000 in
theorem back1_nil_in (F : Fence) (n : Nat) (h7 : F.fn 211) (hro : F.round = none) (l Bs : Nat) (a : Option Addr) (cap : Nat) (J : List (Fin 0) → World → Prop) (W : World) (hBs : W.cell? ⟨Bs, 0, none⟩ = some (.slice a 0 cap)) (h0 : J [] W) :
    CallsIn F n Tryz.prog 211 #[.func (.yield l) #[] #[], .pointer (some ⟨Bs, 0, none⟩)] W fun e W' => (∃ v, e = .returned v) ∧ J [] W' := by
  refine callsIn_of_wp Tryz.func211 rfl h7 ?_ hro
  simp only [Tryz.ntmps211, List.size_toArray, List.length_cons, List.length_nil, Nat.reduceAdd, Nat.reduceSub, Array.replicate_succ, Array.replicate_zero, List.push_toArray, List.append_toArray, List.nil_append, List.cons_append]
  gi_wp2
  gi_loopw [3] (fun i wr => i = .int .i64 (-1) ∧ J [] wr) (fun _ _ => 0)
  case atStart => exact ⟨rfl, h0⟩
  case round =>
    obtain ⟨rfl, hJs⟩ := hrel
    gi_wp2
    go_end0
    exact ⟨⟨_, rfl⟩, hJs⟩
set_option maxHeartbeats 1000000 in
theorem back_in (F : Fence) (n : Nat) (h6 : F.fn 156) (hro : F.round = none) (a : Option Addr) (len cap : Nat) (w : World) :
    CallsIn F n Tryz.prog 156 #[.slice a len cap] w fun e w' => e = .returned (.func (.func 211) #[] #[.pointer (some ⟨w.heap.size, 0, none⟩)]) ∧ w' = w.alloc (.cells #[.slice a len cap] 35) := by
  refine callsIn_of_wp Tryz.func156 rfl h6 ?_ hro
  simp only [Tryz.ntmps156, List.size_toArray, List.length_cons, List.length_nil, Nat.reduceAdd, Nat.reduceSub, Array.replicate_succ, Array.replicate_zero, List.push_toArray, List.append_toArray, List.nil_append, List.cons_append]
  gi_wp2
  go_ret
  exact ⟨rfl, rfl⟩
def StrsB (n₀ : Nat) (W : World) (a : Option Addr) (len : Nat) (L : Nat → ByteArray) : Prop :=
  len = 0 ∨ ∃ b off, a = some ⟨b, off, none⟩ ∧ b < n₀ ∧ ∀ j, j < len → W.cell? ⟨b, off + j, none⟩ = some (.string (L j))
theorem StrsB.below {n₀ : Nat} {A B : World} (h : Below n₀ A B) {a : Option Addr} {len : Nat} {L : Nat → ByteArray} : StrsB n₀ A a len L → StrsB n₀ B a len L
  | .inl e => .inl e
  | .inr ⟨b, off, e, hb, hc⟩ => .inr ⟨b, off, e, hb, fun j hj => (h.cell (p := ⟨b, off + j, none⟩) hb).trans (hc j hj)⟩
theorem back_stops (F : Fence) (n : Nat) (h8 : F.fn 211) (hro : F.round = none) (hn : 1 ≤ n) (Bs n₀ : Nat) (a : Option Addr) (len cap : Nat) (L : Nat → ByteArray) (hl : len ≤ 1000000) (w : World) (hBs : Bs < w.heap.size) (hBl : Bs < n₀) (hn₀ : n₀ ≤ w.heap.size)
    (hc : w.cell? ⟨Bs, 0, none⟩ = some (.slice a len cap)) (hI : StrsB n₀ w a len L) :
    SeqStopsK F n Tryz.prog 211 #[.pointer (some ⟨Bs, 0, none⟩)] (fun x : Fin len => #[Value.int .i64 (x.val : Int), Value.string (L x.val)]) (Below n₀) (fun ys => ys = backTo len len)
      (fun pre => ∃ k, k ≤ len ∧ pre = backTo len k) len w := fun l J Jx W hW _ _ hY h0 => by
  have hc' := (hW.cell (p := ⟨Bs, 0, none⟩) hBs).trans hc
  rcases hI.below (hW.mono hn₀) with rfl | ⟨b, off, rfl, hb, hcs⟩
  · exact (back1_nil_in F n h8 hro l Bs a cap J W hc' h0).mono fun e W' ⟨he, hj⟩ => ⟨he, .inl ⟨_, rfl, hj⟩⟩
  · exact back1_in F n h8 hro hn l Bs n₀ b off len cap L hl hb J Jx hY W hc' hBl hcs h0
end Go.Proofs.Pw

namespace Go.Proofs.Pw
open Go.RowKit
def noDefer (o : Oper) : Bool := match o.op with | .defer _ => false | _ => true
theorem noDefer_ne {o : Oper} (h : noDefer o = true) : ∀ c, o.op ≠ .defer c := by
  intro c e
  unfold noDefer at h
  rw [e] at h
  cases h
theorem operIn_round {F : Fence} {n : Nat} {P : Program} {o : Oper} {a : Act} {w : World} {next : Act → World → Prop} {Q : Exit → Act → World → Prop} {l : Nat} (hd : ∀ c, o.op ≠ .defer c) (h : o.wpIn F n P a w next Q) : o.wpIn (F.inRound l) n P a w next Q := by
  unfold Oper.wpIn at h ⊢
  rw [Oper.semAt_eq _ _ _ hd] at h ⊢
  exact h
theorem opIn_round {F : Fence} {n : Nat} {P : Program} {ops : Array Oper} {Q : Exit → Act → World → Prop} {i : Nat} {K : Act → World → Prop} {a : Act} {w : World} {l : Nat} (hd : ∀ (i : Nat) o, ops[i]? = some o → ∀ c, o.op ≠ .defer c) (h : wpOpIn F n P ops Q i K a w) : wpOpIn (F.inRound l) n P ops Q i K a w := by
  unfold wpOpIn at h ⊢
  cases ho : ops[i]? with
  | none => rw [ho] at h; exact h
  | some o =>
    rw [ho] at h
    simp only at h ⊢
    split
    · rename_i hw
      rw [if_pos hw] at h
      exact operIn_round (hd i o ho) h
    · rename_i hw
      rw [if_neg hw] at h
      exact h
theorem anyIn_round {F : Fence} {n : Nat} {P : Program} {md : Region.Mode} {ops : Array Oper} {Q : Exit → Act → World → Prop} {l : Nat} (hd : ∀ (i : Nat) o, ops[i]? = some o → ∀ c, o.op ≠ .defer c) : ∀ (fuel : Nat) (listed : Array Bool) (a : Act) (w : World), wpAnyIn F n P md ops Q fuel listed a w → wpAnyIn (F.inRound l) n P md ops Q fuel listed a w
  | 0, _, _, _, h => h
  | fuel + 1, _, _, _, h => ⟨h.1, fun i hi => opIn_round hd (wpOpIn_mono (fun a w => anyIn_round hd fuel _ a w) (h.2 i hi))⟩
theorem wpIn_region_quiet_round {P : Program} {id n l : Nat} {Q : Exit → Act → World → Prop} {a : Act} {w : World} {L : List Oper} (hm : P.follows .mixedOrders = true) (hB : Region.lexB .any L.toArray = true) (hd : L.all noDefer = true)
    (h : wpQuietIn Fence.wide n P L.toArray (fun w' => ∃ p : PatchBy, w' = patch w p.d p.os) (fun a' => ∀ w', (∃ p : PatchBy, w' = patch w p.d p.os) → Q .normal a' w') L a) : (Code.region id L.toArray true).wpIn (Fence.wide.inRound l) n P Q a w := by
  have hB' := hB
  simp only [Region.lexB, Bool.and_eq_true] at hB'
  refine wpIn_region_any hm (anyIn_round (F := Fence.wide) (fun i o ho => noDefer_ne (List.all_eq_true.1 hd o (List.mem_of_getElem? (by simpa using ho)))) _ _ _ _
    (wpAnyIn_of_quiet (C := fun w' => ∃ p : PatchBy, w' = patch w p.d p.os) (Q := fun a' => ∀ w', (∃ p : PatchBy, w' = patch w p.d p.os) → Q .normal a' w') rfl (fun _ w' hw' h => h w' hw') _ _ _ _ ⟨⟨w.drawn + 1, #[]⟩, by simp [patch]⟩ ?_))
  have := wpAnyQIn_lex (F := Fence.wide) (n := n) (C := fun w' => ∃ p : PatchBy, w' = patch w p.d p.os) (md := .any) hB'.1 L 0 (Array.replicate L.toArray.size false) a (by simp) (by simpa using hB'.2) h
  simpa using this
end Go.Proofs.Pw

namespace Go.Proofs.Pw
open Go.Lib hiding intOf
def hasP (p : Str) (m : Md) : Bool := decide (m.1 = p)
theorem findI_eq_none {α : Type} {p : α → Bool} {l : List α} : findI p l < 0 ↔ ∀ x ∈ l, p x = false := by
  unfold findI
  cases h : l.findIdx? p with
  | none =>
    rw [List.findIdx?_eq_none_iff] at h
    exact ⟨fun _ => h, fun _ => by decide⟩
  | some k =>
    rw [List.findIdx?_eq_some_iff_getElem] at h
    obtain ⟨hk, h1, _⟩ := h
    constructor
    · intro h; simp only at h; omega
    · intro h
      rw [h _ (List.getElem_mem hk)] at h1
      cases h1
theorem findI_spec {α : Type} {p : α → Bool} {l : List α} {k : Nat} (h : findI p l = k) : ∃ x, l[k]? = some x ∧ p x = true := by
  unfold findI at h
  cases hf : l.findIdx? p with
  | none => rw [hf] at h; simp only at h; omega
  | some j =>
    rw [hf] at h
    simp only at h
    obtain rfl : j = k := by omega
    rw [List.findIdx?_eq_some_iff_getElem] at hf
    obtain ⟨hk, h1, _⟩ := hf
    exact ⟨_, List.getElem?_eq_getElem hk, h1⟩
def RiseP (l : List Md) : Prop := l.Pairwise fun a b => compareBytes a.1 b.1 < 0
theorem compareBytes_self (a : Str) : compareBytes a a = 0 := compareBytes_ord.self a
theorem cb_trans {a b c : Str} (h1 : compareBytes a b < 0) (h2 : compareBytes b c < 0) : compareBytes a c < 0 := by
  have h := compareBytes_ord
  have a1 := h.tr a b c (by omega) (by omega)
  rcases Int.lt_or_eq_of_le a1 with a2 | a2
  · exact a2
  · exfalso
    have a3 := h.zero a2
    have a4 := h.tr c a b (by omega) (by omega)
    have a5 := (h.anti b c).1 h2
    omega
theorem Right.rise {f : Fl} (h : Right f) : RiseP f.reqs := by
  have step : ∀ i, i + 1 < f.reqs.length → compareBytes (mdAt f.reqs i).1 (mdAt f.reqs (i + 1)).1 < 0 := by
    intro i hi
    have h1 := h.req (i + 1) hi
    unfold reqE at h1
    have h0 := h.mem.1 _ (mdAt_mem hi)
    rw [if_neg (by simp [h0])] at h1
    split at h1
    · cases h1
    · split at h1
      · cases h1
      · rename_i h2
        rw [Nat.add_sub_cancel] at h2
        have h3 : ¬ compareBytes (mdAt f.reqs (i + 1)).1 (mdAt f.reqs i).1 ≤ 0 := fun e => h2 ⟨Nat.succ_pos _, e⟩
        exact (compareBytes_ord.anti _ _).2 (by omega)
  have all : ∀ j i, i < j → j < f.reqs.length → compareBytes (mdAt f.reqs i).1 (mdAt f.reqs j).1 < 0 := by
    intro j
    induction j with
    | zero => intro i hi; exact absurd hi (Nat.not_lt_zero _)
    | succ j ih =>
      intro i hi hj
      by_cases e : i = j
      · subst e; exact step i hj
      · exact cb_trans (ih i (by omega) (by omega)) (step j hj)
  unfold RiseP
  rw [List.pairwise_iff_getElem]
  intro i j hi hj hij
  have e : ∀ k (hk : k < f.reqs.length), mdAt f.reqs k = f.reqs[k] := fun k hk => by
    have := mdAt_get hk
    rw [List.getElem?_eq_getElem hk] at this
    exact (Option.some.inj this).symm
  have := all j i hij hj
  rw [e i hi, e j hj] at this
  exact this
theorem RiseP.unique : ∀ {l : List Md}, RiseP l → ∀ {a b : Md}, a ∈ l → b ∈ l → a.1 = b.1 → a = b
  | [], _, _, _, h, _, _ => by simp at h
  | x :: r, h, a, b, ha, hb, e => by
    have h1 := List.pairwise_cons.1 h
    rcases List.mem_cons.1 ha with ea | ha' <;> rcases List.mem_cons.1 hb with eb | hb'
    · rw [ea, eb]
    · have := h1.1 b hb'
      rw [← ea, e, compareBytes_self] at this
      omega
    · have := h1.1 a ha'
      rw [← eb, e, compareBytes_self] at this
      omega
    · exact RiseP.unique h1.2 ha' hb' e
theorem stays {l : List Md} (h : RiseP l) (p : Str) {x : Md} (hx : x ∈ l) : (findI (hasP x.1) (l.filter fun y => !hasP p y) < 0 ↔ x.1 = p) ∧ ∀ k : Nat, findI (hasP x.1) (l.filter fun y => !hasP p y) = k → (l.filter fun y => !hasP p y)[k]? = some x := by
  constructor
  · rw [findI_eq_none]
    constructor
    · intro hn
      by_cases e : x.1 = p
      · exact e
      · have := hn x (List.mem_filter.2 ⟨hx, by simp [hasP, e]⟩)
        simp [hasP] at this
    · intro e y hy
      have := (List.mem_filter.1 hy).2
      unfold hasP at this ⊢
      rw [e]
      simpa using this
  · intro k hk
    obtain ⟨y, hy, hp⟩ := findI_spec hk
    have hyl := (List.mem_filter.1 (List.mem_of_getElem? hy)).1
    have e : y.1 = x.1 := by simpa [hasP] using hp
    rw [hy, h.unique hyl hx e]
end Go.Proofs.Pw

namespace Go.Proofs.Pw
open Go.Lib hiding intOf
structure En where
  md : Md
  reqs : List Md
  packs : List Str
  back : Bool
def noEn : En := ⟨([], []), [], [], false⟩
def enAt (l : List En) (i : Nat) : En := l.getD i noEn
theorem enAt_get {l : List En} {i : Nat} (h : i < l.length) : l[i]? = some (enAt l i) := by
  unfold enAt
  rw [List.getD_eq_getElem?_getD, List.getElem?_eq_getElem h]; rfl
theorem enAt_mem {l : List En} {i : Nat} (h : i < l.length) : enAt l i ∈ l := List.mem_of_getElem? (enAt_get h)
theorem enAt_elem {l : List En} {i : Nat} (h : i < l.length) : enAt l i = l[i] := by
  have := enAt_get h
  rw [List.getElem?_eq_getElem h] at this
  exact (Option.some.inj this).symm
def reqsErr (e : En) : Nat := if 20 < e.reqs.length then 7 else (firstE (reqE e.md.1 e.reqs) e.reqs.length).1
def packOk (s : Str) : Bool := decide (s = [46]) || decide (pathErr s = 0)
def packE (l : List Str) (i : Nat) : Nat := if 0 < i ∧ compareBytes (l.getD i []) (l.getD (i - 1) []) ≤ 0 then 8 else 0
def packsErr (e : En) : Nat := if 10 < e.packs.length then 7 else if e.packs.all packOk then (firstE (packE e.packs) e.packs.length).1 else 1
def entErr (l : List En) (i : Nat) : Nat :=
  if mdErr (enAt l i).md ≠ 0 then mdErr (enAt l i).md
  else if 0 < i ∧ modAhead (enAt l (i - 1)).md (enAt l i).md = false then 8
  else if reqsErr (enAt l i) ≠ 0 then reqsErr (enAt l i) else packsErr (enAt l i)
def isMd (m : Md) (e : En) : Bool := decide (e.md = m)
def findE (l : List En) (m : Md) : Int := findI (isMd m) l
def lost (l : List En) (m : Md) : Bool := decide (findE l m < 0)
def lostE (l : List En) (i : Nat) : Nat := if (enAt l i).reqs.any (lost l) then 5 else 0
def idxErr (l : List En) : Nat × Int :=
  if 100 < l.length then (7, -1) else orE (firstE (entErr l) l.length) (firstE (lostE l) l.length)
theorem findE_lt {l : List En} {m : Md} : findE l m < 0 ↔ ∀ e ∈ l, e.md ≠ m := by
  unfold findE
  rw [findI_eq_none]
  exact ⟨fun h e he => of_decide_eq_false (h e he), fun h e he => decide_eq_false (h e he)⟩
theorem findE_at {l : List En} {m : Md} {k : Nat} (h : findE l m = k) : k < l.length ∧ (enAt l k).md = m := by
  obtain ⟨x, hx, hp⟩ := findI_spec h
  have hl := (List.getElem?_eq_some_iff.1 hx).1
  rw [enAt_get hl] at hx
  exact ⟨hl, by rw [Option.some.inj hx]; exact of_decide_eq_true hp⟩
theorem findE_nat {l : List En} {m : Md} (h : ¬ findE l m < 0) : ∃ k : Nat, findE l m = k ∧ k < l.length ∧ (enAt l k).md = m :=
  have h0 : findE l m = ((findE l m).toNat : Int) := by omega
  ⟨(findE l m).toNat, h0, findE_at h0⟩
structure RightI (l : List En) : Prop where
  len : l.length ≤ 100
  mds : ∀ e ∈ l, mdErr e.md = 0
  rise : Rises modCmp (l.map (·.md))
  reqs : ∀ e ∈ l, reqsErr e = 0
  packs : ∀ e ∈ l, packsErr e = 0
  all : ∀ e ∈ l, ∀ m ∈ e.reqs, ∃ x ∈ l, x.md = m
theorem entErr_zero {l : List En} {i : Nat} (h : entErr l i = 0) : mdErr (enAt l i).md = 0 ∧ (0 < i → modAhead (enAt l (i - 1)).md (enAt l i).md = true) ∧ reqsErr (enAt l i) = 0 ∧ packsErr (enAt l i) = 0 := by
  unfold entErr at h
  by_cases h1 : mdErr (enAt l i).md = 0
  · rw [if_neg (by simp [h1])] at h
    by_cases h2 : 0 < i ∧ modAhead (enAt l (i - 1)).md (enAt l i).md = false
    · rw [if_pos h2] at h; cases h
    · rw [if_neg h2] at h
      by_cases h3 : reqsErr (enAt l i) = 0
      · rw [if_neg (by simp [h3])] at h
        refine ⟨h1, fun hi => ?_, h3, h⟩
        cases h4 : modAhead (enAt l (i - 1)).md (enAt l i).md
        · exact absurd ⟨hi, h4⟩ h2
        · rfl
      · rw [if_pos h3] at h; exact absurd h h3
  · rw [if_pos h1] at h; exact absurd h h1
theorem rises_step {α : Type} {f : α → α → Int} (hf : Ord3 f) {l : List α} (h : ∀ i (h1 : i + 1 < l.length), f l[i] l[i + 1] < 0) : Rises f l := by
  have tr : ∀ a b c, f a b < 0 → f b c < 0 → f a c < 0 := fun a b c h1 h2 => by
    have a1 := hf.tr a b c (by omega) (by omega)
    rcases Int.lt_or_eq_of_le a1 with a2 | a2
    · exact a2
    · exfalso
      have a3 := hf.zero a2
      have a4 := hf.tr c a b (by omega) (by omega)
      have a5 := (hf.anti b c).1 h2
      omega
  have all : ∀ j i (hij : i < j) (hj : j < l.length), f l[i] l[j] < 0 := by
    intro j
    induction j with
    | zero => intro i hi; exact absurd hi (Nat.not_lt_zero _)
    | succ j ih =>
      intro i hi hj
      by_cases e : i = j
      · subst e; exact h i hj
      · exact tr _ _ _ (ih i (by omega) (by omega)) (h j hj)
  unfold Rises
  rw [List.pairwise_iff_getElem]
  exact fun i j _ hj hij => all j i hij hj
theorem mem_enAt {l : List En} {e : En} (h : e ∈ l) : ∃ i, i < l.length ∧ enAt l i = e := by
  obtain ⟨i, hi⟩ := List.getElem?_of_mem h
  have hl := (List.getElem?_eq_some_iff.1 hi).1
  rw [enAt_get hl] at hi
  exact ⟨i, hl, Option.some.inj hi⟩
theorem rightI_of {l : List En} (h : (idxErr l).1 = 0) : RightI l := by
  unfold idxErr at h
  by_cases h0 : 100 < l.length
  · rw [if_pos h0] at h; cases h
  · rw [if_neg h0, orE_zero] at h
    have h1 := fun i hi => entErr_zero (firstE_zero h.1 i hi)
    have h2 := firstE_zero h.2
    have hm : ∀ e ∈ l, mdErr e.md = 0 := fun e he => by
      obtain ⟨i, hi, rfl⟩ := mem_enAt he
      exact (h1 i hi).1
    refine ⟨by omega, hm, rises_step modCmp_ord fun i hi => ?_, fun e he => ?_, fun e he => ?_, fun e he m hme => ?_⟩
    · rw [List.length_map] at hi
      have := (h1 (i + 1) hi).2.1 (by omega)
      rw [Nat.add_sub_cancel, modAhead_iff (hm _ (enAt_mem (by omega))) (hm _ (enAt_mem hi)), enAt_elem (by omega), enAt_elem hi] at this
      simpa using of_decide_eq_true this
    · obtain ⟨i, hi, rfl⟩ := mem_enAt he
      exact (h1 i hi).2.2.1
    · obtain ⟨i, hi, rfl⟩ := mem_enAt he
      exact (h1 i hi).2.2.2
    · obtain ⟨i, hi, rfl⟩ := mem_enAt he
      have h3 := h2 i hi
      unfold lostE at h3
      by_cases h4 : (enAt l i).reqs.any (lost l) = true
      · rw [if_pos h4] at h3; cases h3
      · have h5 : lost l m = false := by
          cases h6 : lost l m
          · rfl
          · exact absurd (List.any_eq_true.2 ⟨m, hme, h6⟩) h4
        unfold lost at h5
        rw [decide_eq_false_iff_not] at h5
        obtain ⟨k, _, hk, e⟩ := findE_nat h5
        exact ⟨_, enAt_mem hk, e⟩
theorem RightI.req {l : List En} (h : RightI l) {e : En} (he : e ∈ l) : ∀ m ∈ e.reqs, mdErr m = 0 := fun m hm => by
  obtain ⟨x, hx, rfl⟩ := h.all e he m hm
  exact h.mds x hx
theorem rises_inj {α β : Type} {f : α → α → Int} (hf : Ord3 f) {k : β → α} : ∀ {l : List β}, Rises f (l.map k) → ∀ {a b : β}, a ∈ l → b ∈ l → k a = k b → a = b
  | [], _, _, _, h, _, _ => by simp at h
  | x :: r, h, a, b, ha, hb, e => by
    have h1 := List.pairwise_cons.1 h
    rcases List.mem_cons.1 ha with ea | ha' <;> rcases List.mem_cons.1 hb with eb | hb'
    · rw [ea, eb]
    · have := h1.1 (k b) (List.mem_map_of_mem hb')
      rw [← ea, e, hf.self] at this
      omega
    · have := h1.1 (k a) (List.mem_map_of_mem ha')
      rw [← eb, e, hf.self] at this
      omega
    · exact rises_inj hf h1.2 ha' hb' e
theorem RightI.one {l : List En} (h : RightI l) {a b : En} (ha : a ∈ l) (hb : b ∈ l) (e : a.md = b.md) : a = b := rises_inj modCmp_ord (k := (·.md)) h.rise ha hb e
def enF (n : Nat) (P V : Nat → ByteArray) (R : Nat → List Md) (K : Nat → List Str) (B : Nat → Bool) : List En := (List.range n).map fun j => ⟨((P j).data.toList, (V j).data.toList), R j, K j, B j⟩
theorem enF_length (n P V R K B) : (enF n P V R K B).length = n := by simp [enF]
theorem enF_get (n P V R K B) (j : Nat) (h : j < n) : (enF n P V R K B)[j]? = some ⟨((P j).data.toList, (V j).data.toList), R j, K j, B j⟩ := by simp [enF, h]
theorem enAt_enF {n P V R K B} {j : Nat} (h : j < n) : enAt (enF n P V R K B) j = ⟨((P j).data.toList, (V j).data.toList), R j, K j, B j⟩ := by
  unfold enAt
  rw [List.getD_eq_getElem?_getD, enF_get n P V R K B j h]; rfl
end Go.Proofs.Pw

namespace Go.Proofs.Pw
open Go.Lib hiding intOf
inductive Reached (l : List En) (roots : List Md) : Md → Prop
  | root {m : Md} : m ∈ roots → Reached l roots m
  | step {e : En} {r : Md} : e ∈ l → Reached l roots e.md → r ∈ e.reqs → Reached l roots r
noncomputable def isReached (l : List En) (roots : List Md) (m : Md) : Bool := @decide (Reached l roots m) (Classical.propDecidable _)
theorem isReached_iff {l : List En} {roots : List Md} {m : Md} : isReached l roots m = true ↔ Reached l roots m := by
  unfold isReached
  exact @decide_eq_true_iff _ (Classical.propDecidable _)
noncomputable def reachL (l : List En) (roots : List Md) : List Md := (l.map (·.md)).filter (isReached l roots)
def rootE (l : List En) (roots : List Md) (i : Nat) : Nat := if findE l (mdAt roots i) < 0 then 5 else 0
def rootsErr (l : List En) (roots : List Md) : Nat × Int := firstE (rootE l roots) roots.length
def startErr (l : List En) (roots : List Md) : Nat × Int := orE (idxErr l) (rootsErr l roots)
structure RightG (l : List En) (roots : List Md) : Prop where
  idx : RightI l
  at_ : ∀ m ∈ roots, ∃ e ∈ l, e.md = m
theorem rootsErr_zero {l : List En} {roots : List Md} : (rootsErr l roots).1 = 0 ↔ ∀ m ∈ roots, ∃ e ∈ l, e.md = m := by
  constructor
  · intro h m hm
    obtain ⟨i, hi⟩ := List.getElem?_of_mem hm
    have hl := (List.getElem?_eq_some_iff.1 hi).1
    have h1 := firstE_zero h i hl
    unfold rootE at h1
    rw [mdAt_get hl] at hi
    rw [Option.some.inj hi] at h1
    by_cases h2 : findE l m < 0
    · rw [if_pos h2] at h1; cases h1
    · obtain ⟨k, _, hk, e⟩ := findE_nat h2
      exact ⟨_, enAt_mem hk, e⟩
  · intro h
    unfold rootsErr
    rw [firstE_none fun i hi => ?_]
    unfold rootE
    rw [if_neg]
    rw [findE_lt]
    obtain ⟨e, he, h1⟩ := h _ (mdAt_mem hi)
    exact fun h2 => h2 e he h1
theorem rightG_of {l : List En} {roots : List Md} (h : (startErr l roots).1 = 0) : RightG l roots := by
  unfold startErr at h
  rw [orE_zero] at h
  exact ⟨rightI_of h.1, rootsErr_zero.1 h.2⟩
theorem startErr_at {l : List En} {roots : List Md} (h : (startErr l roots).1 = 0) : startErr l roots = (0, -1) := by
  unfold startErr at h ⊢
  rw [orE_zero] at h
  unfold orE
  rw [if_neg (by simp [h.1])]
  unfold rootsErr at h ⊢
  exact firstE_none (firstE_zero h.2)
theorem reached_closed {l : List En} {roots T : List Md} (h1 : ∀ m ∈ roots, m ∈ T) (h2 : ∀ e ∈ l, e.md ∈ T → ∀ r ∈ e.reqs, r ∈ T) {m : Md} (h : Reached l roots m) : m ∈ T := by
  induction h with
  | root hm => exact h1 _ hm
  | step he _ hr ih => exact h2 _ he ih _ hr
theorem RightG.entry {l : List En} {roots : List Md} (h : RightG l roots) {m : Md} (hm : Reached l roots m) : ∃ e ∈ l, e.md = m := by
  induction hm with
  | root hm => exact h.at_ _ hm
  | step he _ hr _ => exact h.idx.all _ he _ hr
theorem RightG.mem {l : List En} {roots : List Md} (h : RightG l roots) {m : Md} : m ∈ reachL l roots ↔ Reached l roots m := by
  unfold reachL
  rw [List.mem_filter, isReached_iff]
  exact ⟨fun h => h.2, fun hm => by
    obtain ⟨e, he, h1⟩ := h.entry hm
    exact ⟨List.mem_map.2 ⟨e, he, h1⟩, hm⟩⟩
theorem reachL_rises {l : List En} (h : RightI l) (roots : List Md) : Rises modCmp (reachL l roots) := List.Pairwise.sublist List.filter_sublist h.rise
theorem RightG.is {l : List En} {roots x : List Md} (h : RightG l roots) (hx : Rises modCmp x) (hm : ∀ m, m ∈ x ↔ Reached l roots m) : x = reachL l roots :=
  rises_ext modCmp_ord hx (reachL_rises h.idx roots) fun m => by rw [hm, h.mem]
theorem reached_sub {l : List En} {a b : List Md} (h : ∀ m ∈ a, Reached l b m) {m : Md} (hm : Reached l a m) : Reached l b m := by
  induction hm with
  | root hm => exact h _ hm
  | step he _ hr ih => exact .step he ih hr
theorem RightG.right {l : List En} {roots : List Md} (h : RightG l roots) {m : Md} (hm : Reached l roots m) : mdErr m = 0 := by
  obtain ⟨e, he, rfl⟩ := h.entry hm
  exact h.idx.mds e he
end Go.Proofs.Pw
