/- Ge: walks and plain laws, joined: TrimMath DnBack RoundQ DnMath MarksMath DnBadMath FindOf Marks DnBad1 MvsUnder DnAbove. Conditions: at each theorem. -/
import Derived.Test.YtmnojbbcaboagaaGreatDoorGeu
import Derived.RangeFuncNested
import Derived.RangeFuncBound
import Derived.RangeFuncCalls
import Derived.RangeFuncLeaves
import Derived.RangeFuncBox
import Derived.RangeFuncMany
import Derived.RangeFuncKeeps
import Derived.Shelf.Abstract
import Derived.Shelf.RegionOpen
import Derived.WalkKit
import Derived.OwnWalkIn
import Derived.TacticsInMore
import Derived.LoopNIn
import Derived.LoopIn
import Derived.Test.YtmnojbbcaboagaaGreatDoorGei
import Derived.Test.YtmnojbbcaboagaaGreatDoorGeg
import Derived.Sort.QuietThIn
import Derived.Sort.BigQuietIn
import Derived.Test.YtmnojbbcaboagaaGreatDoorGep
import Derived.Test.YtmnojbbcaboagaaGreatDoorGej
import Derived.Deep.OwnRows
import Derived.Test.YtmnojbbcaboagaaGreatDoorGem
import Derived.Test.YtmnojbbcaboagaaGreatDoorGel

namespace Go.Proofs.Pw
open Go.Lib hiding intOf
noncomputable def trimF (l : List En) (sel : List Md) : Nat → List Md → Nat → List Md
  | 0, out, _ => out
  | n + 1, out, i => if i < out.length then (if buildL l (out.eraseIdx i) = sel then trimF l sel n (out.eraseIdx i) i else trimF l sel n out (i + 1)) else out
theorem trimF_done {l : List En} {sel out : List Md} {i : Nat} (h : ¬ i < out.length) : ∀ n, trimF l sel n out i = out
  | 0 => rfl
  | n + 1 => by rw [trimF, if_neg h]
theorem trimF_fuel {l : List En} {sel : List Md} : ∀ (n m : Nat) (out : List Md) (i : Nat), out.length - i ≤ n → out.length - i ≤ m → trimF l sel n out i = trimF l sel m out i
  | 0, m, out, i, h, _ => by rw [trimF_done (by omega), trimF_done (by omega)]
  | n, 0, out, i, _, h => by rw [trimF_done (by omega), trimF_done (by omega)]
  | n + 1, m + 1, out, i, h1, h2 => by
    rw [trimF, trimF]
    by_cases h : i < out.length
    · rw [if_pos h, if_pos h]
      have e : (out.eraseIdx i).length = out.length - 1 := List.length_eraseIdx_of_lt h
      split
      · exact trimF_fuel n m _ _ (by rw [e]; omega) (by rw [e]; omega)
      · exact trimF_fuel n m _ _ (by omega) (by omega)
    · rw [if_neg h, if_neg h]
noncomputable def trimL (l : List En) (sel : List Md) : List Md := trimF l sel sel.length sel 0
noncomputable def trimErr (l : List En) (sel : List Md) : Nat × Int := if (startErr l sel).1 ≠ 0 then startErr l sel else if buildL l sel = sel then (0, -1) else (3, -1)
noncomputable def trimR (l : List En) (sel : List Md) : List Md := if (startErr l sel).1 = 0 ∧ buildL l sel = sel then trimL l sel else []
structure TrimInv (l : List En) (sel out : List Md) (i : Nat) : Prop where
  sub : out.Sublist sel
  same : buildL l out = sel
  least : ∀ j, j < i → j < out.length → buildL l (out.eraseIdx j) ≠ sel
theorem RightG.subl {l : List En} {sel out : List Md} (h : RightG l sel) (hs : out.Sublist sel) : RightG l out := ⟨h.idx, fun m hm => h.at_ m (hs.subset hm)⟩
theorem reached_subl {l : List En} {sel out : List Md} (hs : out.Sublist sel) {m : Md} (h : Reached l out m) : Reached l sel m := reached_sub (fun _ hy => .root (hs.subset hy)) h
theorem erase_two {α : Type} (l : List α) (i j : Nat) (h : j < i) : ((l.eraseIdx i).eraseIdx j).Sublist (l.eraseIdx j) := by
  have e : (l.eraseIdx i).eraseIdx j = (l.eraseIdx j).eraseIdx (i - 1) := by
    apply List.ext_getElem?
    intro k
    simp only [List.getElem?_eraseIdx]
    split <;> split <;> split <;> first | rfl | omega | (split <;> first | rfl | omega)
  rw [e]
  exact List.eraseIdx_sublist _ _
theorem trimF_inv {l : List En} {sel : List Md} (hG : RightG l sel) (hS : buildL l sel = sel) : ∀ (n : Nat) (out : List Md) (i : Nat), TrimInv l sel out i → out.length - i ≤ n → ∃ k, TrimInv l sel (trimF l sel n out i) k ∧ (trimF l sel n out i).length ≤ k
  | 0, out, i, h, hn => ⟨i, h, by show out.length ≤ i; omega⟩
  | n + 1, out, i, h, hn => by
    rw [trimF]
    by_cases hi : i < out.length
    · rw [if_pos hi]
      by_cases hb : buildL l (out.eraseIdx i) = sel
      · rw [if_pos hb]
        have hsub := (List.eraseIdx_sublist out i).trans h.sub
        refine trimF_inv hG hS n _ _ ⟨hsub, hb, fun j hj hl => ?_⟩ (by rw [List.length_eraseIdx_of_lt hi]; omega)
        intro hc
        have hl2 : j < out.length := by omega
        refine h.least j hj hl2 ?_
        have s1 : ((out.eraseIdx i).eraseIdx j).Sublist (out.eraseIdx j) := erase_two out i j hj
        have s2 : (out.eraseIdx j).Sublist sel := (List.eraseIdx_sublist out j).trans h.sub
        have := build_between (hG.subl (s1.trans s2)) (hG.subl s2) hG (fun m hm => reached_subl s1 hm) (fun m hm => reached_subl s2 hm) (hc.trans hS.symm)
        exact this.trans hS
      · rw [if_neg hb]
        refine trimF_inv hG hS n _ _ ⟨h.sub, h.same, fun j hj hl => ?_⟩ (by omega)
        by_cases e : j = i
        · subst e; exact hb
        · exact h.least j (by omega) hl
    · rw [if_neg hi]
      exact ⟨i, h, by omega⟩
structure TlFacts (l : List En) (sel x : List Md) : Prop where
  sub : x.Sublist sel
  same : buildL l x = sel
  least : ∀ j, j < x.length → buildL l (x.eraseIdx j) ≠ sel
theorem trimL_facts {l : List En} {sel : List Md} (hG : RightG l sel) (hS : buildL l sel = sel) : TlFacts l sel (trimL l sel) := by
  obtain ⟨k, h1, h2⟩ := trimF_inv hG hS sel.length sel 0 ⟨List.Sublist.refl _, hS, fun j hj => absurd hj (Nat.not_lt_zero _)⟩ (by omega)
  exact ⟨h1.sub, h1.same, fun j hj => h1.least j (by unfold trimL at hj; omega) hj⟩
theorem TlFacts.under {l : List En} {sel x : List Md} (hG : RightG l sel) (hS : buildL l sel = sel) (h : TlFacts l sel x) {y : List Md} (hy : y.Sublist x) : underB (buildL l y) sel = true := by
  have hs := hy.trans h.sub
  have := build_under (hG.subl hs) hG (fun m hm => reached_subl hs hm)
  rw [hS] at this
  exact this
end Go.Proofs.Pw

namespace Go.Proofs.Pw
open Go.RowKit
open Go.Lib hiding intOf
attribute [local go_sem] Oper.semAt_some
def backTo (len : Nat) (k : Nat) : List (Fin len) := (List.finRange len).reverse.take k
theorem backTo_succ {len k : Nat} (h : k < len) : backTo len (k + 1) = backTo len k ++ [⟨len - 1 - k, by omega⟩] := by
  unfold backTo
  rw [List.take_add_one, List.getElem?_eq_getElem (by simpa using h)]
  simp
theorem backTo_length {len k : Nat} (h : k ≤ len) : (backTo len k).length = k := by simp [backTo]; omega
theorem backTo_all (len : Nat) : backTo len len = (List.finRange len).reverse := List.take_of_length_le (by simp)
set_option maxRecDepth 100000 in
set_option maxHeartbeats 2000000 in
theorem back1_in (F : Fence) (n : Nat) (h7 : F.fn 261) (hro : F.round = none) (hn : 1 ≤ n) (l Bs n₀ b off len cap : Nat) (L : Nat → ByteArray) (hl : len ≤ 1000000) (hb : b < n₀) (J Jx : List (Fin len) → World → Prop)
    (hY : ∀ pre x W, J pre W → pre.length < len → YieldAt F (n - 1) Tryz.prog l #[.int .i64 (x.val : Int), .string (L x.val)] W fun e W' =>
      (e = .returned (.bool true) ∧ J (pre ++ [x]) W' ∧ Below n₀ W W') ∨ (e = .returned (.bool false) ∧ Jx (pre ++ [x]) W'))
    (W : World) (hBs : W.cell? ⟨Bs, 0, none⟩ = some (.slice (some ⟨b, off, none⟩) len cap)) (hBl : Bs < n₀) (hc : ∀ j, j < len → W.cell? ⟨b, off + j, none⟩ = some (.string (L j))) (h0 : J [] W) :
    CallsIn F n Tryz.prog 261 #[.func (.yield l) #[] #[], .pointer (some ⟨Bs, 0, none⟩)] W fun e W' => (∃ v, e = .returned v) ∧
      ((∃ ys, ys = backTo len len ∧ J ys W') ∨ (∃ pre, (∃ k, k ≤ len ∧ pre = backTo len k) ∧ Jx pre W')) := by
  refine callsIn_of_wp Tryz.func261 rfl h7 ?_ hro
  simp only [Tryz.ntmps261, List.size_toArray, List.length_cons, List.length_nil, Nat.reduceAdd, Nat.reduceSub, Array.replicate_succ, Array.replicate_zero, List.push_toArray, List.append_toArray, List.nil_append, List.cons_append]
  gi_wp2
  gi_loopw [3] (fun i wr => ∃ k : Nat, k ≤ len ∧ i = .int .i64 ((len : Int) - 1 - k) ∧ J (backTo len k) wr ∧ Below n₀ W wr)
    (fun i _ => (intOf i + 1).toNat)
  case atStart => exact ⟨0, Nat.zero_le _, by simp, h0, Below.refl _ _⟩
  case round =>
    obtain ⟨k, hk, rfl, hJs, hnx⟩ := hrel
    by_cases hlt : k < len
    · have hcx := (hnx.cell (p := ⟨b, off + (len - 1 - k), none⟩) hb).trans (hc (len - 1 - k) (by omega))
      have hbx := (hnx.cell (p := ⟨Bs, 0, none⟩) hBl).trans hBs
      obtain ⟨fn, tmps, assign, body, hy, hR⟩ := hY _ (⟨len - 1 - k, by omega⟩ : Fin len) wr hJs (by rw [backTo_length (by omega)]; exact hlt)
      dsimp only at hy
      obtain ⟨i, hi⟩ : ∃ i : Nat, len - 1 - k = i := ⟨_, rfl⟩
      have hik : (len : Int) - 1 - (k : Int) = (i : Int) := by omega
      have hsucc := backTo_succ hlt
      simp only [hi] at hcx hy hR hsucc
      rw [hik]
      have hin : i < len := by omega
      have hiz : (i : Int) < (len : Int) := by omega
      have hi0 : (0 : Int) ≤ (i : Int) := by omega
      gi_wp2
      refine hR.mono ?_
      rintro e W3 (⟨rfl, hJ3, hk3⟩ | ⟨rfl, hJx3⟩)
      · gi_wp2
        go_roundw
        case rel => exact ⟨k + 1, by omega, by first | (simp; omega) | simp, by rw [hsucc]; exact hJ3, hnx.trans hk3⟩
        case measure => simp [intOf] <;> omega
      · gi_wp2
        refine bodyPost_ret (results_none rfl _ _ _) rfl ?_
        exact ⟨⟨_, rfl⟩, .inr ⟨_, ⟨k + 1, by omega, hsucc.symm⟩, hJx3⟩⟩
    · obtain rfl : k = len := by omega
      have hik : (k : Int) - 1 - (k : Int) = -1 := by omega
      rw [hik]
      gi_wp2
      go_end0
      exact ⟨⟨_, rfl⟩, .inl ⟨_, rfl, hJs⟩⟩
set_option maxRecDepth 100000 in
set_option maxHeartbeats 1000000 in
theorem back1_nil_in (F : Fence) (n : Nat) (h7 : F.fn 261) (hro : F.round = none) (l Bs : Nat) (a : Option Addr) (cap : Nat) (J : List (Fin 0) → World → Prop) (W : World) (hBs : W.cell? ⟨Bs, 0, none⟩ = some (.slice a 0 cap)) (h0 : J [] W) :
    CallsIn F n Tryz.prog 261 #[.func (.yield l) #[] #[], .pointer (some ⟨Bs, 0, none⟩)] W fun e W' => (∃ v, e = .returned v) ∧ J [] W' := by
  refine callsIn_of_wp Tryz.func261 rfl h7 ?_ hro
  simp only [Tryz.ntmps261, List.size_toArray, List.length_cons, List.length_nil, Nat.reduceAdd, Nat.reduceSub, Array.replicate_succ, Array.replicate_zero, List.push_toArray, List.append_toArray, List.nil_append, List.cons_append]
  gi_wp2
  gi_loopw [3] (fun i wr => i = .int .i64 (-1) ∧ J [] wr) (fun _ _ => 0)
  case atStart => exact ⟨rfl, h0⟩
  case round =>
    obtain ⟨rfl, hJs⟩ := hrel
    gi_wp2
    go_end0
    exact ⟨⟨_, rfl⟩, hJs⟩
set_option maxHeartbeats 1000000 in
theorem back_in (F : Fence) (n : Nat) (h6 : F.fn 213) (hro : F.round = none) (a : Option Addr) (len cap : Nat) (w : World) :
    CallsIn F n Tryz.prog 213 #[.slice a len cap] w fun e w' => e = .returned (.func (.func 261) #[] #[.pointer (some ⟨w.heap.size, 0, none⟩)]) ∧ w' = w.alloc (.cells #[.slice a len cap] 26) := by
  refine callsIn_of_wp Tryz.func213 rfl h6 ?_ hro
  simp only [Tryz.ntmps213, List.size_toArray, List.length_cons, List.length_nil, Nat.reduceAdd, Nat.reduceSub, Array.replicate_succ, Array.replicate_zero, List.push_toArray, List.append_toArray, List.nil_append, List.cons_append]
  gi_wp2
  go_ret
  exact ⟨rfl, rfl⟩
def StrsB (n₀ : Nat) (W : World) (a : Option Addr) (len : Nat) (L : Nat → ByteArray) : Prop :=
  len = 0 ∨ ∃ b off, a = some ⟨b, off, none⟩ ∧ b < n₀ ∧ ∀ j, j < len → W.cell? ⟨b, off + j, none⟩ = some (.string (L j))
theorem StrsB.below {n₀ : Nat} {A B : World} (h : Below n₀ A B) {a : Option Addr} {len : Nat} {L : Nat → ByteArray} : StrsB n₀ A a len L → StrsB n₀ B a len L
  | .inl e => .inl e
  | .inr ⟨b, off, e, hb, hc⟩ => .inr ⟨b, off, e, hb, fun j hj => (h.cell (p := ⟨b, off + j, none⟩) hb).trans (hc j hj)⟩
theorem back_stops (F : Fence) (n : Nat) (h8 : F.fn 261) (hro : F.round = none) (hn : 1 ≤ n) (Bs n₀ : Nat) (a : Option Addr) (len cap : Nat) (L : Nat → ByteArray) (hl : len ≤ 1000000) (w : World) (hBs : Bs < w.heap.size) (hBl : Bs < n₀) (hn₀ : n₀ ≤ w.heap.size)
    (hc : w.cell? ⟨Bs, 0, none⟩ = some (.slice a len cap)) (hI : StrsB n₀ w a len L) :
    SeqStopsK F n Tryz.prog 261 #[.pointer (some ⟨Bs, 0, none⟩)] (fun x : Fin len => #[Value.int .i64 (x.val : Int), Value.string (L x.val)]) (Below n₀) (fun ys => ys = backTo len len)
      (fun pre => ∃ k, k ≤ len ∧ pre = backTo len k) len w := fun l J Jx W hW _ _ hY h0 => by
  have hc' := (hW.cell (p := ⟨Bs, 0, none⟩) hBs).trans hc
  rcases hI.below (hW.mono hn₀) with rfl | ⟨b, off, rfl, hb, hcs⟩
  · exact (back1_nil_in F n h8 hro l Bs a cap J W hc' h0).mono fun e W' ⟨he, hj⟩ => ⟨he, .inl ⟨_, rfl, hj⟩⟩
  · exact back1_in F n h8 hro hn l Bs n₀ b off len cap L hl hb J Jx hY W hc' hBl hcs h0
end Go.Proofs.Pw

namespace Go.Proofs.Pw
open Go.RowKit
def noDefer (o : Oper) : Bool := match o.op with | .defer _ => false | _ => true
theorem noDefer_ne {o : Oper} (h : noDefer o = true) : ∀ c, o.op ≠ .defer c := by
  intro c e
  unfold noDefer at h
  rw [e] at h
  cases h
theorem operIn_round {F : Fence} {n : Nat} {P : Program} {o : Oper} {a : Act} {w : World} {next : Act → World → Prop} {Q : Exit → Act → World → Prop} {l : Nat} (hd : ∀ c, o.op ≠ .defer c) (h : o.wpIn F n P a w next Q) : o.wpIn (F.inRound l) n P a w next Q := by
  unfold Oper.wpIn at h ⊢
  rw [Oper.semAt_eq _ _ _ hd] at h ⊢
  exact h
theorem opIn_round {F : Fence} {n : Nat} {P : Program} {ops : Array Oper} {Q : Exit → Act → World → Prop} {i : Nat} {K : Act → World → Prop} {a : Act} {w : World} {l : Nat} (hd : ∀ (i : Nat) o, ops[i]? = some o → ∀ c, o.op ≠ .defer c) (h : wpOpIn F n P ops Q i K a w) : wpOpIn (F.inRound l) n P ops Q i K a w := by
  unfold wpOpIn at h ⊢
  cases ho : ops[i]? with
  | none => rw [ho] at h; exact h
  | some o =>
    rw [ho] at h
    simp only at h ⊢
    split
    · rename_i hw
      rw [if_pos hw] at h
      exact operIn_round (hd i o ho) h
    · rename_i hw
      rw [if_neg hw] at h
      exact h
theorem anyIn_round {F : Fence} {n : Nat} {P : Program} {md : Region.Mode} {ops : Array Oper} {Q : Exit → Act → World → Prop} {l : Nat} (hd : ∀ (i : Nat) o, ops[i]? = some o → ∀ c, o.op ≠ .defer c) : ∀ (fuel : Nat) (listed : Array Bool) (a : Act) (w : World), wpAnyIn F n P md ops Q fuel listed a w → wpAnyIn (F.inRound l) n P md ops Q fuel listed a w
  | 0, _, _, _, h => h
  | fuel + 1, _, _, _, h => ⟨h.1, fun i hi => opIn_round hd (wpOpIn_mono (fun a w => anyIn_round hd fuel _ a w) (h.2 i hi))⟩
theorem wpIn_region_quiet_round {P : Program} {id n l : Nat} {Q : Exit → Act → World → Prop} {a : Act} {w : World} {L : List Oper} (hm : P.follows .mixedOrders = true) (hB : Region.lexB .any L.toArray = true) (hd : L.all noDefer = true)
    (h : wpQuietIn Fence.wide n P L.toArray (fun w' => ∃ p : PatchBy, w' = patch w p.d p.os) (fun a' => ∀ w', (∃ p : PatchBy, w' = patch w p.d p.os) → Q .normal a' w') L a) : (Code.region id L.toArray true).wpIn (Fence.wide.inRound l) n P Q a w := by
  have hB' := hB
  simp only [Region.lexB, Bool.and_eq_true] at hB'
  refine wpIn_region_any hm (anyIn_round (F := Fence.wide) (fun i o ho => noDefer_ne (List.all_eq_true.1 hd o (List.mem_of_getElem? (by simpa using ho)))) _ _ _ _
    (wpAnyIn_of_quiet (C := fun w' => ∃ p : PatchBy, w' = patch w p.d p.os) (Q := fun a' => ∀ w', (∃ p : PatchBy, w' = patch w p.d p.os) → Q .normal a' w') rfl (fun _ w' hw' h => h w' hw') _ _ _ _ ⟨⟨w.drawn + 1, #[]⟩, by simp [patch]⟩ ?_))
  have := wpAnyQIn_lex (F := Fence.wide) (n := n) (C := fun w' => ∃ p : PatchBy, w' = patch w p.d p.os) (md := .any) hB'.1 L 0 (Array.replicate L.toArray.size false) a (by simp) (by simpa using hB'.2) h
  simpa using this
end Go.Proofs.Pw

namespace Go.Proofs.Pw
open Go.Lib hiding intOf
def noneS : Str := [110, 111, 110, 101]
def cap1 (m : Md) : Nat := if pathErr m.1 ≠ 0 then pathErr m.1 else if m.2 = noneS then 0 else verErr m.2
def capE (caps : List Md) (i : Nat) : Nat :=
  if cap1 (mdAt caps i) ≠ 0 then cap1 (mdAt caps i) else if 0 < i ∧ compareBytes (mdAt caps i).1 (mdAt caps (i - 1)).1 ≤ 0 then 8 else 0
def capsErr (caps : List Md) : Nat × Int := firstE (capE caps) caps.length
def aboveB (caps : List Md) (m : Md) : Bool :=
  decide (0 ≤ findI (hasP m.1) caps) &&
    (decide ((mdAt caps (findI (hasP m.1) caps).toNat).2 = noneS) || verLess (mdAt caps (findI (hasP m.1) caps).toNat).2 m.2)
end Go.Proofs.Pw

namespace Go.Proofs.Pw
open Go.Lib hiding intOf
def setM (M : Nat → Bool) (k : Nat) : Nat → Bool := fun j => if j = k then true else M j
theorem setM_of {M : Nat → Bool} {j : Nat} (k : Nat) (h : M j = true) : setM M k j = true := by unfold setM; split <;> simp [*]
theorem setM_true {M : Nat → Bool} {j k : Nat} (h : setM M k j = true) : j = k ∨ M j = true := by
  unfold setM at h
  split at h
  · exact .inl ‹_›
  · exact .inr h
def leftM (n : Nat) (M : Nat → Bool) : Nat := (List.range n).countP fun j => !M j
theorem leftM_le {n : Nat} {M M' : Nat → Bool} (h : ∀ j, M j = true → M' j = true) : leftM n M' ≤ leftM n M :=
  List.countP_mono_left fun j _ hj => by
    cases hM : M j
    · rfl
    · rw [h j hM] at hj; exact hj
theorem leftM_set {n : Nat} {M : Nat → Bool} {k : Nat} (hk : k < n) (h : M k = false) : leftM n (setM M k) < leftM n M := by
  unfold leftM
  induction n with
  | zero => exact absurd hk (Nat.not_lt_zero _)
  | succ n ih =>
    rw [List.range_succ, List.countP_append, List.countP_append]
    by_cases e : k = n
    · subst e
      have h1 : List.countP (fun j => !setM M k j) [k] = 0 := by simp [setM]
      have h2 : List.countP (fun j => !M j) [k] = 1 := by simp [h]
      have h3 := leftM_le (n := k) (M := M) (M' := setM M k) (fun j hj => setM_of k hj)
      unfold leftM at h3
      omega
    · have h1 := ih (by omega)
      have h2 : List.countP (fun j => !setM M k j) [n] = List.countP (fun j => !M j) [n] := by
        have : setM M k n = M n := by unfold setM; rw [if_neg (fun h => e h.symm)]
        simp only [List.countP_cons, List.countP_nil, this]
      rw [h2]
      omega
theorem RightI.at_ {l : List En} (_h : RightI l) {m : Md} {e : En} (he : e ∈ l) (hm : e.md = m) : (findE l m).toNat < l.length ∧ findE l m = ((findE l m).toNat : Int) ∧ (enAt l (findE l m).toNat).md = m := by
  have h0 : ¬ findE l m < 0 := fun h => findE_lt.1 h e he hm
  obtain ⟨k, h1, h2, h3⟩ := findE_nat h0
  rw [h1]
  exact ⟨h2, rfl, h3⟩
theorem RightI.place {l : List En} (h : RightI l) {j : Nat} (hj : j < l.length) : findE l (enAt l j).md = (j : Int) := by
  obtain ⟨h1, h2, h3⟩ := h.at_ (enAt_mem hj) rfl
  rw [h2]
  have := rises_inj modCmp_ord (k := (·.md)) h.rise (enAt_mem h1) (enAt_mem hj) h3
  have hnd : ∀ (i k : Nat), i < l.length → k < l.length → i < k → (enAt l i).md ≠ (enAt l k).md := fun i k hi hk hik e => by
    have hp := List.pairwise_iff_getElem.1 h.rise i k (by simpa using hi) (by simpa using hk) hik
    rw [List.getElem_map, List.getElem_map, ← enAt_elem hi, ← enAt_elem hk, e, modCmp_ord.self] at hp
    exact absurd hp (by decide)
  rcases Nat.lt_trichotomy (findE l (enAt l j).md).toNat j with h5 | h5 | h5
  · exact absurd h3 (hnd _ _ h1 hj h5)
  · rw [h5]
  · exact absurd h3.symm (hnd _ _ hj h1 h5)
end Go.Proofs.Pw

namespace Go.Proofs.Pw
open Go.Lib hiding intOf
inductive BadP (l : List En) (caps : List Md) : Md → Prop
  | above {e : En} (he : e ∈ l) (h : aboveB caps e.md = true) : BadP l caps e.md
  | req {e : En} {r : Md} (he : e ∈ l) (hr : r ∈ e.reqs) (h : BadP l caps r) : BadP l caps e.md
def SoundB (l : List En) (caps : List Md) (M : Nat → Bool) : Prop := ∀ j, j < l.length → M j = true → BadP l caps (enAt l j).md
def anyB (l : List En) (M : Nat → Bool) (R : List Md) : Bool := R.any fun r => M (findE l r).toNat
def ClosedB (l : List En) (caps : List Md) (M : Nat → Bool) (i : Nat) : Prop := (aboveB caps (enAt l i).md || anyB l M (enAt l i).reqs) = true → M i = true
theorem soundB_set {l : List En} {caps : List Md} {M : Nat → Bool} (hR : RightI l) (h : SoundB l caps M) {i : Nat} (hi : i < l.length) (ht : (aboveB caps (enAt l i).md || anyB l M (enAt l i).reqs) = true) : SoundB l caps (setM M i) := fun j hj hM => by
  rcases setM_true hM with rfl | h2
  · rw [Bool.or_eq_true] at ht
    rcases ht with ht | ht
    · exact .above (enAt_mem hi) ht
    · obtain ⟨r, hr, h3⟩ := List.any_eq_true.1 ht
      obtain ⟨e, he, h1⟩ := hR.all _ (enAt_mem hi) r hr
      obtain ⟨h4, _, h5⟩ := hR.at_ he h1
      have := h _ h4 h3
      rw [h5] at this
      exact .req (enAt_mem hi) hr this
  · exact h j hj h2
theorem bad_done {l : List En} {caps : List Md} {M : Nat → Bool} (hR : RightI l) (hs : SoundB l caps M) (hc : ∀ i, i < l.length → ClosedB l caps M i) {j : Nat} (hj : j < l.length) : M j = true ↔ BadP l caps (enAt l j).md := by
  refine ⟨hs j hj, fun h => ?_⟩
  have key : ∀ {m : Md}, BadP l caps m → M (findE l m).toNat = true := by
    intro m hm
    induction hm with
    | above he h =>
      obtain ⟨i, hi, e⟩ := mem_enAt he
      subst e
      rw [hR.place hi]
      exact hc i hi (by rw [h, Bool.true_or])
    | req he hr h ih =>
      obtain ⟨i, hi, e⟩ := mem_enAt he
      subst e
      rw [hR.place hi]
      exact hc i hi (by rw [Bool.or_eq_true]; exact .inr (List.any_eq_true.2 ⟨_, hr, ih⟩))
  have := key h
  rw [hR.place hj] at this
  exact this
theorem badP_reached {l : List En} {caps : List Md} {e : En} (_he : e ∈ l) : BadP l caps e.md ↔ ∃ f ∈ l, Reached l [e.md] f.md ∧ aboveB caps f.md = true := by
  constructor
  · have key : ∀ {m : Md}, BadP l caps m → ∃ f ∈ l, Reached l [m] f.md ∧ aboveB caps f.md = true := by
      intro m h
      induction h with
      | @above e he h => exact ⟨e, he, .root (by simp), h⟩
      | @req e r he hr h ih =>
        obtain ⟨f, hf, h1, h2⟩ := ih
        refine ⟨f, hf, ?_, h2⟩
        have h3 : ∀ {x : Md}, Reached l [r] x → Reached l [e.md] x := by
          intro x hx
          induction hx with
          | root hx =>
            rw [List.mem_singleton] at hx
            subst hx
            exact .step he (.root (by simp)) hr
          | step h4 h5 h6 ih => exact .step h4 ih h6
        exact h3 h1
    exact key
  · rintro ⟨f, hf, h1, h2⟩
    have key : ∀ {x : Md}, Reached l [e.md] x → BadP l caps x → BadP l caps e.md := by
      intro x hx
      induction hx with
      | root hx => rw [List.mem_singleton] at hx; subst hx; exact id
      | step h4 h5 h6 ih => exact fun h => ih (.req h4 h6 h)
    exact key h1 (.above hf h2)
def badErr (l : List En) (caps : List Md) : Nat × Int := orE (idxErr l) (capsErr caps)
end Go.Proofs.Pw

namespace Go.Proofs.Pw
open Go.RowKit
open Go.Lib hiding intOf
end Go.Proofs.Pw

namespace Go.Proofs.Pw
open Go.RowKit
open Go.Lib hiding intOf
def MarkRow (w : World) (g n : Nat) (M : Nat → Bool) : Prop := w.rowIs g 4 n (fun j => .bool (M j))
theorem MarkRow.below {w w' : World} {g n : Nat} {M : Nat → Bool} (h : MarkRow w g n M) (hb : Below w.heap.size w w') : MarkRow w' g n M :=
  World.rowIs.of_block h (hb.block g (World.rowIs.lt h))
theorem MarkRow.set {w : World} {g n : Nat} {M : Nat → Bool} (h : MarkRow w g n M) (k : Nat) : MarkRow (w.setCell ⟨g, k, none⟩ (.bool true)) g n (setM M k) :=
  (World.rowIs.set h k (.bool true)).congr fun j _ => by unfold setM; split <;> rfl
theorem MarkRow.cell {w : World} {g n : Nat} {M : Nat → Bool} (h : MarkRow w g n M) {k : Nat} (hk : k < n) : w.cell? ⟨g, k, none⟩ = some (.bool (M k)) := World.rowIs.cell h hk
theorem MarkRow.fz {w : World} {g n : Nat} {M : Nat → Bool} (h : MarkRow w g n M) (k : Nat) : w.frozen? ⟨g, k, none⟩ = false := World.rowIs.frozen h k
noncomputable def leftW (W : World) (g n : Nat) : Nat := (List.range n).countP fun j => @decide (W.cell? ⟨g, j, none⟩ = some (.bool false)) (Classical.propDecidable _)
theorem leftW_row {W : World} {g n : Nat} {M : Nat → Bool} (h : MarkRow W g n M) : leftW W g n = leftM n M := by
  unfold leftW leftM
  refine List.countP_congr fun j hj => ?_
  rw [h.cell (List.mem_range.1 hj)]
  cases M j <;> simp
def bitOf : Value → Nat
  | .bool true => 1
  | _ => 0
end Go.Proofs.Pw

namespace Go.Proofs.Pw
open Go.RowKit
open Go.Lib hiding intOf
theorem Tryz.enters_bad1 : ∀ args w, (callFunc 212 args).run Tryz.prog w = .ok (.enter 212 args) w := Go.Proofs.enters_of Tryz.func212 (by kernel_rfl) rfl
set_option maxHeartbeats 1000000 in
theorem bad1_calls (a : Option Addr) (n cap : Nat) (P V : Nat → ByteArray) (R : Nat → List Md) (K : Nat → List Str) (B : Nat → Bool) (Rv Kv : Nat → Value) (b8 b2 g : Nat) (M : Nat → Bool) (p v : ByteArray) (w : World) (h : EntsIn w a n cap P V R K B Rv Kv) (hl : n ≤ 1000000) (z8 : w.cell? ⟨b8, 0, none⟩ = some (.slice (some ⟨g, 0, none⟩) n n)) (z2 : w.cell? ⟨b2, 0, none⟩ = some (.slice a n cap)) (hrow : MarkRow w g n M) (k : Nat) (hk : k < n) (hf0 : findE (enF n P V R K B) (p.data.toList, v.data.toList) = (k : Int)) :
    Calls Tryz.prog 212 #[.agg #[.string p, .string v], .pointer (some ⟨b8, 0, none⟩), .pointer (some ⟨b2, 0, none⟩)] w fun e w' => e = .returned (.bool (M k)) ∧ Below w.heap.size w w' := by
  have hb := below_alloc w (.cells #[.string p, .string v] 47)
  obtain ⟨y0, y1, _⟩ := box2_alloc w (.string p) (.string v) 47
  have x8 := Below.cell_some hb z8
  have x2 := Below.cell_some hb z2
  have c0 := Below.cell_some hb (hrow.cell hk)
  have hf := fun W (hW : Below (w.alloc (.cells #[.string p, .string v] 47)).heap.size (w.alloc (.cells #[.string p, .string v] 47)) W) => idxFind_in a n cap P V R K B Rv Kv p v W ((h.below hb).below hW) hl
  rw [hf0] at hf
  have hkn : (k : Int) < (n : Int) := by omega
  generalize M k = X at c0 ⊢
  replace hf := Lib.hid hf
  clear h z8 z2 hrow hf0
  go_enter Tryz.func212, Tryz.ntmps212
  go_wp2_with fail
  generalize hw1 : w.alloc (.cells #[.string p, .string v] 47) = w1 at *
  clear hw1
  have hB := hb
  clear hb
  have kqy0 := fun d os => cell_patch (d := d) (os := os) y0
  have kqy1 := fun d os => cell_patch (d := d) (os := os) y1
  have kqx8 := fun d os => cell_patch (d := d) (os := os) x8
  have kqx2 := fun d os => cell_patch (d := d) (os := os) x2
  have kqc0 := fun d os => cell_patch (d := d) (os := os) c0
  refine wp_region_quiet_patch (by kernel_rfl) (by kernel_rfl) ?_
  repeat (go_big_quiet_step ((go_at_call 125; exact Calls.patch_of (hf.out _ (below_patch _ _ _)))))
  refine wpQuiet_nil ?_
  intro _ hw'
  obtain ⟨⟨dq, osq⟩, hw''⟩ := hw'
  subst hw''
  clear kqy0 kqy1 kqx8 kqx2 kqc0
  have hb := below_patch w1 dq osq
  replace hB := below_step hB hb
  clear hb
  generalize patch w1 dq osq = w2 at hB ⊢
  go_wp2_with fail
  go_ret
  exact ⟨rfl, hB⟩
end Go.Proofs.Pw

namespace Go.Proofs.Pw
open Go.RowKit
open Go.Lib hiding intOf
end Go.Proofs.Pw

namespace Go.Proofs.Pw
open Go.RowKit
open Go.Lib hiding intOf
theorem aboveB_no {sel : List Md} {m : Md} (h : findI (hasP m.1) sel < 0) : aboveB sel m = false := by
  unfold aboveB
  rw [decide_eq_false (by omega), Bool.false_and]
theorem aboveB_at {sel : List Md} {m : Md} {k : Nat} (h : findI (hasP m.1) sel = k) : aboveB sel m = (decide ((mdAt sel k).2 = noneS) || verLess (mdAt sel k).2 m.2) := by
  unfold aboveB
  rw [h, decide_eq_true (by omega), Bool.true_and, show ((k : Nat) : Int).toNat = k from rfl]
set_option maxHeartbeats 1000000 in
set_option maxRecDepth 100000 in
theorem above_calls (ks : List Nat) (A : Nat → Addr) (v : Value) (l : List Md) (p q : ByteArray) (w : World) (hE : EnvP ks A w) (h : ModsAt w v l) (hl : l.length ≤ 1000000) (hs : ∀ m ∈ l, m.2.length ≤ 1000000000) (hq : q.size ≤ 1000000000) :
    Calls Tryz.prog 211 #[v, .agg #[.string p, .string q]] w fun e w' => e = .returned (.bool (aboveB l (p.data.toList, q.data.toList))) ∧ Below w.heap.size w w' := by
  have hb := below_alloc w (.cells #[.string p, .string q] 47)
  have hz := box2_alloc w (.string p) (.string q) 47
  have hE1 := hE.below hb
  have hf := modFind_calls v l p (w.alloc (.cells #[.string p, .string q] 47)) (h.below hb) hl
  have hno := aboveB_no (sel := l) (m := (p.data.toList, q.data.toList))
  have hat := fun k => aboveB_at (sel := l) (m := (p.data.toList, q.data.toList)) (k := k)
  unfold hasP at hno hat
  simp only at hno hat
  have hsp := fun k => @findI_spec _ (fun m : Md => decide (m.1 = p.data.toList)) l k
  generalize findI (fun m : Md => decide (m.1 = p.data.toList)) l = x at hf hno hat hsp
  obtain ⟨a, n, cap, P, V, rfl, rfl, hnc, hcap, hc⟩ := h
  replace hf := Lib.hid hf
  by_cases hx : x < 0
  · have HR := Lib.hid (hno hx)
    clear hno hat hsp hc hs
    go_enter Tryz.func211, Tryz.ntmps211
    go_wp2_with fail
    refine hf.out.mono ?_
    rintro e w1 ⟨rfl, hb1⟩
    have hB := below_step hb hb1
    clear hb1 hb hf hz
    go_wp2_with fail
    have hx1 : decide (0 ≤ x) = false := decide_eq_false (by omega)
    have hx2 : decide (x ≥ 0) = false := decide_eq_false (by omega)
    refine wp_region_quiet_patch (by kernel_rfl) (by kernel_rfl) ?_
    repeat (go_big_quiet_step (fail))
    refine wpQuiet_nil ?_
    intro _ hw'
    obtain ⟨⟨dq, osq⟩, hw''⟩ := hw'
    subst hw''
    have hb := below_patch w1 dq osq
    replace hB := below_step hB hb
    clear hb
    generalize patch w1 dq osq = w2 at hB ⊢
    clear hx1 hx2
    go_wp2_with fail
    go_ret
    rw [HR.out]
    exact ⟨rfl, hB⟩
  · obtain ⟨k, rfl⟩ : ∃ k : Nat, x = k := ⟨x.toNat, by omega⟩
    obtain ⟨y, hy, hp⟩ := hsp k rfl
    have hkn : k < n := by have := (List.getElem?_eq_some_iff.1 hy).1; rwa [mdF_length] at this
    have hkz : (k : Int) < (n : Int) := by omega
    obtain ⟨b1, o1, rfl, c0, c1⟩ := hc k hkn
    have hR := hat k rfl
    rw [mdAt_mdF hkn] at hR
    have hVs := hs _ (List.mem_of_getElem? (mdF_get n P V k hkn))
    have hless := fun W hW => verLess_calls ks A (V k) q W hW (by rw [size_eq]; exact hVs) hq
    have HR := Lib.hid hR
    have hn0 : ((V k).toList == [110, 111, 110, 101]) = decide ((V k).data.toList = noneS) := by rw [toList_data, Bool.eq_iff_iff, beq_iff_eq, decide_eq_true_iff]; rfl
    generalize decide ((V k).data.toList = noneS) = N at HR hn0
    generalize verLess (V k).data.toList q.data.toList = D at hless HR
    replace hless := Lib.hid hless
    have hB := hb
    have d0 := Below.cell_some hb c0
    have d1 := Below.cell_some hb c1
    obtain ⟨y0, y1, _⟩ := hz
    clear hno hat hsp hc hs hR hVs hy hp c0 c1 hb hE
    cases N with
    | true =>
      go_enter Tryz.func211, Tryz.ntmps211
      go_wp2_with fail
      refine (hf.out).mono ?_
      rintro e w1 ⟨rfl, hb⟩
      replace hB := below_step hB hb
      replace hE1 := hE1.below hb
      replace d0 := Below.cell_some hb d0
      replace d1 := Below.cell_some hb d1
      replace y0 := Below.cell_some hb y0
      replace y1 := Below.cell_some hb y1
      clear hb
      go_wp2_with fail
      have hx1 : decide (0 ≤ (k : Int)) = true := decide_eq_true (by omega)
      have hx2 : decide ((k : Int) ≥ 0) = true := decide_eq_true (by omega)
      have kqd1 := fun d os => cell_patch (d := d) (os := os) d1
      have kqy1 := fun d os => cell_patch (d := d) (os := os) y1
      refine wp_region_quiet_patch (by kernel_rfl) (by kernel_rfl) ?_
      repeat (go_big_quiet_step (fail))
      refine wpQuiet_nil ?_
      intro _ hw'
      obtain ⟨⟨dq, osq⟩, hw''⟩ := hw'
      subst hw''
      clear kqd1 kqy1
      have hb := below_patch w1 dq osq
      replace hB := below_step hB hb
      clear hb
      generalize patch w1 dq osq = w2 at hB ⊢
      go_wp2_with fail
      go_ret
      rw [HR.out]
      exact ⟨rfl, hB⟩
    | false =>
      go_enter Tryz.func211, Tryz.ntmps211
      go_wp2_with fail
      refine (hf.out).mono ?_
      rintro e w1 ⟨rfl, hb⟩
      replace hB := below_step hB hb
      replace hE1 := hE1.below hb
      replace d0 := Below.cell_some hb d0
      replace d1 := Below.cell_some hb d1
      replace y0 := Below.cell_some hb y0
      replace y1 := Below.cell_some hb y1
      clear hb
      go_wp2_with fail
      have hx1 : decide (0 ≤ (k : Int)) = true := decide_eq_true (by omega)
      have hx2 : decide ((k : Int) ≥ 0) = true := decide_eq_true (by omega)
      have kE := Lib.hid (fun d os => hE1.below (below_patch w1 d os))
      have kqd1 := fun d os => cell_patch (d := d) (os := os) d1
      have kqy1 := fun d os => cell_patch (d := d) (os := os) y1
      refine wp_region_quiet_patch (by kernel_rfl) (by kernel_rfl) ?_
      repeat (go_big_quiet_step ((go_at_call 99; exact Calls.patch_of (hless.out _ (kE.out _ _)))))
      refine wpQuiet_nil ?_
      intro _ hw'
      obtain ⟨⟨dq, osq⟩, hw''⟩ := hw'
      subst hw''
      clear kqd1 kqy1
      have hb := below_patch w1 dq osq
      replace hB := below_step hB hb
      clear hb
      generalize patch w1 dq osq = w2 at hB ⊢
      go_wp2_with fail
      go_ret
      rw [HR.out]
      exact ⟨rfl, hB⟩
end Go.Proofs.Pw
