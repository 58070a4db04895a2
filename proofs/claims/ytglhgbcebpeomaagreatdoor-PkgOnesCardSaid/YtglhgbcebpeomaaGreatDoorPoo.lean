/- Po: walks and plain laws, joined: Mvs OnesMath VerHead Build VerText VerBeg QMath Reached ErrIs Query1 SlDel SortLayS VerSort IdxVers IdxLatest Query2 Fresh SlDelK Query3 Picked. Conditions: at each theorem. -/
import Derived.Test.YtglhgbcebpeomaaGreatDoorPog
import Derived.Test.YtglhgbcebpeomaaGreatDoorPoi
import Derived.Test.YtglhgbcebpeomaaGreatDoorPon
import Derived.Test.YtglhgbcebpeomaaGreatDoorPoh
import Derived.Test.YtglhgbcebpeomaaGreatDoorPoe
import Derived.Test.YtglhgbcebpeomaaGreatDoorShelf
import Derived.Test.YtglhgbcebpeomaaGreatDoorPob
import Derived.Shelf.Strings.BuilderK
import Derived.Shelf.Strings.OnBuilder
import Derived.Test.YtglhgbcebpeomaaGreatDoorPod
import Derived.Shelf.SlSortCmp.QuietGrown
import Derived.Lib.AppendIntMem
import Derived.Deep.CutRange
import Derived.Deep.CutBlock
import Derived.Test.YtglhgbcebpeomaaGreatDoorProg
import Derived.WalkKit
import Derived.LaidEql
import Derived.Stop.Asserts
import Derived.RowKitTokens
import Derived.Lib.Hide
import Derived.Lib.SlKept
import Derived.Lib.SliceRun
import Derived.LoopTactic
import Derived.Sort.EncStr
import Derived.Deep.LoopGhost
import Derived.Shelf.Abstract
import Derived.RegionTactic
import Derived.BigRegion
import Derived.Shelf.SlSortCmp.NoneTotal
import Derived.Shelf.SlSortCmp.Whole1
import Derived.Stop.IfaceNil
import Derived.Laws.EntriesVeiled
import Derived.Deep.AppendLies
import Derived.Deep.RegionLaw
import Derived.Test.YtglhgbcebpeomaaGreatDoorPok
import Derived.Deep.RegionHeld2

namespace Go.Proofs.Pw
open Go.RowKit
open Go.Lib hiding intOf
noncomputable def buildR (l : List En) (roots : List Md) : List Md := if (startErr l roots).1 = 0 then buildL l roots else []
theorem build_of {l : List En} {roots : List Md} : greatest (reachR l roots) = buildR l roots := by
  unfold reachR buildR
  by_cases h0 : (startErr l roots).1 = 0
  · rw [if_pos h0, if_pos h0]; rfl
  · rw [if_neg h0, if_neg h0]; rfl
theorem mvsBuild_in (ks : List Nat) (A : Nat → Addr) (hks : IdxKs ks) (a : Option Addr) (n cap : Nat) (P V : Nat → ByteArray) (R : Nat → List Md) (K : Nat → List Str) (Bk : Nat → Bool) (Rv Kv : Nat → Value) (rv : Value) (roots : List Md) (w : World) (hE : EnvP ks A w) (h : EntsIn w a n cap P V R K Bk Rv Kv) (hs : ShortI (enF n P V R K Bk)) (hr : ModsAt w rv roots) (hl : roots.length ≤ 100000) :
    Calls Tryz.prog 27 #[.slice a n cap, rv] w fun e w' => (∃ x ev, e = .returned (.tuple #[x, ev]) ∧ FaultAt A w' ev (startErr (enF n P V R K Bk) roots) ∧ ModsAt w' x (buildR (enF n P V R K Bk) roots)) ∧ Below w.heap.size w w' := by
  have hre := grReach_in ks A hks a n cap P V R K Bk Rv Kv rv roots w hE h hs hr hl
  obtain ⟨ar, rn, rc, _, _, rfl, _⟩ := id hr
  have hlen : (reachR (enF n P V R K Bk) roots).length ≤ 1000000 := by
    unfold reachR
    by_cases h0 : (startErr (enF n P V R K Bk) roots).1 = 0
    · rw [if_pos h0]
      have h2 : (reachL (enF n P V R K Bk) roots).length ≤ (enF n P V R K Bk).length := by
        unfold reachL
        exact Nat.le_trans (List.length_filter_le _ _) (by rw [List.length_map]; exact Nat.le_refl _)
      have := (rightG_of h0).idx.len
      omega
    · rw [if_neg h0]; decide
  have hbu := build_of (l := enF n P V R K Bk) (roots := roots)
  have hbe : (startErr (enF n P V R K Bk) roots).1 ≠ 0 → buildR (enF n P V R K Bk) roots = [] := fun h0 => by unfold buildR; rw [if_neg h0]
  generalize reachR (enF n P V R K Bk) roots = X at hre hlen hbu
  generalize buildR (enF n P V R K Bk) roots = Y at hbu hbe ⊢
  replace hre := Lib.hid hre
  clear h hs hr hE
  go_enter Tryz.func27, Tryz.ntmps27
  go_wp2_with fail
  refine hre.out.mono ?_
  rintro e w1 ⟨⟨x, ev, rfl, hf, hx⟩, hB⟩
  have hgr := greatest_calls x X w1 hx hlen
  obtain ⟨ax, nx, cx, _, _, rfl, _⟩ := id hx
  replace hgr := Lib.hid hgr
  clear hre hx hlen
  rcases fault_form hf with ⟨h0, rfl⟩ | ⟨h0, ty, q, rfl⟩
  · have HF := Lib.hid hf
    clear hf h0 hbe
    go_wp2_with fail
    refine hgr.out.mono ?_
    rintro e w2 ⟨⟨v2, L, rfl, hL, ho⟩, hb2⟩
    have hM := modsAt_own ho
    rw [hL, hbu] at hM
    have HM := Lib.hid hM
    clear hM ho hL
    go_wp2_with fail
    go_ret2
    exact ⟨⟨_, _, rfl, HF.out.below hb2, HM.out⟩, below_step hB hb2⟩
  · have HF := Lib.hid hf
    have HY := Lib.hid (hbe h0)
    clear hf h0 hbe hbu hgr
    go_wp2_with fail
    go_ret2
    refine ⟨⟨_, _, rfl, HF.out, ?_⟩, hB⟩
    rw [HY.out]
    exact ModsAt.nil _
end Go.Proofs.Pw

namespace Go.Proofs.Pw
open Go.Lib hiding intOf
theorem allK_has {l : List En} {S : List Md} {q : Str} (h : q ∈ allK l S) : ∃ m ∈ S, selHas l q m = true ∧ q ∈ packsP (entOf l m) := by
  unfold allK at h
  split at h
  · rw [pathsL_mem] at h
    unfold allP at h
    obtain ⟨m, hm, h2⟩ := List.mem_flatMap.1 h
    refine ⟨m, hm, ?_, h2⟩
    unfold selHas
    rw [hasK_in]
    exact decide_eq_true h2
  · cases h
theorem packs_len {e : En} {q : Str} {a b : Nat} (h1 : e.md.1.length ≤ a) (h2 : ∀ s ∈ e.packs, s.length ≤ b) (h : q ∈ packsP e) : q.length ≤ a + 1 + b := by
  unfold packsP at h
  obtain ⟨k, hk, rfl⟩ := List.mem_map.1 h
  have := h2 k hk
  unfold packP
  split
  · omega
  · simp; omega
theorem sel_five {l : List En} {S : List Md} {p : Str} (hr : S.Pairwise fun a b => compareBytes a.1 b.1 < 0) (he : ∀ m ∈ S, ∃ e ∈ l, e.md = m) (hm : ∀ m ∈ S, pathErr m.1 = 0) : (S.filter (selHas l p)).length ≤ 5 := by
  refine pair_len (f := fun m => m.1.count 47) (n := 5) (fun x hx => ?_) ?_
  · have := pathErr_count (hm x (List.mem_filter.1 hx).1)
    show x.1.count 47 < 5
    omega
  · refine (List.Pairwise.sublist List.filter_sublist hr).imp_of_mem fun {a b} ha hb h => ?_
    have ha2 := List.mem_filter.1 ha
    have hb2 := List.mem_filter.1 hb
    have e1 := (entOf_md (he a ha2.1)).1
    have e2 := (entOf_md (he b hb2.1)).1
    have h1 := hasK_head (show hasK (entOf l a) p = true from ha2.2)
    have h2 := hasK_head (show hasK (entOf l b) p = true from hb2.2)
    rw [e1] at h1
    rw [e2] at h2
    obtain ⟨r, e3⟩ := ahead_of h1 h2 h
    show a.1.count 47 < b.1.count 47
    rw [e3, List.count_append, List.count_cons_self]
    omega
structure Sel (l : List En) (S : List Md) : Prop where
  idx : RightI l
  zero : (idxErr l).1 = 0
  rise : S.Pairwise fun a b => compareBytes a.1 b.1 < 0
  at_ : ∀ m ∈ S, ∃ e ∈ l, e.md = m
theorem sel_build {l : List En} {roots : List Md} (h : (startErr l roots).1 = 0) : Sel l (buildR l roots) := by
  have hG := rightG_of h
  have hb : buildR l roots = buildL l roots := by unfold buildR; rw [if_pos h]
  rw [hb]
  refine ⟨hG.idx, ?_, hG.great.rise, fun m hm => hG.entry (build_reached hG hm)⟩
  unfold startErr at h
  exact (orE_zero.1 h).1
namespace Sel
variable {l : List En} {S : List Md}
theorem path (h : Sel l S) {m : Md} (hm : m ∈ S) : pathErr m.1 = 0 := by
  obtain ⟨e, he, h1⟩ := h.at_ m hm
  have := (modErr_zero (h.idx.mds e he)).1
  rwa [h1] at this
theorem five (h : Sel l S) (p : Str) : (S.filter (selHas l p)).length ≤ 5 := sel_five h.rise h.at_ fun _ hm => h.path hm
theorem roots (h : Sel l S) : rootsErr l S = (0, -1) := firstE_none (firstE_zero (rootsErr_zero.2 h.at_))
theorem all (h : Sel l S) : allErr l S = (0, -1) := by
  unfold allErr
  rw [h.roots]
  unfold orE
  rw [if_neg (by simp [h.zero])]
theorem len (h : Sel l S) : S.length ≤ l.length := by
  have h1 : (S.map (·.1)).Nodup := by
    unfold List.Nodup
    rw [List.pairwise_map]
    exact h.rise.imp fun hlt e => by
      rw [e, compareBytes_ord.self] at hlt
      exact absurd hlt (by decide)
  have h2 : S.map (·.1) ⊆ l.map (·.md.1) := fun x hx => by
    obtain ⟨m, hm, rfl⟩ := List.mem_map.1 hx
    obtain ⟨e, he, rfl⟩ := h.at_ m hm
    exact List.mem_map.2 ⟨e, he, rfl⟩
  have := List.Nodup.length_le_of_subset h1 h2
  rwa [List.length_map, List.length_map] at this
theorem of_ne (_ : Sel l S) {q : Str} (hq : q ∈ allK l S) : S.filter (selHas l q) ≠ [] := by
  obtain ⟨m, hm, h2, _⟩ := allK_has hq
  exact List.ne_nil_of_mem (List.mem_filter.2 ⟨hm, h2⟩)
theorem err_bad (h : Sel l S) {q : Str} (hp : pathErr q ≠ 0 ∧ pathErr q ≠ 4) : ofErr l S q = (pathErr q, -1) := by
  unfold ofErr
  rw [if_pos hp]
  unfold orE
  rw [if_neg (by simp [h.zero])]
theorem err_good (h : Sel l S) {q : Str} (hq : q ∈ allK l S) (hp : ¬ (pathErr q ≠ 0 ∧ pathErr q ≠ 4)) : ofErr l S q = (0, -1) := by
  unfold ofErr
  rw [if_neg hp, h.roots, if_neg (h.of_ne hq)]
  unfold orE
  rw [if_neg (by simp [h.zero])]
  rfl
theorem best (h : Sel l S) {q : Str} (hq : q ∈ allK l S) (hp : ¬ (pathErr q ≠ 0 ∧ pathErr q ≠ 4)) : ofM l S q ∈ S.filter (selHas l q) := by
  unfold ofM
  rw [h.err_good hq hp, if_pos rfl]
  exact bestM_mem (h.of_ne hq) fun m hm => path_ne (h.path (List.mem_filter.1 hm).1)
theorem best_len (h : Sel l S) {q : Str} (hq : q ∈ allK l S) (hp : ¬ (pathErr q ≠ 0 ∧ pathErr q ≠ 4)) {m : Md} (hm : m ∈ S) (h2 : selHas l q m = true) : m.1.length ≤ (ofM l S q).1.length := by
  unfold ofM
  rw [h.err_good hq hp, if_pos rfl]
  exact bestM_len (List.mem_filter.2 ⟨hm, h2⟩)
theorem best_take (h : Sel l S) {q : Str} (hq : q ∈ allK l S) (hp : ¬ (pathErr q ≠ 0 ∧ pathErr q ≠ 4)) : (ofM l S q).1 = q.take (ofM l S q).1.length := by
  obtain ⟨h1, h2⟩ := List.mem_filter.1 (h.best hq hp)
  have h3 := hasK_take (show hasK (entOf l (ofM l S q)) q = true from h2)
  rwa [(entOf_md (h.at_ _ h1)).1] at h3
end Sel
end Go.Proofs.Pw

namespace Go.Proofs.Pw
open Go.RowKit
open Go.Lib hiding intOf
def IntsAt (w : World) (v : Value) (l : List Nat) : Prop :=
  ∃ a n cap, ∃ L : Nat → Nat, v = .slice a n cap ∧ l = (List.range n).map L ∧ n ≤ cap ∧ cap ≤ 9223372036854775807 ∧ ∀ j, j < n → ∃ b o, a = some ⟨b, o, none⟩ ∧ w.cell? ⟨b, o + j, none⟩ = some (.int .i64 (L j : Nat))
theorem IntsAt.below {w w' : World} {v : Value} {l : List Nat} (h : IntsAt w v l) (hb : Below w.heap.size w w') : IntsAt w' v l := by
  obtain ⟨a, n, cap, L, h1, h2, h3, h4, h5⟩ := h
  exact ⟨a, n, cap, L, h1, h2, h3, h4, fun j hj => let ⟨b, o, e1, e2⟩ := h5 j hj; ⟨b, o, e1, Below.cell_some hb e2⟩⟩
theorem IntsAt.nil (w : World) : IntsAt w (.slice none 0 0) [] := ⟨none, 0, 0, fun _ => 0, rfl, rfl, Nat.le_refl _, by decide, fun j hj => absurd hj (Nat.not_lt_zero _)⟩
end Go.Proofs.Pw

namespace Go.Proofs.Pw
open Go.RowKit
end Go.Proofs.Pw

namespace Go.Proofs.Pw
open Go.RowKit
open Go.Lib hiding intOf
open Go.Sort (grow)
end Go.Proofs.Pw

namespace Go.Proofs.Pw
open Go.RowKit
open Go.Lib hiding intOf
end Go.Proofs.Pw

namespace Go.Proofs.Pw
open Go.Lib hiding intOf
end Go.Proofs.Pw

namespace Go.Proofs.Pw
open Go.RowKit
open Go.Lib hiding intOf
def sA : ByteArray := ⟨#[97]⟩
def sB : ByteArray := ⟨#[98]⟩
def v100 : ByteArray := ⟨#[118, 49, 46, 48, 46, 48]⟩
def v110 : ByteArray := ⟨#[118, 49, 46, 49, 46, 48]⟩
def v010 : ByteArray := ⟨#[118, 48, 46, 49, 46, 48]⟩
def smB (_ : Nat) : Bool := false
theorem new_cell (W : World) (cs : List Value) (t : TypeId) {N : Nat} (h : W.heap.size = N) {c : Nat} {u : Value} (hc : cs[c]? = some u) : (W.alloc (.cells cs.toArray t)).cell? ⟨N, c, none⟩ = some u := by
  subst h
  have := World.news_of_block (cs := cs.toArray) (Go.Deep.blk_alloc_new W (.cells cs.toArray t)) c u (by simpa using hc)
  rw [Addr.add_lit, Nat.zero_add] at this
  exact this
end Go.Proofs.Pw

namespace Go.Proofs.Pw
open Go.RowKit Go.Extern.Stop Go.Stop Go.Extern
theorem Tryz.is_typeOf (v : Value) (w : World) : (Extern.ReflectliteType.typeOf #[.iface 371 v]).run Tryz.prog w = .ok (.iface 301 (.agg #[.pointer (some ⟨19, 371, none⟩)])) w := by kernel_rfl
theorem Tryz.is_comp : (Tryz.prog.info? 371).map (·.comparable) = some true := by kernel_rfl
theorem Tryz.is_size : (Tryz.prog.info? 373).map (·.size) = some 1 := by kernel_rfl
theorem Tryz.no_asE (v : Value) (xT : TypeId) (w : World) : (Instr.typeAssert (.iface 371 v) xT 305 true).run Tryz.prog w = .ok (.tuple #[.nilIface, .bool false]) w := run_typeAssert_lacksB Tryz.underlying305 (by kernel_rfl) (by kernel_rfl) v xT w
theorem Tryz.no_unwrapE (v : Value) (xT : TypeId) (w : World) : (Instr.typeAssert (.iface 371 v) xT 308 true).run Tryz.prog w = .ok (.tuple #[.nilIface, .bool false]) w := run_typeAssert_lacksB Tryz.underlying308 (by kernel_rfl) (by kernel_rfl) v xT w
theorem Tryz.no_unwrapsE (v : Value) (xT : TypeId) (w : World) : (Instr.typeAssert (.iface 371 v) xT 310 true).run Tryz.prog w = .ok (.tuple #[.nilIface, .bool false]) w := run_typeAssert_lacksB Tryz.underlying310 (by kernel_rfl) (by kernel_rfl) v xT w
end Go.Proofs.Pw

namespace Go.Proofs.Pw
open Go.RowKit
open Go.Lib hiding intOf
end Go.Proofs.Pw

namespace Go.Proofs.Pw
open Go.RowKit Go.Sort
open Go.Lib hiding intOf
theorem below_putRow {B : Nat} {w w' : World} (h : Below B w w') {blk : Nat} (hb : B ≤ blk) (off : Nat) (d : Array Str) : Below B w (putRow encStr w' blk off d) := by
  refine h.trans ⟨rfl, rfl, rfl, by simp [putRow, mapBlock], fun k hk => ?_⟩
  simp only [putRow, mapBlock, Array.getElem?_modify]
  rw [if_neg (by omega)]
theorem holds_take {w : World} {blk off : Nat} {l m : List Str} (h : Holds encStr w blk off (l ++ m).toArray) : Holds encStr w blk off l.toArray := by
  intro j hj
  have hj' : j < l.length := by simpa using hj
  have := h j (by simp; omega)
  have e : (l ++ m).toArray[j]! = l.toArray[j]! := by
    rw [getElem!_pos _ j (by simp; omega), getElem!_pos _ j (by simpa using hj)]
    simp [List.getElem_append_left hj']
  rw [e] at this
  exact this
end Go.Proofs.Pw

namespace Go.Proofs.Pw
open Go.RowKit
end Go.Proofs.Pw

namespace Go.Proofs.Pw
open Go.RowKit Go.Sort
open Go.Lib hiding intOf
theorem bytes_back (b : ByteArray) : (⟨b.data.toList.toArray⟩ : ByteArray) = b := bytes_eq.1 rfl
theorem strsAt_holds {w : World} {g off cap : Nat} {l : List Str} (h : Holds encStr w g off l.toArray) (hc : l.length ≤ cap) (hm : cap ≤ 9223372036854775807) : StrsAt w (.slice (some ⟨g, off, none⟩) l.length cap) l := by
  refine ⟨_, l.length, cap, fun j => ⟨(l.getD j []).toArray⟩, rfl, ?_, hc, hm, fun j hj => ⟨g, off, rfl, ?_⟩⟩
  · apply List.ext_getElem?
    intro i
    by_cases hi : i < l.length
    · rw [lstF_get _ _ i hi, List.getElem?_eq_getElem hi, List.getD_eq_getElem?_getD, List.getElem?_eq_getElem hi]; rfl
    · rw [List.getElem?_eq_none (by omega), List.getElem?_eq_none (by rw [lstF_length]; omega)]
  · have := (h j (by simpa using hj)).1
    rw [this]
    show some (encStr l.toArray[j]!) = some (Value.string ⟨(l.getD j []).toArray⟩)
    rw [getElem!_pos _ j (by simpa using hj), List.getD_eq_getElem?_getD, List.getElem?_eq_getElem hj]
    simp
theorem lstF_mem' {m : Nat} {M : Nat → ByteArray} {x : Str} : x ∈ lstF m M ↔ ∃ j, j < m ∧ (M j).data.toList = x := by simp [lstF]
theorem compactUpTo_length_le {α : Type} [Inhabited α] [DecidableEq α] (d : Array α) : (compactUpTo d d.size).length ≤ d.size := by
  unfold compactUpTo
  rw [List.length_map]
  exact Nat.le_trans (List.length_filter_le _ _) (by simp)
def OkV (s : Str) : Prop := verErr s = 0 ∧ s.length ≤ 1000000000
abbrev RV := {s : Str // OkV s}
instance : Inhabited RV := ⟨⟨[118, 48, 46, 48, 46, 48], by decide +kernel, by decide⟩⟩
end Go.Proofs.Pw

namespace Go.Proofs.Pw
open Go.RowKit
open Go.Lib hiding intOf
end Go.Proofs.Pw

namespace Go.Proofs.Pw
open Go.RowKit Go.Sort
open Go.Lib hiding intOf
end Go.Proofs.Pw

namespace Go.Proofs.Pw
open Go.RowKit
open Go.Lib hiding intOf
theorem run_neq_ptr_same {P : Program} (w : World) {ti tp te : TypeId} {ms : Array (String × TypeId)} {i j : TypeInfo} (a : Addr)
    (hi : P.underlying ti = some (.interface ms)) (hp : P.underlying tp = some (.pointer te)) (hinfo : P.info? tp = some i) (hcomp : i.comparable = true) (hte : P.info? te = some j) :
    (binOp .neq ti (.iface tp (.pointer (some a))) (.iface tp (.pointer (some a)))).run P w = .ok (.bool false) w := by
  simp only [binOp]
  simp [Op.equal, Op.maxDepth, run_equalIn_iface_ptr_same w 9998 a hi hp hinfo hcomp hte]
theorem run_neq_ptr_other {P : Program} (w : World) {ti tp te : TypeId} {ms : Array (String × TypeId)} {i j : TypeInfo} {a b : Addr} {ca cb : Array Value} {ta tb : TypeId}
    (hi : P.underlying ti = some (.interface ms)) (hp : P.underlying tp = some (.pointer te)) (hinfo : P.info? tp = some i) (hcomp : i.comparable = true) (hte : P.info? te = some j) (hsz : j.size ≠ 0)
    (hne : a ≠ b) (ha : w.heap[a.block]? = some (.cells ca ta (0, 0))) (hb : w.heap[b.block]? = some (.cells cb tb (0, 0))) :
    (binOp .neq ti (.iface tp (.pointer (some a))) (.iface tp (.pointer (some b)))).run P w = .ok (.bool true) w := by
  simp only [binOp]
  simp [Op.equal, Op.maxDepth, run_equalIn_iface_ptr_other w 9998 hi hp hinfo hcomp hte hsz hne ha hb]
end Go.Proofs.Pw

namespace Go.Proofs.Pw
open Go.RowKit Go.Sort
open Go.Lib hiding intOf
def FreshS (B : Nat) (w : World) (v : Value) (l : List Str) : Prop :=
  (v = .slice none 0 0 ∧ l = []) ∨ ∃ g c, v = .slice (some ⟨g, 0, none⟩) l.length c ∧ B ≤ g ∧ g < w.heap.size ∧ l.length ≤ c ∧ c ≤ 9223372036854775807 ∧ Holds encStr w g 0 l.toArray
theorem FreshS.mono {B B' : Nat} {w : World} {v : Value} {l : List Str} (h : FreshS B w v l) (hb : B' ≤ B) : FreshS B' w v l := by
  rcases h with h | ⟨g, c, h0, h1, r⟩
  · exact .inl h
  · exact .inr ⟨g, c, h0, by omega, r⟩
theorem FreshS.below {B : Nat} {w w' : World} {v : Value} {l : List Str} (h : FreshS B w v l) (hb : Below w.heap.size w w') : FreshS B w' v l := by
  rcases h with h | ⟨g, c, h0, h1, h2, h3, h4, h5⟩
  · exact .inl h
  · exact .inr ⟨g, c, h0, h1, Nat.lt_of_lt_of_le h2 hb.size, h3, h4, fun j hj => ⟨Below.cell_some hb (h5 j hj).1, (hb.frozen (p := ⟨g, 0 + j, none⟩) h2).trans (h5 j hj).2⟩⟩
end Go.Proofs.Pw

namespace Go.Proofs.Pw
open Go.RowKit Go.Sort
open Go.Lib hiding intOf
structure Kept (blk : Nat) (w W : World) : Prop where
  os : W.os = w.os
  tape : W.tape = w.tape
  output : W.output = w.output
  size : w.heap.size ≤ W.heap.size
  all : ∀ k, k < w.heap.size → k ≠ blk → W.heap[k]? = w.heap[k]?
theorem Kept.of (blk : Nat) {w W : World} (h : Below w.heap.size w W) : Kept blk w W := ⟨h.os, h.tape, h.output, h.size, fun k hk _ => h.block k hk⟩
theorem Kept.below {blk B : Nat} {w W : World} (h : Kept blk w W) (h1 : B ≤ blk) (h2 : B ≤ w.heap.size) : Below B w W := ⟨h.os, h.tape, h.output, h.size, fun k hk => h.all k (by omega) (by omega)⟩
theorem Kept.step {blk : Nat} {w W W' : World} (h : Kept blk w W) (g : Below W.heap.size W W') : Kept blk w W' :=
  ⟨g.os.trans h.os, g.tape.trans h.tape, g.output.trans h.output, Nat.le_trans h.size g.size, fun k hk hn => (g.block k (Nat.lt_of_lt_of_le hk h.size)).trans (h.all k hk hn)⟩
theorem Kept.trans {blk : Nat} {w W W' : World} (h : Kept blk w W) (g : Kept blk W W') : Kept blk w W' :=
  ⟨g.os.trans h.os, g.tape.trans h.tape, g.output.trans h.output, Nat.le_trans h.size g.size, fun k hk hn => (g.all k (Nat.lt_of_lt_of_le hk h.size) hn).trans (h.all k hk hn)⟩
theorem Kept.set {blk : Nat} {w W : World} (h : Kept blk w W) (j : Nat) (v : Value) : Kept blk w (W.setCell ⟨blk, j, none⟩ v) :=
  h.trans ⟨rfl, rfl, rfl, by simp [World.setCell], fun k _ hn => Below.heap_setCell _ _ _ _ hn⟩
theorem Kept.put {blk : Nat} {w W : World} (h : Kept blk w W) (off : Nat) (d : Array Str) : Kept blk w (putRow encStr W blk off d) :=
  h.trans ⟨rfl, rfl, rfl, by simp [putRow, mapBlock], fun k _ hn => by
    simp only [putRow, mapBlock, Array.getElem?_modify]
    rw [if_neg (fun e => hn e.symm)]⟩
theorem Kept.cell {blk : Nat} {w W : World} (h : Kept blk w W) {a : Addr} {v : Value} (hc : w.cell? a = some v) (hn : a.block ≠ blk) : W.cell? a = some v := by
  have h1 := h.all a.block (World.block_lt_of_cell? w a hc) hn
  rw [← hc]
  exact World.cell?_of_block h1
end Go.Proofs.Pw

namespace Go.Proofs.Pw
open Go.RowKit Go.Sort
open Go.Lib hiding intOf
theorem FaultAt.bare {A : Nat → Addr} {w : World} {c : Nat} : FaultAt A w (errV A c) (c, -1) := by
  by_cases h : c = 0
  · subst h; exact .inl ⟨rfl, rfl, rfl⟩
  · exact .inr (.inl ⟨h, rfl, rfl⟩)
theorem containsQ_calls (v : Value) (q : ByteArray) (l : List Str) (w : World) (h : StrsAt w v l) (hl : l.length ≤ 1000000) :
    Calls Tryz.prog 147 #[v, .string q] w fun e w' => e = .returned (.bool (decide (q.data.toList ∈ l))) ∧ w' = w := by
  obtain ⟨a, n, c, L, rfl, rfl, _, _, hc⟩ := h
  rw [lstF_length] at hl
  by_cases h0 : n = 0
  · subst h0
    refine (Tryz.slices_Contains_string_empty a c q w).mono ?_
    rintro e w' ⟨rfl, rfl⟩
    exact ⟨by rw [decide_eq_false (by simp [lstF])], rfl⟩
  · obtain ⟨b, o, rfl, _⟩ := hc 0 (by omega)
    have hzg : ∀ j, j < n → ((List.range n).map L)[j]? = some (L j) := fun j hj => by simp [hj]
    refine (Tryz.slices_Contains_string b o n c ((List.range n).map L) q w (by simp) (by omega) (fun j hj => by
      have hj' : j < n := by simpa using hj
      obtain ⟨b', o', e, h⟩ := hc j hj'
      injection e with e
      injection e with e1 e2 _
      rw [List.getD_eq_getElem?_getD, hzg j hj', e1, e2]
      exact h)).mono ?_
    rintro e w' ⟨rfl, rfl⟩
    refine ⟨?_, rfl⟩
    congr 2
    rw [Bool.eq_iff_iff, Lib.containsS_iff, decide_eq_true_iff, List.take_of_length_le (by simp), lstF_mem']
    constructor
    · intro hm
      obtain ⟨j, hj, e⟩ := List.mem_map.1 hm
      exact ⟨j, List.mem_range.1 hj, by rw [e]⟩
    · rintro ⟨j, hj, e⟩
      exact List.mem_map.2 ⟨j, List.mem_range.2 hj, bytes_eq.1 e⟩
end Go.Proofs.Pw

namespace Go.Proofs.Pw
open Go.RowKit Go.Sort
open Go.Lib hiding intOf
def sDot : ByteArray := ⟨#[46]⟩
def sX : ByteArray := ⟨#[120]⟩
def v020rc : ByteArray := ⟨#[118, 48, 46, 50, 46, 48, 45, 114, 99]⟩
def s3P (j : Nat) : ByteArray := if j < 2 then sA else sB
def s3V (j : Nat) : ByteArray := if j = 0 then v100 else if j = 1 then v110 else if j = 2 then v010 else v020rc
def s3R (j : Nat) : List Md := if j = 1 then [(sB.data.toList, v010.data.toList)] else []
def s3K (j : Nat) : List Str := if j = 0 then [sDot.data.toList, sX.data.toList] else if j = 1 then [sDot.data.toList] else []
def s3L : List En := enF 4 s3P s3V s3R s3K smB
theorem s3_short : ShortI s3L := by
  refine ⟨by decide +kernel, ?_, ?_, ?_⟩
  · decide +kernel
  · intro e he
    have : ∀ e ∈ s3L, e.reqs.length ≤ 1000000 ∧ ∀ m ∈ e.reqs, m.1.length ≤ 1000000 ∧ m.2.length ≤ 1000000 := by decide +kernel
    exact this e he
  · decide +kernel
def s3Rv (N j : Nat) : Value := if j = 1 then .slice (some ⟨N + 1, 0, none⟩) 1 1 else .slice none 0 0
def s3Kv (N j : Nat) : Value := if j = 0 then .slice (some ⟨N, 0, none⟩) 2 2 else if j = 1 then .slice (some ⟨N + 2, 0, none⟩) 1 1 else .slice none 0 0
def s3W0 (w : World) : World := ((w.alloc (.cells #[.string sDot, .string sX] 9)).alloc (.cells #[.string sB, .string v010] 29)).alloc (.cells #[.string sDot] 9)
def s3C (N : Nat) : List Value := [.string sA, .string v100, .slice none 0 0, .slice (some ⟨N, 0, none⟩) 2 2, .bool false, .string sA, .string v110, .slice (some ⟨N + 1, 0, none⟩) 1 1, .slice (some ⟨N + 2, 0, none⟩) 1 1, .bool false, .string sB, .string v010, .slice none 0 0, .slice none 0 0, .bool false, .string sB, .string v020rc, .slice none 0 0, .slice none 0 0, .bool false]
def s3W (w : World) : World := (s3W0 w).alloc (.cells (s3C w.heap.size).toArray 37)
theorem s3_size (w : World) : (s3W0 w).heap.size = w.heap.size + 3 := by unfold s3W0; simp
theorem s3W_below (w : World) : Below w.heap.size w (s3W w) := below_step (below_step (below_step (below_alloc w _) (below_alloc _ _)) (below_alloc _ _)) (below_alloc _ _)
theorem s3W_in (w : World) : EntsIn (s3W w) (some ⟨w.heap.size + 3, 0, none⟩) 4 4 s3P s3V s3R s3K smB (s3Rv w.heap.size) (s3Kv w.heap.size) := by
  have hc : ∀ (c : Nat) (u : Value), (s3C w.heap.size)[c]? = some u → (s3W w).cell? ⟨w.heap.size + 3, c, none⟩ = some u := fun c u h => new_cell (s3W0 w) (s3C w.heap.size) 37 (s3_size w) h
  have hb3 : Below (s3W0 w).heap.size (s3W0 w) (s3W w) := below_alloc _ _
  have hb2 := below_step (below_alloc ((w.alloc (.cells #[.string sDot, .string sX] 9)).alloc (.cells #[.string sB, .string v010] 29)) (.cells #[.string sDot] 9)) hb3
  have hb1 := below_step (below_alloc (w.alloc (.cells #[.string sDot, .string sX] 9)) (.cells #[.string sB, .string v010] 29)) hb2
  refine ⟨Nat.le_refl _, by decide, fun j hj => ⟨w.heap.size + 3, 0, rfl, ?_⟩, fun j hj => ?_, fun j hj => ?_⟩
  · match j, hj with
    | 0, _ => exact ⟨hc _ _ rfl, hc _ _ rfl, hc _ _ rfl, hc _ _ rfl, hc _ _ rfl⟩
    | 1, _ => exact ⟨hc _ _ rfl, hc _ _ rfl, hc _ _ rfl, hc _ _ rfl, hc _ _ rfl⟩
    | 2, _ => exact ⟨hc _ _ rfl, hc _ _ rfl, hc _ _ rfl, hc _ _ rfl, hc _ _ rfl⟩
    | 3, _ => exact ⟨hc _ _ rfl, hc _ _ rfl, hc _ _ rfl, hc _ _ rfl, hc _ _ rfl⟩
  · match j, hj with
    | 0, _ => exact ModsAt.nil _
    | 2, _ => exact ModsAt.nil _
    | 3, _ => exact ModsAt.nil _
    | 1, _ =>
      have h0 := Below.cell_some hb2 (new_cell (w.alloc (.cells #[.string sDot, .string sX] 9)) [.string sB, .string v010] 29 (World.size_alloc _ _) (c := 0) rfl)
      have h1 := Below.cell_some hb2 (new_cell (w.alloc (.cells #[.string sDot, .string sX] 9)) [.string sB, .string v010] 29 (World.size_alloc _ _) (c := 1) rfl)
      refine ⟨some ⟨w.heap.size + 1, 0, none⟩, 1, 1, fun _ => sB, fun _ => v010, rfl, rfl, Nat.le_refl _, by decide, fun i hi => ?_⟩
      obtain rfl : i = 0 := by omega
      exact ⟨w.heap.size + 1, 0, rfl, h0, h1⟩
  · match j, hj with
    | 2, _ => exact StrsAt.nil _
    | 3, _ => exact StrsAt.nil _
    | 0, _ =>
      have h0 := Below.cell_some hb1 (new_cell w [.string sDot, .string sX] 9 rfl (c := 0) rfl)
      have h1 := Below.cell_some hb1 (new_cell w [.string sDot, .string sX] 9 rfl (c := 1) rfl)
      refine ⟨some ⟨w.heap.size, 0, none⟩, 2, 2, fun i => if i = 0 then sDot else sX, rfl, rfl, Nat.le_refl _, by decide, fun i hi => ?_⟩
      have hi2 : i = 0 ∨ i = 1 := by omega
      rcases hi2 with rfl | rfl
      · exact ⟨w.heap.size, 0, rfl, h0⟩
      · exact ⟨w.heap.size, 0, rfl, h1⟩
    | 1, _ =>
      have h0 := Below.cell_some hb3 (new_cell ((w.alloc (.cells #[.string sDot, .string sX] 9)).alloc (.cells #[.string sB, .string v010] 29)) [.string sDot] 9 (N := w.heap.size + 2) (by simp) (c := 0) rfl)
      refine ⟨some ⟨w.heap.size + 2, 0, none⟩, 1, 1, fun _ => sDot, rfl, rfl, Nat.le_refl _, by decide, fun i hi => ?_⟩
      obtain rfl : i = 0 := by omega
      exact ⟨w.heap.size + 2, 0, rfl, h0⟩
set_option maxHeartbeats 2000000 in
set_option maxRecDepth 100000 in
theorem small3_calls (w : World) :
    Calls Tryz.prog 50 #[] w fun e w' => e = .returned (.slice (some ⟨w.heap.size + 3, 0, none⟩) 4 4) ∧ w' = s3W w := by
  go_enter Tryz.func50, Tryz.ntmps50
  go_wp2_with fail
  go_ret
  exact ⟨rfl, rfl⟩
end Go.Proofs.Pw
