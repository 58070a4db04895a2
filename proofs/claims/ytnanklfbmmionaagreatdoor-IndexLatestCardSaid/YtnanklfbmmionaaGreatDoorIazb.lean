/- Ia: walks and plain laws, joined: OpenE Law Facts MvsMath MvsMath2 LeastMath UpMath DnBack RoundQ DnMath MarksMath DnBadMath Marks DnBad1 MvsUnder DnAbove DnCheck DnBad Box DnLower SortMO AppM SlModK SlIns SlDelM SlCat. Conditions: at each theorem. -/
import Derived.Test.YtnanklfbmmionaaGreatDoorIaza
import Derived.Test.YtnanklfbmmionaaGreatDoorIag
import Derived.ChangeArms
import Derived.ProofKit
import Derived.LaidMore
import Derived.Lay
import Derived.OpenShut
import Derived.SevenTiedAt
import Derived.Stop.Joined
import Derived.HandedShaped
import Derived.Test.YtnanklfbmmionaaGreatDoorRows
import Derived.Test.YtnanklfbmmionaaGreatDoorIai
import Derived.Test.YtnanklfbmmionaaGreatDoorIam
import Derived.RangeFuncNested
import Derived.RangeFuncBound
import Derived.RangeFuncCalls
import Derived.RangeFuncLeaves
import Derived.RangeFuncBox
import Derived.RangeFuncMany
import Derived.RangeFuncKeeps
import Derived.Shelf.Abstract
import Derived.Shelf.RegionOpen
import Derived.WalkKit
import Derived.OwnWalkIn
import Derived.TacticsInMore
import Derived.LoopNIn
import Derived.LoopIn
import Derived.Sort.QuietThIn
import Derived.Sort.BigQuietIn
import Derived.Test.YtnanklfbmmionaaGreatDoorIay
import Derived.Deep.OwnRows
import Derived.Test.YtnanklfbmmionaaGreatDoorIax
import Derived.Test.YtnanklfbmmionaaGreatDoorIar
import Derived.Test.YtnanklfbmmionaaGreatDoorIaj
import Derived.Test.YtnanklfbmmionaaGreatDoorIak
import Derived.Test.YtnanklfbmmionaaGreatDoorIal
import Derived.Laws.CopyRow
import Derived.Laws.CopyOwn
import Derived.Lib.Overlaps
import Derived.Lib.AppendZerosOnto
import Derived.Lib.SliceRun
import Derived.Deep.RegionLaw
import Derived.Deep.AppendLies
import Derived.Shelf.RegionOpenPlain
import Derived.Shelf.Spec.SlicesGrow

namespace Go.Proofs.Pw
open Go.RowKit Go.ChangeShapes Go.WideShapes
set_option maxRecDepth 100000 in
theorem strsCells {H : Type} {enc : TypeId × Value → H} {W : World} {fuel : Nat} {cs : List Value} {x : DataW H × List MemPlace}
    (h : DataW.trod enc Tryz.prog W 0 (fun _ => true) true fuel 35 cs = some x) : ∃ a n cap l, cs = [.slice a n cap] ∧ StrsAt W (.slice a n cap) l := by
  rcases ChangeShapes.open_strings Tryz.underlying35 Tryz.underlying9 (by kernel_rfl) h with ⟨hcs, _⟩ | ⟨a, len', cap', ss, hcs, _, hl, hm, hz, _, hcell, _⟩
  · exact ⟨none, 0, 0, [], hcs, StrsAt.nil W⟩
  · exact ⟨_, _, _, _, hcs, strsAt_open hl hm (by rw [hz, if_pos rfl]; exact hl) hcell⟩
set_option maxRecDepth 100000 in
theorem entTrod {H : Type} {enc : TypeId × Value → H} {W : World} {fuel : Nat} {cs : List Value} {x : DataW H × List MemPlace}
    (h : DataW.trod enc Tryz.prog W 0 (fun _ => true) true fuel 37 cs = some x) : ∃ (p v : ByteArray) (rv kv : Value) (R : List Md) (K : List Str) (b : Bool), cs = [.string p, .string v, rv, kv, .bool b] ∧ ModsAt W rv R ∧ StrsAt W kv K := by
  obtain ⟨xs, n, _, _, hl, hx, hf⟩ := DataW.trod_struct Tryz.underlying37 h
  have hc : Tryz.prog.cellsOf 37 = 5 := by kernel_rfl
  have hd : Tryz.prog.cellsOf 29 = 2 := by kernel_rfl
  have hm : Tryz.prog.cellsOf 23 = 1 := by kernel_rfl
  have hk : Tryz.prog.cellsOf 35 = 1 := by kernel_rfl
  have hb : Tryz.prog.cellsOf 4 = 1 := by kernel_rfl
  have h0 : DataW.trod enc Tryz.prog W 0 (fun _ => true) true n 29 ((cs.drop 0).take (Tryz.prog.cellsOf 29)) = xs[0]? := hf 0 _ rfl
  have h1 : DataW.trod enc Tryz.prog W 0 (fun _ => true) true n 23 ((cs.drop 2).take (Tryz.prog.cellsOf 23)) = xs[1]? := hf 1 _ rfl
  have h2 : DataW.trod enc Tryz.prog W 0 (fun _ => true) true n 35 ((cs.drop 3).take (Tryz.prog.cellsOf 35)) = xs[2]? := hf 2 _ rfl
  have h3 : DataW.trod enc Tryz.prog W 0 (fun _ => true) true n 4 ((cs.drop 4).take (Tryz.prog.cellsOf 4)) = xs[3]? := hf 3 _ rfl
  match cs, hl.trans hc with
  | [c0, c1, c2, c3, c4], _ =>
    rw [hd] at h0
    rw [hm] at h1
    rw [hk] at h2
    rw [hb] at h3
    match xs, hx with
    | [x0, x1, x2, x3], _ =>
      obtain ⟨p, v, e0⟩ := mdTrod h0
      obtain ⟨a1, n1, q1, R, e1, hR⟩ := modsCells h1
      obtain ⟨a2, n2, q2, K, e2, hK⟩ := strsCells h2
      obtain ⟨b, e3, _⟩ := DataW.trod_bool Tryz.underlying4 h3
      simp at e0 e1 e2 e3
      exact ⟨p, v, _, _, R, K, b, by rw [e0.1, e0.2, e1, e2, e3], hR, hK⟩
set_option maxRecDepth 100000 in
theorem entsCells {H : Type} {enc : TypeId × Value → H} {W : World} {fuel : Nat} {cs : List Value} {x : DataW H × List MemPlace}
    (h : DataW.trod enc Tryz.prog W 0 (fun _ => true) true fuel 22 cs = some x) : ∃ a n cap l, cs = [.slice a n cap] ∧ EntsAt W (.slice a n cap) l := by
  rcases Go.Deep.open_slice Tryz.underlying22 h with ⟨rfl, _⟩ | ⟨a, len, cap, m, n, D, Pl, rfl, _, hl, hm, hmm, _, hi⟩
  · exact ⟨none, 0, 0, [], rfl, EntsAt.nil W⟩
  · have hc : Tryz.prog.cellsOf 37 = 5 := by kernel_rfl
    rw [if_pos rfl] at hmm
    have key : ∀ i, i < len → ∃ x : ByteArray × ByteArray × Value × Value × List Md × List Str × Bool, (W.cell? (a.add (i * 5)) = some (.string x.1) ∧ W.cell? (a.add (i * 5 + 1)) = some (.string x.2.1) ∧ W.cell? (a.add (i * 5 + 2)) = some x.2.2.1 ∧ W.cell? (a.add (i * 5 + 3)) = some x.2.2.2.1 ∧ W.cell? (a.add (i * 5 + 4)) = some (.bool x.2.2.2.2.2.2)) ∧ ModsAt W x.2.2.1 x.2.2.2.2.1 ∧ StrsAt W x.2.2.2.1 x.2.2.2.2.2.1 := fun i h => by
      obtain ⟨cs', h1, h2⟩ := hi i (by omega)
      rw [hc] at h1
      obtain ⟨p, v, rv, kv, R, K, b, rfl, hR, hK⟩ := entTrod h2
      obtain ⟨_, _, hat⟩ := World.cells?_some h1
      have a0 := hat 0 (by decide)
      have a1 := hat 1 (by decide)
      have a2 := hat 2 (by decide)
      have a3 := hat 3 (by decide)
      have a4 := hat 4 (by decide)
      rw [Go.Deep.add_add] at a0 a1 a2 a3 a4
      exact ⟨(p, v, rv, kv, R, K, b), ⟨a0, a1, a2, a3, a4⟩, hR, hK⟩
    obtain ⟨F, hF⟩ : ∃ F : Nat → ByteArray × ByteArray × Value × Value × List Md × List Str × Bool, ∀ i, i < len → (W.cell? (a.add (i * 5)) = some (.string (F i).1) ∧ W.cell? (a.add (i * 5 + 1)) = some (.string (F i).2.1) ∧ W.cell? (a.add (i * 5 + 2)) = some (F i).2.2.1 ∧ W.cell? (a.add (i * 5 + 3)) = some (F i).2.2.2.1 ∧ W.cell? (a.add (i * 5 + 4)) = some (.bool (F i).2.2.2.2.2.2)) ∧ ModsAt W (F i).2.2.1 (F i).2.2.2.2.1 ∧ StrsAt W (F i).2.2.2.1 (F i).2.2.2.2.2.1 := by
      classical
      refine ⟨fun i => if h : i < len then (key i h).choose else (ByteArray.empty, ByteArray.empty, .nilIface, .nilIface, [], [], false), fun i hi => ?_⟩
      simp only [dif_pos hi]
      exact (key i hi).choose_spec
    refine ⟨some a, len, cap, enF len (fun i => (F i).1) (fun i => (F i).2.1) (fun i => (F i).2.2.2.2.1) (fun i => (F i).2.2.2.2.2.1) (fun i => (F i).2.2.2.2.2.2), rfl, some a, len, cap, _, _, _, _, _, fun i => (F i).2.2.1, fun i => (F i).2.2.2.1, rfl, rfl, hl, by unfold maxLen at hm; exact hm, fun j hj => ?_, fun j hj => (hF j hj).2.1, fun j hj => (hF j hj).2.2⟩
    have hs : a.spot = none := spot_none (a := a) (hF 0 (by omega)).1.1
    obtain ⟨b, o, s⟩ := a
    obtain rfl : s = none := hs
    obtain ⟨c0, c1, c2, c3, c4⟩ := (hF j hj).1
    rw [add_off] at c0 c1 c2 c3 c4
    exact ⟨b, o, rfl, c0, by rw [Nat.add_assoc]; exact c1, by rw [Nat.add_assoc]; exact c2, by rw [Nat.add_assoc]; exact c3, by rw [Nat.add_assoc]; exact c4⟩
set_option maxRecDepth 100000 in
theorem entsOpen {H : Type} {enc : TypeId × Value → H} {W : World} {base : Nat} {v : Value} {d : DataW H} {p : List MemPlace} (hv : Value.okWide Tryz.prog W .any base 22 v)
    (h : DataW.Trod enc Tryz.prog W 0 (fun _ => true) true 22 v d p) : ∃ l, EntsAt W v l := by
  obtain ⟨a0, len, cap, rfl⟩ := okWide_slice Tryz.underlying22 hv
  obtain ⟨fuel, hf⟩ := h
  obtain ⟨a, n, c, l, e, hM⟩ := entsCells hf
  simp [Value.cells] at e
  obtain ⟨rfl, rfl, rfl⟩ := e
  exact ⟨l, hM⟩
end Go.Proofs.Pw

namespace Go.Proofs.Pw
open Go.RowKit
theorem trodAll_below {H : Type} {enc : TypeId × Value → H} {P : Program} (hl : laidOutB P = true) {W W' : World} (hb : Below W.heap.size W W') :
    ∀ (ts : List TypeId) (vs : List Value) (ds : List (DataW H)) (ps : List MemPlace), (∀ t ∈ ts, P.readableRec t = true ∧ t < P.types.size) → (∀ x ∈ ps, x.block < W.heap.size) →
      DataW.TrodAll enc P W 0 (fun _ => true) true ts vs ds ps → DataW.TrodAll enc P W' 0 (fun b => decide (b < W.heap.size)) true ts vs ds ps
  | [], [], [], _, _, _, h => h
  | t :: ts, v :: vs, d :: ds, ps, hr, hlt, h => by
    obtain ⟨p, q, h1, h2, rfl⟩ := h
    exact ⟨p, q, Below.trod hl (hr t (by simp)).1 (hr t (by simp)).2 h1 hb (fun x hx => hlt x (by simp [hx])),
      trodAll_below hl hb ts vs ds q (fun u hu => hr u (by simp [hu])) (fun x hx => hlt x (by simp [hx])) h2, rfl⟩
  | [], _ :: _, _, _, _, _, h => h.elim
  | [], [], _ :: _, _, _, _, h => h.elim
  | _ :: _, [], _, _, _, _, h => h.elim
  | _ :: _, _ :: _, [], _, _, _, h => h.elim
theorem law_post {H : Type} {enc : TypeId × Value → H} {P : Program} {fn : Func} {s : ChangeSpec} {tb : TypeId} {W W' : World} {args : Array Value} {ds gs : List (DataW H)} {before : List MemPlace}
    (hl : laidOutB P = true) (hr : (fn.params.toList.all fun t => P.readableRec t && decide (t < P.types.size)) = true) (hres : fn.resultTypes = #[tb]) (htb : P.underlying tb = some .bool)
    (hvars : s.vars = []) (hspec : s.fn H (ds ++ gs) = { results := [.lit (.bool true)], args := ds })
    (hW : DataW.Whole enc P fn.params.toList s.vars false W args.toList ds gs before) (hb : Below W.heap.size W W') :
    s.post enc P fn false true false false W args (.bool true) W' := by
  have hW' := hW
  have hlt := hW.lt
  obtain ⟨p, q, hA, hV, rfl, hfz, _⟩ := hW
  have hlp : ∀ x ∈ p, x.block < W.heap.size := fun x hx => hlt x (by simp [hx])
  rw [List.all_eq_true] at hr
  refine ⟨ds, gs, _, [], p, [], hW', ?_, ?_, ?_, hb.frame _, fun h => by cases h⟩
  · rw [hspec, hres]
    exact ChangeShapes.trodAll_mk1 (shut_bool htb true)
  · rw [hspec]
    exact trodAll_below hl hb _ _ _ _ (fun t ht => by simpa using hr t ht) hlp hA
  · rw [hspec, hvars]
    rfl
theorem law_lifted {H : Type} {enc : TypeId × Value → H} {C : Checked} {os : Os} {f : FuncId} {fn : Func} {s : ChangeSpec} {tb : TypeId} {laid : List (String × DataW Unit)}
    (own : ownKnob C.prog.godebug = none) (started : os.Started) (noInit : C.prog.inits.idxOf? f = none) (hfn : C.prog.funcs[f]? = some fn)
    (hl : laidOutB C.prog = true) (hr : (fn.params.toList.all fun t => C.prog.readableRec t && decide (t < C.prog.types.size)) = true) (hres : fn.resultTypes = #[tb]) (htb : C.prog.underlying tb = some .bool)
    (hvars : s.vars = [])
    (witness : ∃ (w : World) (tape : Tape) (i : Input), w.os = os ∧ (w.forCall tape i).Shaped C.prog ∧ i.vars = [] ∧ Input.okWide C.prog (w.forCall tape i) .any w.heap.size f i ∧
      ((s.pre enc C.prog fn [] false (w.forCall tape i).memory i.args ∧ laidMetH C.prog laid (w.forCall tape i).memory) ∧ sizedMet enc C.prog fn (OpenSpec.ofChange s) false (w.forCall tape i).memory i.args) ∧ ({} : Assume).holds C.prog (lone (Frame.enter C.prog f i.args .normal) [] (w.forCall tape i)))
    (contract : ∀ (W : World) (base : Nat) (args : Array Value) (ds gs : List (DataW H)) (p q : List MemPlace),
      (∀ (j : Nat) t v, fn.params[j]? = some t → args[j]? = some v → Value.okWide C.prog W .any base t v) →
      DataW.TrodAll enc C.prog W 0 (fun _ => true) true fn.params.toList args.toList ds p → DataW.TrodVars enc C.prog W (fun _ => true) s.vars gs q →
      (∀ x ∈ p, x.block < W.heap.size) →
      (DataW.weightsEach C.prog (fn.params.toList ++ s.plain.varTypes C.prog) (ds ++ gs)).all (· ≤ reachBytes) = true → laidMetH C.prog laid W → W.ShapedOpen C.prog →
      s.fn H (ds ++ gs) = { results := [.lit (.bool true)], args := ds } ∧ Calls C.prog f args W fun e W' => e = .returned (.bool true) ∧ Below W.heap.size W W') :
    ReturnsInHanded {} C os f .any (fun w args => (s.pre enc C.prog fn [] false w args ∧ laidMetH C.prog laid w) ∧ sizedMet enc C.prog fn (OpenSpec.ofChange s) false w args) (s.post enc C.prog fn false true false false) := by
  refine returnsInHanded_of_calls own started noInit witness ?_
  intro w tape i _ hsh _ hok hpre _
  obtain ⟨_, _, _, fn', hfn', _, _, _, _, hval⟩ := hok
  obtain rfl : fn' = fn := Option.some.inj (hfn'.symm.trans hfn)
  obtain ⟨⟨⟨ds, gs, before, hw, _⟩, hx⟩, hz⟩ := hpre
  have hw' := DataW.Whole.of_heap (w' := w.forCall tape i) (by rfl) hw
  have hlt := hw'.lt
  obtain ⟨p, q, hA, hV, hpq, _, _⟩ := id hw'
  obtain ⟨hspec, hcall⟩ := contract (w.forCall tape i) w.heap.size i.args ds gs p q hval hA hV (fun x hx => hlt x (by rw [hpq]; simp [hx])) (hz.weights hw) (hx.of_heap (by rfl)) hsh
  refine hcall.mono fun e W' ⟨he, hb⟩ => ?_
  subst he
  exact ChangeSpec.post_blind (law_post hl hr hres htb hvars hspec hw' hb)
end Go.Proofs.Pw

namespace Go.Proofs.Pw
open Go.RowKit
theorem Tryz.factLaid : laidOutB Tryz.prog = true := by kernel_rfl
theorem Tryz.factMaps : mapsRowed Tryz.prog = true := by kernel_rfl
end Go.Proofs.Pw

namespace Go.Proofs.Pw
open Go.Lib hiding intOf
def grow1 (out : List Md) (m : Md) : List Md := if out.getLast?.map (·.1) = some m.1 then out.dropLast ++ [m] else out ++ [m]
def greatest (l : List Md) : List Md := l.foldl grow1 []
def Climbs (l : List Md) : Prop := l.Pairwise fun a b => modCmp a b ≤ 0
theorem climbs_of_rises {l : List Md} (h : Rises modCmp l) : Climbs l := h.imp fun {a b} h => by omega
theorem modCmp_path {a b : Md} (h : modCmp a b ≤ 0) : compareBytes a.1 b.1 < 0 ∨ (a.1 = b.1 ∧ verCmp a.2 b.2 ≤ 0) := by
  unfold modCmp at h
  rw [orI_le] at h
  rcases h with h | ⟨h1, h2⟩
  · exact .inl h
  · exact .inr ⟨compareBytes_zero h1, h2⟩
theorem path_self (p : Str) : ¬ compareBytes p p < 0 := by rw [compareBytes_self]; decide
theorem last_some {α : Type} {l : List α} {y : α} (h : l.getLast? = some y) : ∃ hne : l ≠ [], l.getLast hne = y := by
  have hne : l ≠ [] := fun e => by rw [e] at h; cases h
  rw [List.getLast?_eq_some_getLast hne] at h
  exact ⟨hne, Option.some.inj h⟩
structure Great (l out : List Md) : Prop where
  rise : out.Pairwise fun a b => compareBytes a.1 b.1 < 0
  sub : ∀ m ∈ out, m ∈ l
  over : ∀ m ∈ l, ∃ x ∈ out, x.1 = m.1 ∧ verCmp m.2 x.2 ≤ 0
theorem great_nil : Great [] [] := ⟨by simp, by simp, by simp⟩
theorem great_snoc {l out : List Md} {m : Md} (h : Great l out) (hc : Climbs (l ++ [m])) : Great (l ++ [m]) (grow1 out m) := by
  have hle : ∀ x ∈ l, modCmp x m ≤ 0 := fun x hx => (List.pairwise_append.1 hc).2.2 x hx m (by simp)
  have hself : verCmp m.2 m.2 ≤ 0 := by rw [verCmp_ord.self]; decide
  unfold grow1
  by_cases hl : out.getLast?.map (·.1) = some m.1
  · rw [if_pos hl]
    obtain ⟨y, hy, e⟩ : ∃ y, out.getLast? = some y ∧ y.1 = m.1 := by
      cases h1 : out.getLast? with
      | none => rw [h1] at hl; cases hl
      | some y => rw [h1] at hl; exact ⟨y, rfl, by simpa using hl⟩
    obtain ⟨hne, hlast⟩ := last_some hy
    have hout : out = out.dropLast ++ [y] := by rw [← hlast]; exact (List.dropLast_concat_getLast hne).symm
    have hp := h.rise
    rw [hout, List.pairwise_append] at hp
    refine ⟨?_, fun x hx => ?_, fun x hx => ?_⟩
    · rw [List.pairwise_append]
      refine ⟨hp.1, by simp, fun a ha b hb => ?_⟩
      simp at hb
      subst hb
      rw [← e]
      exact hp.2.2 a ha y (by simp)
    · rcases List.mem_append.1 hx with h1 | h1
      · exact List.mem_append.2 (.inl (h.sub x (List.dropLast_subset _ h1)))
      · exact List.mem_append.2 (.inr h1)
    · rcases List.mem_append.1 hx with h1 | h1
      · obtain ⟨z, hz, e1, e2⟩ := h.over x h1
        rw [hout] at hz
        rcases List.mem_append.1 hz with h2 | h2
        · exact ⟨z, List.mem_append.2 (.inl h2), e1, e2⟩
        · simp at h2
          subst h2
          refine ⟨m, by simp, by rw [← e, e1], ?_⟩
          rcases modCmp_path (hle x h1) with h3 | h3
          · rw [← e1, e] at h3
            exact absurd h3 (path_self _)
          · exact h3.2
      · simp at h1
        subst h1
        exact ⟨x, by simp, rfl, hself⟩
  · rw [if_neg hl]
    have hlt : ∀ a ∈ out, compareBytes a.1 m.1 < 0 := by
      intro a ha
      rcases modCmp_path (hle a (h.sub a ha)) with h1 | ⟨h1, _⟩
      · exact h1
      · exfalso
        obtain ⟨y, hy⟩ : ∃ y, out.getLast? = some y := by
          cases h2 : out.getLast? with
          | none => rw [List.getLast?_eq_none_iff] at h2; subst h2; simp at ha
          | some y => exact ⟨y, rfl⟩
        obtain ⟨hne, hlast⟩ := last_some hy
        have hout : out = out.dropLast ++ [y] := by rw [← hlast]; exact (List.dropLast_concat_getLast hne).symm
        have hym : y.1 ≠ m.1 := fun e => hl (by rw [hy]; simp [e])
        have hyl : y ∈ l := h.sub y (by rw [hout]; simp)
        rw [hout] at ha
        rcases List.mem_append.1 ha with h2 | h2
        · have hp := h.rise
          rw [hout, List.pairwise_append] at hp
          have h3 := hp.2.2 a h2 y (by simp)
          rcases modCmp_path (hle y hyl) with h4 | h4
          · rw [h1] at h3
            have := (compareBytes_ord.anti _ _).1 h3
            omega
          · exact hym h4.1
        · simp at h2
          subst h2
          exact hym h1
    refine ⟨?_, fun x hx => ?_, fun x hx => ?_⟩
    · rw [List.pairwise_append]
      exact ⟨h.rise, by simp, fun a ha b hb => by simp at hb; subst hb; exact hlt a ha⟩
    · rcases List.mem_append.1 hx with h1 | h1
      · exact List.mem_append.2 (.inl (h.sub x h1))
      · exact List.mem_append.2 (.inr h1)
    · rcases List.mem_append.1 hx with h1 | h1
      · obtain ⟨z, hz, e1, e2⟩ := h.over x h1
        exact ⟨z, List.mem_append.2 (.inl hz), e1, e2⟩
      · simp at h1
        subst h1
        exact ⟨x, by simp, rfl, hself⟩
theorem great_fold : ∀ (r l out : List Md), Great l out → Climbs (l ++ r) → Great (l ++ r) (r.foldl grow1 out)
  | [], l, out, h, _ => by simpa using h
  | m :: r, l, out, h, hc => by
    have e : l ++ m :: r = (l ++ [m]) ++ r := by simp
    rw [e] at hc ⊢
    exact great_fold r (l ++ [m]) (grow1 out m) (great_snoc h (List.pairwise_append.1 hc).1) hc
theorem great_of {l : List Md} (h : Climbs l) : Great l (greatest l) := great_fold l [] [] great_nil (by simpa using h)
theorem Great.one {l out : List Md} (h : Great l out) {a b : Md} (ha : a ∈ out) (hb : b ∈ out) (e : a.1 = b.1) : a = b := RiseP.unique h.rise ha hb e
theorem Great.mem {l out : List Md} (h : Great l out) (hr : ∀ m ∈ l, mdErr m = 0) (m : Md) : m ∈ out ↔ m ∈ l ∧ ∀ x ∈ l, x.1 = m.1 → verCmp x.2 m.2 ≤ 0 := by
  constructor
  · intro hm
    refine ⟨h.sub m hm, fun x hx e => ?_⟩
    obtain ⟨z, hz, e1, e2⟩ := h.over x hx
    rw [h.one hz hm (e1.trans e)] at e2
    exact e2
  · rintro ⟨hm, h1⟩
    obtain ⟨z, hz, e1, e2⟩ := h.over m hm
    have h2 := h1 z (h.sub z hz) e1
    have h3 : verCmp m.2 z.2 = 0 := by
      have := verCmp_ord.anti z.2 m.2
      have := verCmp_ord.anti m.2 z.2
      omega
    have : m = z := modCmp_zero (hr m hm) (hr z (h.sub z hz)) (by unfold modCmp; rw [orI_eq, e1, compareBytes_self]; exact ⟨rfl, h3⟩)
    rw [this]; exact hz
noncomputable def buildL (l : List En) (roots : List Md) : List Md := greatest (reachL l roots)
theorem RightG.great {l : List En} {roots : List Md} (h : RightG l roots) : Great (reachL l roots) (buildL l roots) := great_of (climbs_of_rises (reachL_rises h.idx roots))
def hasB (sel : List Md) (m : Md) : Bool := decide (0 ≤ findI (hasP m.1) sel) && !verLess (mdAt sel (findI (hasP m.1) sel).toNat).2 m.2
def underB (a b : List Md) : Bool := a.all (hasB b)
theorem hasB_iff {sel : List Md} {m : Md} : hasB sel m = true ↔ ∃ k : Nat, findI (hasP m.1) sel = k ∧ verLess (mdAt sel k).2 m.2 = false := by
  unfold hasB
  rw [Bool.and_eq_true, decide_eq_true_iff]
  constructor
  · rintro ⟨h1, h2⟩
    exact ⟨(findI (hasP m.1) sel).toNat, by omega, by simpa using h2⟩
  · rintro ⟨k, h1, h2⟩
    rw [h1]
    exact ⟨by omega, by simpa using h2⟩
theorem hasB_rise {sel : List Md} (h : RiseP sel) {m : Md} : hasB sel m = true ↔ ∃ x ∈ sel, x.1 = m.1 ∧ verLess x.2 m.2 = false := by
  rw [hasB_iff]
  constructor
  · rintro ⟨k, h1, h2⟩
    obtain ⟨x, hx, hp⟩ := findI_spec h1
    have hl := (List.getElem?_eq_some_iff.1 hx).1
    rw [mdAt_get hl] at hx
    rw [Option.some.inj hx] at h2
    exact ⟨x, by rw [← Option.some.inj hx]; exact mdAt_mem hl, of_decide_eq_true hp, h2⟩
  · rintro ⟨x, hx, e, h2⟩
    have h0 : ¬ findI (hasP m.1) sel < 0 := fun hn => by
      have := findI_eq_none.1 hn x hx
      unfold hasP at this
      rw [decide_eq_false_iff_not] at this
      exact this e
    refine ⟨(findI (hasP m.1) sel).toNat, by omega, ?_⟩
    obtain ⟨y, hy, hp⟩ := findI_spec (show findI (hasP m.1) sel = ((findI (hasP m.1) sel).toNat : Nat) by omega)
    have hl := (List.getElem?_eq_some_iff.1 hy).1
    have hym := List.mem_of_getElem? hy
    rw [mdAt_get hl] at hy
    rw [Option.some.inj hy, h.unique hym hx ((of_decide_eq_true hp).trans e.symm)]
    exact h2
end Go.Proofs.Pw

namespace Go.Proofs.Pw
open Go.Lib hiding intOf
theorem verLess_of_le {a b : Str} (h : verCmp b a ≤ 0) : verLess a b = false := by
  unfold verLess
  refine decide_eq_false (fun h1 => ?_)
  have := (verCmp_ord.anti a b).1 h1.2.2
  omega
theorem Great.under {l out : List Md} (h : Great l out) : underB l out = true := by
  unfold underB
  rw [List.all_eq_true]
  intro m hm
  obtain ⟨x, hx, e1, e2⟩ := h.over m hm
  rw [hasB_rise h.rise]
  exact ⟨x, hx, e1, verLess_of_le e2⟩
theorem le_trans3 {a b c : Str} (h1 : verCmp a b ≤ 0) (h2 : verCmp b c ≤ 0) : verCmp a c ≤ 0 := verCmp_ord.tr a b c h1 h2
theorem build_over {l : List En} {roots : List Md} (h : RightG l roots) {m : Md} (hm : Reached l roots m) : ∃ x ∈ buildL l roots, x.1 = m.1 ∧ verCmp m.2 x.2 ≤ 0 := h.great.over m (h.mem.2 hm)
theorem RightG.sub {l : List En} {A B : List Md} (hB : RightG l B) (h : ∀ m ∈ A, Reached l B m) : RightG l A := ⟨hB.idx, fun m hm => hB.entry (h m hm)⟩
end Go.Proofs.Pw

namespace Go.Proofs.Pw
open Go.Lib hiding intOf
end Go.Proofs.Pw

namespace Go.Proofs.Pw
open Go.Lib hiding intOf
def latestM (l : List En) (sel : List Md) : List Md := sel.map fun m => (m.1, latestL l m.1)
theorem latest_in {l : List En} (h : RightI l) {m : Md} {e : En} (he : e ∈ l) (hm : e.md = m) : ∃ e ∈ l, e.md = (m.1, latestL l m.1) := by
  have h1 : m.2 ∈ versL l m.1 := versL_mem.2 ⟨e, he, hm⟩
  have h2 : m.2 ∈ vsort (versL l m.1) := (vsort_mem _ _).2 ⟨h1, by rw [← hm]; exact (modErr_zero (h.mds e he)).2⟩
  have h3 : vsort (versL l m.1) ≠ [] := fun e => by rw [e] at h2; cases h2
  have h4 := likedL_sub (lastS_mem (likedL_ne (l := l) (p := m.1) h3))
  exact versL_mem.1 ((vsort_mem _ _).1 h4).1
def newsB (l : List En) (m : Md) : Bool := verLess m.2 (latestL l m.1)
def newsL (l : List En) (sel : List Md) : List Md := latestM l (sel.filter (newsB l))
noncomputable def nextL (l : List En) (sel : List Md) : List Md := buildL l (sel ++ latestM l sel)
structure SelOk (l : List En) (x : List Md) : Prop where
  right : RightG l x
  rise : RiseP x
def OverM (x y : List Md) : Prop := ∀ m ∈ x, ∃ z ∈ y, z.1 = m.1 ∧ verCmp m.2 z.2 ≤ 0
theorem OverM.trans {x y z : List Md} (h1 : OverM x y) (h2 : OverM y z) : OverM x z := fun m hm => by
  obtain ⟨a, ha, e1, h3⟩ := h1 m hm
  obtain ⟨b, hb, e2, h4⟩ := h2 a ha
  exact ⟨b, hb, e2.trans e1, le_trans3 h3 h4⟩
theorem SelOk.md {l : List En} {x : List Md} (h : SelOk l x) {m : Md} (hm : m ∈ x) : mdErr m = 0 := h.right.right (.root hm)
theorem next_right {l : List En} {x : List Md} (hx : RightG l x) : RightG l (x ++ latestM l x) := ⟨hx.idx, fun m hm => by
  rcases List.mem_append.1 hm with h | h
  · exact hx.at_ m h
  · unfold latestM at h
    obtain ⟨y, hy, rfl⟩ := List.mem_map.1 h
    obtain ⟨e, he, e1⟩ := hx.at_ y hy
    exact latest_in hx.idx he e1⟩
structure AllOk (l : List En) (x y : List Md) : Prop where
  ok : SelOk l y
  over : OverM x y
  stop : nextL l y = y
theorem AllOk.none {l : List En} {x y : List Md} (h : AllOk l x y) : newsL l y = [] := by
  unfold newsL
  have : y.filter (newsB l) = [] := by
    rw [List.filter_eq_nil_iff]
    intro m hm hn
    have h1 := next_right h.ok.right
    have h2 : (m.1, latestL l m.1) ∈ y ++ latestM l y := List.mem_append.2 (.inr (List.mem_map.2 ⟨m, hm, rfl⟩))
    obtain ⟨z, hz, e1, h3⟩ := build_over h1 (.root h2)
    have hz2 : z ∈ nextL l y := hz
    rw [h.stop] at hz2
    have e2 : z = m := h.ok.rise.unique hz2 hm e1
    subst e2
    unfold newsB at hn
    rw [verLess_of_le h3] at hn
    cases hn
  rw [this]; rfl
end Go.Proofs.Pw

namespace Go.Proofs.Pw
open Go.RowKit
open Go.Lib hiding intOf
attribute [local go_sem] Oper.semAt_some
def StrsB (n₀ : Nat) (W : World) (a : Option Addr) (len : Nat) (L : Nat → ByteArray) : Prop :=
  len = 0 ∨ ∃ b off, a = some ⟨b, off, none⟩ ∧ b < n₀ ∧ ∀ j, j < len → W.cell? ⟨b, off + j, none⟩ = some (.string (L j))
theorem StrsB.below {n₀ : Nat} {A B : World} (h : Below n₀ A B) {a : Option Addr} {len : Nat} {L : Nat → ByteArray} : StrsB n₀ A a len L → StrsB n₀ B a len L
  | .inl e => .inl e
  | .inr ⟨b, off, e, hb, hc⟩ => .inr ⟨b, off, e, hb, fun j hj => (h.cell (p := ⟨b, off + j, none⟩) hb).trans (hc j hj)⟩
end Go.Proofs.Pw

namespace Go.Proofs.Pw
open Go.RowKit
end Go.Proofs.Pw

namespace Go.Proofs.Pw
open Go.Lib hiding intOf
def noneS : Str := [110, 111, 110, 101]
def cap1 (m : Md) : Nat := if pathErr m.1 ≠ 0 then pathErr m.1 else if m.2 = noneS then 0 else verErr m.2
def aboveB (caps : List Md) (m : Md) : Bool :=
  decide (0 ≤ findI (hasP m.1) caps) &&
    (decide ((mdAt caps (findI (hasP m.1) caps).toNat).2 = noneS) || verLess (mdAt caps (findI (hasP m.1) caps).toNat).2 m.2)
end Go.Proofs.Pw

namespace Go.Proofs.Pw
open Go.Lib hiding intOf
def setM (M : Nat → Bool) (k : Nat) : Nat → Bool := fun j => if j = k then true else M j
theorem RightI.at_ {l : List En} (_h : RightI l) {m : Md} {e : En} (he : e ∈ l) (hm : e.md = m) : (findE l m).toNat < l.length ∧ findE l m = ((findE l m).toNat : Int) ∧ (enAt l (findE l m).toNat).md = m := by
  have h0 : ¬ findE l m < 0 := fun h => findE_lt.1 h e he hm
  obtain ⟨k, h1, h2, h3⟩ := findE_nat h0
  rw [h1]
  exact ⟨h2, rfl, h3⟩
theorem RightI.place {l : List En} (h : RightI l) {j : Nat} (hj : j < l.length) : findE l (enAt l j).md = (j : Int) := by
  obtain ⟨h1, h2, h3⟩ := h.at_ (enAt_mem hj) rfl
  rw [h2]
  have := rises_inj modCmp_ord (k := (·.md)) h.rise (enAt_mem h1) (enAt_mem hj) h3
  have hnd : ∀ (i k : Nat), i < l.length → k < l.length → i < k → (enAt l i).md ≠ (enAt l k).md := fun i k hi hk hik e => by
    have hp := List.pairwise_iff_getElem.1 h.rise i k (by simpa using hi) (by simpa using hk) hik
    rw [List.getElem_map, List.getElem_map, ← enAt_elem hi, ← enAt_elem hk, e, modCmp_ord.self] at hp
    exact absurd hp (by decide)
  rcases Nat.lt_trichotomy (findE l (enAt l j).md).toNat j with h5 | h5 | h5
  · exact absurd h3 (hnd _ _ h1 hj h5)
  · rw [h5]
  · exact absurd h3.symm (hnd _ _ hj h1 h5)
end Go.Proofs.Pw

namespace Go.Proofs.Pw
open Go.Lib hiding intOf
inductive BadP (l : List En) (caps : List Md) : Md → Prop
  | above {e : En} (he : e ∈ l) (h : aboveB caps e.md = true) : BadP l caps e.md
  | req {e : En} {r : Md} (he : e ∈ l) (hr : r ∈ e.reqs) (h : BadP l caps r) : BadP l caps e.md
end Go.Proofs.Pw

namespace Go.Proofs.Pw
open Go.RowKit
open Go.Lib hiding intOf
def MarkRow (w : World) (g n : Nat) (M : Nat → Bool) : Prop := w.rowIs g 4 n (fun j => .bool (M j))
theorem MarkRow.below {w w' : World} {g n : Nat} {M : Nat → Bool} (h : MarkRow w g n M) (hb : Below w.heap.size w w') : MarkRow w' g n M :=
  World.rowIs.of_block h (hb.block g (World.rowIs.lt h))
theorem MarkRow.set {w : World} {g n : Nat} {M : Nat → Bool} (h : MarkRow w g n M) (k : Nat) : MarkRow (w.setCell ⟨g, k, none⟩ (.bool true)) g n (setM M k) :=
  (World.rowIs.set h k (.bool true)).congr fun j _ => by unfold setM; split <;> rfl
theorem MarkRow.cell {w : World} {g n : Nat} {M : Nat → Bool} (h : MarkRow w g n M) {k : Nat} (hk : k < n) : w.cell? ⟨g, k, none⟩ = some (.bool (M k)) := World.rowIs.cell h hk
theorem MarkRow.fz {w : World} {g n : Nat} {M : Nat → Bool} (h : MarkRow w g n M) (k : Nat) : w.frozen? ⟨g, k, none⟩ = false := World.rowIs.frozen h k
end Go.Proofs.Pw

namespace Go.Proofs.Pw
open Go.RowKit
open Go.Lib hiding intOf
end Go.Proofs.Pw

namespace Go.Proofs.Pw
open Go.RowKit
open Go.Lib hiding intOf
end Go.Proofs.Pw

namespace Go.Proofs.Pw
open Go.RowKit
open Go.Lib hiding intOf
end Go.Proofs.Pw

namespace Go.Proofs.Pw
open Go.RowKit
open Go.Lib hiding intOf
end Go.Proofs.Pw

namespace Go.Proofs.Pw
open Go.RowKit
open Go.Lib hiding intOf
def BadAt (w : World) (x : Value) (l : List En) (caps : List Md) : Prop :=
  ∃ (g : Nat) (M : Nat → Bool), x = .slice (some ⟨g, 0, none⟩) l.length l.length ∧ MarkRow w g l.length M ∧ ∀ j, j < l.length → (M j = true ↔ BadP l caps (enAt l j).md)
theorem BadAt.below {w w' : World} {x : Value} {l : List En} {caps : List Md} (h : BadAt w x l caps) (hb : Below w.heap.size w w') : BadAt w' x l caps :=
  let ⟨g, M, e, h1, h2⟩ := h; ⟨g, M, e, h1.below hb, h2⟩
end Go.Proofs.Pw

namespace Go.Proofs.Pw
open Go.RowKit
open Go.Lib hiding intOf
end Go.Proofs.Pw

namespace Go.Proofs.Pw
open Go.RowKit
open Go.Lib hiding intOf
attribute [local go_sem] Oper.semAt_some
end Go.Proofs.Pw

namespace Go.Proofs.Pw
open Go.RowKit
open Go.Proofs Go.Sort
open Go.Lib hiding intOf
end Go.Proofs.Pw

namespace Go.Proofs.Pw
open Go.RowKit
open Go.Lib hiding intOf
end Go.Proofs.Pw

namespace Go.Proofs.Pw
open Go.RowKit
open Go.Lib hiding intOf
theorem ModsAt.grownBy {w w' : World} {v : Value} {l : List Md} {r : Option Nat} (h : ModsAt w v l) (hg : w.grownBy w' r) (hr : ∀ q n m, v = .slice (some q) n m → some q.block ≠ r) : ModsAt w' v l := by
  obtain ⟨a, n, cap, P, V, rfl, h2, h3, h4, h5⟩ := h
  refine ⟨a, n, cap, P, V, rfl, h2, h3, h4, fun j hj => ?_⟩
  obtain ⟨b, o, rfl, e1, e2⟩ := h5 j hj
  have hb : some b ≠ r := hr _ _ _ rfl
  exact ⟨b, o, rfl, hg.cell e1 hb, hg.cell e2 hb⟩
end Go.Proofs.Pw

namespace Go.Proofs.Pw
open Go.RowKit
open Go.Lib hiding intOf
end Go.Proofs.Pw

namespace Go.Proofs.Pw
open Go.RowKit
open Go.Lib hiding intOf
end Go.Proofs.Pw

namespace Go.Proofs.Pw
open Go.RowKit
open Go.Lib hiding intOf
end Go.Proofs.Pw
