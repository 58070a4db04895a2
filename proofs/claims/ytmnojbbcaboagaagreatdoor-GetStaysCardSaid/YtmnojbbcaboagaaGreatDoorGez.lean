/- Ge: walks and plain laws, joined: SlDelM SlCat Rise Great SlDelF. Conditions: at each theorem. -/
import Derived.Test.YtmnojbbcaboagaaGreatDoorGey
import Derived.Test.YtmnojbbcaboagaaGreatDoorGel
import Derived.Shelf.Spec.SlicesGrow
import Derived.Test.YtmnojbbcaboagaaGreatDoorGeu
import Derived.Test.YtmnojbbcaboagaaGreatDoorGeg
import Derived.Deep.LoopGhost
import Derived.Lib.SlKept

namespace Go.Proofs.Pw
open Go.RowKit
open Go.Lib hiding intOf
theorem run_clear_rowK {P : Program} (w : World) (t e ty : TypeId) (z : Value) (k : Nat) (ht : P.underlying t = some (.slice e)) (hv : ∀ w, (zeroValue e).run P w = .ok z w) (hz : (Builtin.zeroCells z.cells k).toList.length = k * 2) (h1 : ∀ u ∈ (Builtin.zeroCells z.cells k).toList, u.oneCell' = true) (g o c : Nat) (hk : 0 < k) (cur : Array Value) (et : TypeId) (hg : w.heap[g]? = some (.cells cur et (0, 0))) (hfit : o + k * 2 ≤ cur.size) :
    (Builtin.clear_ #[t] ty #[.slice (some ⟨g, o, none⟩) k c]).run P w = .ok (.tuple #[]) (w.setRow g (splice cur.toList o (Builtin.zeroCells z.cells k).toList).toArray) := by
  have hst := run_storeCells_at P g o et (Builtin.zeroCells z.cells k).toList 0 cur w hg (by rw [hz]; simpa using hfit) h1
  simp only [Nat.add_zero] at hst
  obtain ⟨m, rfl⟩ : ∃ m, k = m + 1 := ⟨k - 1, by omega⟩
  simp [Builtin.clear_, run_underlying ht, hv, hst, splice]
theorem wpList_clearK {P : Program} {w : World} {ops : Array Oper} {rest : List Oper} {o : Oper} {a : Act} {Q : Exit → Act → World → Prop} (hgd : o.guard = none) (d : Operand) (t : TypeId)
    (ho : o.op = .call { callee := .builtin .clear, args := #[d], argTypes := #[t] }) (e : TypeId) (z : Value) (k : Nat) (ht : P.underlying t = some (.slice e)) (hv : ∀ w, (zeroValue e).run P w = .ok z w) (hz : (Builtin.zeroCells z.cells k).toList.length = k * 2) (h1 : ∀ u ∈ (Builtin.zeroCells z.cells k).toList, u.oneCell' = true) (g off c : Nat) (hk : 0 < k) (hd : a.eval d = .slice (some ⟨g, off, none⟩) k c)
    (cur : List Value) (et : TypeId) (hg : w.heap[g]? = some (.cells cur.toArray et (0, 0))) (hfit : off + k * 2 ≤ cur.length) (B : Nat) (w0 : World) (hb : Below B w0 w) (hBg : B ≤ g)
    (h : ∀ w', Hid (w'.heap[g]? = some (.cells (splice cur off (Builtin.zeroCells z.cells k).toList).toArray et (0, 0))) → Below B w0 w' → Hid (w.grownBy w' (some g)) → wpList P ops Q rest (a.put o.dst (.tuple #[])) w') : wpList P ops Q (o :: rest) a w := by
  refine wpList_plain hgd fun K hK => ?_
  have hrun := run_clear_rowK (P := P) w t e o.type z k ht hv hz h1 g off c hk cur.toArray et hg (by simpa using hfit)
  unfold Oper.wp
  simp [execOp, ho, resolve, invoke, builtin, hd, hrun, Result.andThen]
  exact hK _ _ (h _ (show _ = _ by simpa using setRow_heap w g _ _ et _ hg) (below_setRow hb hBg _) (Lib.hid (grownBy_setRow w g _)))
theorem step_appendK {P : Program} {ops : Array Oper} {o : Oper} {a : Act} {w : World} {K : Act → World → Prop} {Q : Exit → Act → World → Prop} {E : Prop} (hgd : o.guard = none) (d s : Operand) (t : TypeId)
    (ho : o.op = .call { callee := .builtin .append, args := #[d, s], argTypes := #[t, t] }) (e : TypeId) (i : TypeInfo) (k : Nat) (ht : P.underlying t = some (.slice e)) (hi : P.info? e = some i) (hk : i.size = k)
    (g n cap : Nat) (ad : Addr) (m c : Nat) (hd : a.eval d = .slice (some ⟨g, 0, none⟩) n cap) (hs : a.eval s = .slice (some ad) m c)
    (cur : List Value) (hg : w.heap[g]? = some (.cells cur.toArray e (0, 0))) (cs : List Value) (hn : cs.length = m * k)
    (hsrc : ∀ j v, cs[j]? = some v → w.cell? (ad.add j) = some v) (hroom : n + m ≤ cap) (hfit : n * k + cs.length ≤ cur.length) (h1 : ∀ v ∈ cs, v.oneCell' = true) (B : Nat) (w0 : World) (hb : Below B w0 w) (hBg : B ≤ g)
    (h : ∀ w', Hid (w'.heap[g]? = some (.cells (splice cur (n * k) cs).toArray e (0, 0))) → Below B w0 w' → Hid (w.grownBy w' (some g)) → K (a.put o.dst (.slice (some ⟨g, 0, none⟩) (n + m) cap)) w') :
    if Region.wanted o (yielded ops a.tmps) = true then Oper.wp P o a w K Q else E := by
  have hw : Region.wanted o (yielded ops a.tmps) = true := by simp [Region.wanted, hgd]
  rw [if_pos hw]
  subst hk
  have hrun := run_append_room (P := P) w t o.type e i ht hi g n cap cur.toArray hg ad m c cs hn hsrc h1 hroom (by simpa using hfit)
  unfold Oper.wp
  simp [execOp, ho, resolve, invoke, builtin, hd, hs, hrun, Result.andThen]
  exact h _ (show _ = _ by simpa [splice] using setRow_heap w g _ _ e _ hg) (below_setRow hb hBg _) (Lib.hid (grownBy_setRow w g _))
theorem del_take {α : Type} {cur X Y : List α} {o n d : Nat} (hX : cur.take n = X) (hn : X.length = n) (ho : o + d ≤ n) (hl : n ≤ cur.length) (hY : Y.length = d) : (splice (splice cur o (X.drop (o + d))) (n - d) Y).take (n - d) = X.take o ++ X.drop (o + d) := by
  have hd : (X.drop (o + d)).length = n - (o + d) := by rw [List.length_drop, hn]
  apply List.ext_getElem?
  intro j
  rw [List.getElem?_take]
  by_cases hj : j < n - d
  · rw [if_pos hj, splice_get (by rw [splice_length (by omega)]; omega), if_neg (by omega), splice_get (by omega)]
    by_cases h2 : j < o
    · rw [if_neg (by omega), List.getElem?_append_left (by simp; omega), List.getElem?_take, if_pos h2, ← hX, List.getElem?_take, if_pos (by omega)]
    · rw [if_pos (by omega), List.getElem?_append_right (by simp; omega)]
      congr 1
      simp; omega
  · rw [if_neg hj, List.getElem?_eq_none (by simp; omega)]
theorem mdVs_del (l : List (ByteArray × ByteArray)) (i : Nat) : mdVs (l.take i ++ l.drop (i + 1)) = (mdVs l).take (i * 2) ++ (mdVs l).drop (i * 2 + 2) := by
  rw [mdVs_append, mdVs_take, mdVs_drop, show (i + 1) * 2 = i * 2 + 2 by omega]
set_option maxHeartbeats 4000000 in
set_option maxRecDepth 100000 in
theorem deleteM_calls (base : Nat) (v : Value) (L : List (ByteArray × ByteArray)) (i : Nat) (w : World) (hown : w.ownsRow base 47 2 v L.length (mdVs L)) (hi : i < L.length) (hl : L.length ≤ 1000000) :
    Calls Tryz.prog 152 #[v, .int .i64 i, .int .i64 ((i + 1 : Nat) : Int)] w (InsOut base v (L.take i ++ L.drop (i + 1)) w) := by
  rcases hown.2 with ⟨rfl, h0⟩ | ⟨g, cap, cur, rfl, hbg, hg, hn, hm, hs, ht⟩
  · omega
  · obtain ⟨i0, hi0, hz0, hz1, hz2⟩ := info_parts Tryz.infoMod
    have mixed : Tryz.prog.follows Departure.mixedOrders = true := by kernel_rfl
    unfold maxLen at hm
    have hXl : (mdVs L).length = L.length * 2 := mdVs_length L
    have hdl : ((mdVs L).drop (i * 2 + 2)).length = (L.length - (i + 1)) * 2 := by rw [List.length_drop, hXl]; omega
    obtain ⟨A, hA, hsrc⟩ : ∃ A : Addr, (if cap = i + 1 then some (⟨g, 0, none⟩ : Addr) else some ⟨g, (i + 1) * 2, none⟩) = some A ∧ ∀ j v, ((mdVs L).drop (i * 2 + 2))[j]? = some v → w.cell? (A.add j) = some v := by
      by_cases h : cap = i + 1
      · refine ⟨⟨g, 0, none⟩, by simp [h], fun j v hj => ?_⟩
        have := (List.getElem?_eq_some_iff.1 hj).1
        omega
      · refine ⟨⟨g, (i + 1) * 2, none⟩, by simp [h], fun j v hj => ?_⟩
        rw [List.getElem?_drop] at hj
        have hjl := (List.getElem?_eq_some_iff.1 hj).1
        rw [Addr.add_lit, cell_of_row w g _ cur _ (0, 0) hg]
        rw [← ht, List.getElem?_take, if_pos (by omega)] at hj
        rw [show (i + 1) * 2 + j = i * 2 + 2 + j by omega]
        simpa using hj
    have hg' : w.heap[g]? = some (.cells cur.toList.toArray 47 (0, 0)) := by rw [Array.toArray_toList]; exact hg
    have hcl : cur.toList.length = cap * 2 := by simp [hs]
    have hzl := zeroCells_len (Value.agg #[.string ⟨#[]⟩, .string ⟨#[]⟩]).cells rfl 1
    have hz1c : ∀ u ∈ (Builtin.zeroCells (Value.agg #[.string ⟨#[]⟩, .string ⟨#[]⟩]).cells 1).toList, u.oneCell' = true := by
      intro u hu
      have e : (Builtin.zeroCells (Value.agg #[.string ⟨#[]⟩, .string ⟨#[]⟩]).cells 1).toList = [.string ⟨#[]⟩, .string ⟨#[]⟩] := by kernel_rfl
      rw [e] at hu
      simp at hu
      rw [hu]; rfl
    have hfit1 : i * 2 + ((mdVs L).drop (i * 2 + 2)).length ≤ cur.toList.length := by omega
    have hfit2 : (L.length - 1) * 2 + 1 * 2 ≤ (splice cur.toList (i * 2) ((mdVs L).drop (i * 2 + 2))).length := by rw [splice_length hfit1]; omega
    have hfin := del_take (cur := cur.toList) (X := mdVs L) (Y := (Builtin.zeroCells (Value.agg #[.string ⟨#[]⟩, .string ⟨#[]⟩]).cells 1).toList) (o := i * 2) (n := L.length * 2) (d := 2) ht hXl (by omega) (by omega) hzl
    have hV := mdVs_del L i
    have hlen2 : (L.take i ++ L.drop (i + 1)).length = L.length - 1 := by simp; omega
    have h1D : ∀ v ∈ (mdVs L).drop (i * 2 + 2), v.oneCell' = true := fun v hv => mdVs_one v (List.mem_of_mem_drop hv)
    generalize hY : (Builtin.zeroCells (Value.agg #[.string ⟨#[]⟩, .string ⟨#[]⟩]).cells 1).toList = Y at hfin hzl
    have HY := Lib.hid hY
    have hzv : ∀ w, (zeroValue 47).run Tryz.prog w = .ok (.agg #[.string ⟨#[]⟩, .string ⟨#[]⟩]) w := Tryz.zeroValue47
    have hb1 : ¬ ((i : Int) = (i : Int) + 1) := by omega
    have hb2 : (i : Int) + 1 ≤ (L.length : Int) := by omega
    have hb3 : (0 : Int) ≤ (i : Int) + 1 := by omega
    have hb4 : ((i : Int) + 1).toNat = i + 1 := by omega
    have hb5 : ¬ (cap = L.length - 1) := by omega
    have hb6 : i + (L.length - (i + 1)) = L.length - 1 := by omega
    have hb7 : (L.length : Int) ≤ (cap : Int) := by omega
    have hb8 : ((L.length - 1 : Nat) : Int) ≤ (L.length : Int) := by omega
    have hb9 : L.length - (L.length - 1) = 1 := by omega
    have hb10 : i ≤ cap := by omega
    have hb11 : i + 1 ≤ cap := by omega
    have hb12 : (i : Int) + 1 ≤ (cap : Int) := by omega
    have HG := Lib.hid hg'
    have HM := Lib.hid (And.intro hfit1 (And.intro hfit2 (And.intro hsrc (And.intro hdl h1D))))
    have HF := Lib.hid (And.intro hfin (And.intro hV (And.intro hlen2 (And.intro hcl hzl))))
    have HZ := Lib.hid hz1c
    generalize hD : (mdVs L).drop (i * 2 + 2) = D at *
    generalize hX : mdVs L = X at *
    generalize hNN : L.length = n at *
    clear hown hg hg' hfit1 hfit2 hsrc hdl h1D hfin hV hlen2 hcl hzl hY hz1c hX hD hs ht hXl
    go_enter Tryz.func152, Tryz.ntmps152
    go_wp2_with fail
    go_region_law_o (refine step_appendK rfl (.tmp 22) (.tmp 25) 23 rfl 47 i0 2 Tryz.underlying23 hi0 hz1 g i cap A (n - (i + 1)) (cap - (i + 1)) (by simp [Act.eval, Act.put]) (by simp [Act.eval, Act.put]) cur.toList HG.out D HM.out.2.2.2.1 HM.out.2.2.1 (by omega) HM.out.1 HM.out.2.2.2.2 base w (Below.refl _ _).drew hbg ?_; intro w4 hg4 hb14 hc14; rw [hb6])
    go_wp2_with (refine wpList_clearK rfl _ 23 rfl 47 (.agg #[.string ⟨#[]⟩, .string ⟨#[]⟩]) 1 Tryz.underlying23 hzv (zeroCells_len _ rfl 1) HZ.out g ((n - 1) * 2) _ (by decide) rfl _ 47 hg4.out HM.out.2.1 base w hb14 hbg ?_; intro w5 hg5 hb15 hc15)
    go_ret
    have hg5 := hg5.out
    rw [HY.out] at hg5
    refine ⟨_, rfl, ⟨by rw [mdVs_length], .inr ⟨g, cap, _, by rw [HF.out.2.2.1]; rfl, hbg, hg5, by rw [HF.out.2.2.1]; omega, by unfold maxLen; omega, ?_, ?_⟩⟩, hb15, grownBy_trans (w1 := w4) (grownBy_undrawn hc14.out) hc15.out⟩
    · have h1 := splice_length HM.out.1
      have h2 := splice_length (L := splice cur.toList (i * 2) D) (cs := Y) (o := (n - 1) * 2) (by have := HM.out.2.1; rw [HF.out.2.2.2.2]; exact this)
      rw [h1, HF.out.2.2.2.1] at h2
      simpa using h2
    · rw [HF.out.2.2.1, HF.out.2.1, ← HF.out.1]
      simp only []
      rw [show (n - 1) * 2 = n * 2 - 2 by omega]
end Go.Proofs.Pw

namespace Go.Proofs.Pw
open Go.RowKit
open Go.Lib hiding intOf
theorem ownsRow_set1 {w : World} {base e k g cap m n j : Nat} {xs : List Value} (h : w.ownsRow base e k (.slice (some ⟨g, 0, none⟩) m cap) n xs) (u : Value) : (w.setCell ⟨g, j, none⟩ u).ownsRow base e k (.slice (some ⟨g, 0, none⟩) m cap) n (xs.set j u) := by
  refine ⟨by rw [List.length_set]; exact h.1, ?_⟩
  rcases h.2 with ⟨h2, _⟩ | ⟨g', c', cur, e1, hb, hg, hn, hm, hcs, ht⟩
  · cases h2
  · injection e1 with e1 e2 e3
    injection e1 with e1
    injection e1 with e1
    subst e1 e2 e3
    refine .inr ⟨g, cap, cur.setIfInBounds j u, rfl, hb, ?_, hn, hm, by simpa using hcs, ?_⟩
    · simp [World.setCell, Array.getElem?_modify, hg]
    · rw [Array.toList_setIfInBounds, List.take_set, ht]
theorem mdVs_set : ∀ (L : List (ByteArray × ByteArray)) (i : Nat) (x y : ByteArray), mdVs (L.set i (x, y)) = ((mdVs L).set (i * 2) (.string x)).set (i * 2 + 1) (.string y)
  | [], i, x, y => by simp [mdVs]
  | a :: r, 0, x, y => by simp [mdVs]
  | a :: r, i + 1, x, y => by
    have := mdVs_set r i x y
    rw [List.set_cons_succ, show (i + 1) * 2 = i * 2 + 2 by omega]
    simp only [mdVs, List.flatMap_cons, List.cons_append, List.nil_append, List.set_cons_succ] at *
    rw [this]
theorem own_put {w : World} {base e g cap m i : Nat} {L : List (ByteArray × ByteArray)} (h : w.ownsRow base e 2 (.slice (some ⟨g, 0, none⟩) m cap) L.length (mdVs L)) (x y : ByteArray) :
    ((w.setCell ⟨g, i * 2, none⟩ (.string x)).setCell ⟨g, i * 2 + 1, none⟩ (.string y)).ownsRow base e 2 (.slice (some ⟨g, 0, none⟩) m cap) (L.set i (x, y)).length (mdVs (L.set i (x, y))) := by
  rw [List.length_set, mdVs_set]
  exact ownsRow_set1 (ownsRow_set1 h _) _
theorem own_cells {w : World} {base e g cap m i : Nat} {L : List (ByteArray × ByteArray)} {x y : ByteArray} (h : w.ownsRow base e 2 (.slice (some ⟨g, 0, none⟩) m cap) L.length (mdVs L)) (hi : L[i]? = some (x, y)) :
    w.cell? ⟨g, i * 2, none⟩ = some (.string x) ∧ w.cell? ⟨g, i * 2 + 1, none⟩ = some (.string y) ∧ m = L.length := by
  rcases h.2 with ⟨h2, _⟩ | ⟨g', c', cur, e1, hb, hg, hn, hm, hcs, ht⟩
  · cases h2
  · injection e1 with e1 e2 e3
    injection e1 with e1
    injection e1 with e1
    subst e1 e2 e3
    obtain ⟨q0, q1⟩ := mdVs_get hi
    have hl := (List.getElem?_eq_some_iff.1 hi).1
    rw [← ht, List.getElem?_take, if_pos (by omega)] at q0 q1
    refine ⟨?_, ?_, rfl⟩
    · rw [cell_of_row w g _ cur e (0, 0) hg]; simpa using q0
    · rw [cell_of_row w g _ cur e (0, 0) hg]; simpa using q1
theorem own_frozen {w : World} {base e g cap m n j : Nat} {xs : List Value} (h : w.ownsRow base e 2 (.slice (some ⟨g, 0, none⟩) m cap) n xs) : w.frozen? ⟨g, j, none⟩ = false := by
  rcases h.2 with ⟨h2, _⟩ | ⟨g', c', cur, e1, hb, hg, hn, hm, hcs, ht⟩
  · cases h2
  · injection e1 with e1 e2 e3
    injection e1 with e1
    injection e1 with e1
    subst e1 e2 e3
    simp [World.frozen?, hg]
theorem below_put {B : Nat} {w0 w : World} (h : Below B w0 w) {g i : Nat} (hg : B ≤ g) (x y : Value) : Below B w0 ((w.setCell ⟨g, i * 2, none⟩ x).setCell ⟨g, i * 2 + 1, none⟩ y) :=
  (h.setCell (p := ⟨g, i * 2, none⟩) hg x).setCell (p := ⟨g, i * 2 + 1, none⟩) hg y
end Go.Proofs.Pw

namespace Go.Proofs.Pw
open Go.RowKit
open Go.Lib hiding intOf
end Go.Proofs.Pw

namespace Go.Proofs.Pw
open Go.RowKit
open Go.Lib hiding intOf
theorem mdTs_sn (L : List (ByteArray × ByteArray)) (x y : ByteArray) : mdTs (L ++ [(x, y)]) = mdTs L ++ [(x.data.toList, y.data.toList)] := by simp [mdTs]
theorem own_len {w : World} {base e k n cap m : Nat} {a : Option Addr} {xs : List Value} (h : w.ownsRow base e k (.slice a m cap) n xs) : m = n := by
  rcases h.2 with ⟨h1, rfl⟩ | ⟨g, c, cur, h1, _⟩
  · injection h1
  · injection h1
theorem grow1_new {out : List Md} {m : Md} (h : out.getLast?.map (·.1) ≠ some m.1) : grow1 out m = out ++ [m] := if_neg h
theorem set_last {α : Type} (l : List α) (a b : α) : (l ++ [a]).set l.length b = l ++ [b] := by
  rw [List.set_append_right _ _ (Nat.le_refl _)]; simp
theorem grow1_same {L : List (ByteArray × ByteArray)} {x y p q : ByteArray} (h : x = p) : grow1 (mdTs (L ++ [(x, y)])) (p.data.toList, q.data.toList) = mdTs ((L ++ [(x, y)]).set L.length (p, q)) := by
  subst h
  rw [set_last, mdTs_sn, mdTs_sn]
  unfold grow1
  rw [if_pos (by simp)]
  simp
theorem grow1_less {L : List (ByteArray × ByteArray)} {x y p q : ByteArray} (h : x ≠ p) : grow1 (mdTs (L ++ [(x, y)])) (p.data.toList, q.data.toList) = mdTs (L ++ [(x, y)] ++ [(p, q)]) := by
  rw [mdTs_sn (L ++ [(x, y)]), mdTs_sn L]
  refine grow1_new ?_
  simp only [List.getLast?_append, List.getLast?_singleton, Option.some_or, Option.map_some]
  exact fun e => h (bytes_eq.1 (Option.some.inj e))
theorem grow1_nil (p q : ByteArray) : grow1 (mdTs []) (p.data.toList, q.data.toList) = mdTs [(p, q)] := rfl
set_option maxHeartbeats 4000000 in
set_option maxRecDepth 100000 in
theorem greatest_calls (v : Value) (l : List Md) (w : World) (h : ModsAt w v l) (hl : l.length ≤ 1000000) :
    Calls Tryz.prog 28 #[v] w fun e w' => (∃ v' L, e = .returned v' ∧ mdTs L = greatest l ∧ w'.ownsRow w.heap.size 47 2 v' L.length (mdVs L)) ∧ Below w.heap.size w w' := by
  obtain ⟨i0, hi, hz0, hz1, hz2⟩ := info_parts Tryz.infoMod
  obtain ⟨a, n, cap, P, V, rfl, rfl, hnc, hcap, hc⟩ := h
  rw [mdF_length] at hl
  replace hc := Lib.hid hc
  go_enter Tryz.func28, Tryz.ntmps28
  go_wp2_with fail
  go_loopw [3, 9] (fun o i wr => ∃ (k : Nat) (L : List (ByteArray × ByteArray)), k ≤ n ∧ i = .int .i64 k ∧ Hid (wr.ownsRow w.heap.size 47 2 o L.length (mdVs L)) ∧ L.length ≤ k ∧ Hid (mdTs L = greatest ((mdF n P V).take k)) ∧ Below w.heap.size w wr) (fun _ i _ => n - (intOf i).toNat)
  case atStart => exact ⟨0, [], Nat.zero_le _, rfl, Lib.hid (World.ownsRow_nil _ _ _ _), Nat.le_refl _, Lib.hid rfl, Below.refl _ _⟩
  case round =>
    obtain ⟨k, L, hk, rfl, hO, hLk, hT, hBr⟩ := hrel
    obtain ⟨ao, no, co, rfl⟩ := own_form hO.out
    have hown := Lib.hid (fun q (e : (Value.slice ao no co).ownBlock = some q) => (hO.out.lt q e).1)
    by_cases hlt : k < n
    · have hkn : (k : Int) < (n : Int) := by omega
      obtain ⟨b1, o1, ea, c0, c1⟩ := hc.out k hlt
      replace c0 := Below.cell_some hBr c0
      replace c1 := Below.cell_some hBr c1
      have HTK := Lib.hid (mdF_take_succ n P V k hlt)
      subst ea
      have hba := below_alloc wr (.cells #[.string (P k), .string (V k)] 47)
      obtain ⟨y0, y1, _⟩ := box2_alloc wr (.string (P k)) (.string (V k)) 47
      rcases List.eq_nil_or_concat L with rfl | ⟨L', ⟨x, y⟩, hLc⟩
      · have hn0 : no = 0 := own_len hO.out
        subst hn0
        have HN : Hid (mdTs ([] ++ [(P k, V k)]) = greatest ((mdF n P V).take (k + 1))) := Lib.hid (by
          rw [HTK.out, greatest_snoc, ← hT.out]; exact (grow1_nil _ _).symm)
        have hOa := ownsRow_kept hO.out hba
        have hBa := below_step hBr hba
        clear hT HTK hO hBr
        go_wp2_with fail
        have hx1 : decide ((-1 : Int) ≥ 0) = false := by decide
        have hx2 : decide ((0 : Int) ≤ -1) = false := by decide
        generalize wr.alloc (.cells #[.string (P k), .string (V k)] 47) = wa at *
        refine wp_region_quiet_patch (by kernel_rfl) (by kernel_rfl) ?_
        repeat (go_big_quiet_step (fail))
        refine wpQuiet_nil ?_
        intro _ hw'
        obtain ⟨⟨dq, osq⟩, hw''⟩ := hw'
        subst hw''
        have hb := below_patch wa dq osq
        replace hBa := below_step hBa hb
        replace hOa := hOa.below hb
        replace y0 := Below.cell_some hb y0
        replace y1 := Below.cell_some hb y1
        clear hb
        generalize patch wa dq osq = w5 at hBa hOa y0 y1 ⊢
        have HO := Lib.hid hOa
        clear hOa hx1 hx2
        have hBr := hBa
        have hLk : ([] : List (ByteArray × ByteArray)).length ≤ k := by simp
        go_wp2_with (at_builtin; refine wpList_append_own _ rfl _ _ 23 rfl w.heap.size 47 i0 (.agg #[.string ⟨#[]⟩, .string ⟨#[]⟩]) 2 32 Tryz.underlying23 hi hz0 hz1 hz2 rfl (by decide) _ _ _ rfl (HO.out.alloc _) ⟨w5.heap.size, 0, none⟩ 1 1 [.string (P k), .string (V k)] rfl rfl (cell_two_new _ _ _ _) (by intro u hu; simp at hu; rcases hu with rfl | rfl <;> rfl) (by unfold maxLen; omega) (by omega) (by have := hBr.size; simp; omega) ?_; intro o' w4 hown4 hgrow4 _)
        go_roundw
        case rel =>
          refine ⟨k + 1, [] ++ [(P k, V k)], by omega, by go_num, Lib.hid ?_, by first | (simp at hLk ⊢; omega) | (simp at hLk ⊢), HN, ?_⟩
          · rw [List.length_append, List.length_singleton, ← mdVs_snoc]
            exact hown4
          · exact (hBr.alloc hBr.size _).grown hgrow4 (by have := hBr.size; simp; omega) hown.out
        case measure => simp [intOf]; omega
      · rw [List.concat_eq_append] at hLc
        subst hLc
        have hT1 := hT.out
        have hOs := hO.out
        have hlx : L'.length < (L' ++ [(x, y)]).length := by simp
        obtain ⟨ag, rfl⟩ : ∃ g, ao = some ⟨g, 0, none⟩ := by
          rcases hO.out.2 with ⟨_, h1⟩ | ⟨g, c, cur, h1, _⟩
          · simp at h1
          · injection h1 with h1; exact ⟨g, h1⟩
        obtain ⟨d0, d1, hno⟩ := own_cells (i := L'.length) (x := x) (y := y) hOs (by simp)
        have hnl : no = L'.length + 1 := by rw [hno]; simp
        clear hno
        subst hnl
        replace d0 := Below.cell_some hba d0
        replace d1 := Below.cell_some hba d1
        have hOa := ownsRow_kept hO.out hba
        have hBa := below_step hBr hba
        have hw1 := wrap_nat L'.length (by simp at hLk; omega)
        have hm1 : ((L'.length + 1 : Nat) : Int) - 1 = (L'.length : Int) := by omega
        clear hT hO
        have hnn1 : decide ((L'.length : Int) ≥ 0) = true := decide_eq_true (by omega)
        have hnn2 : decide (0 ≤ (L'.length : Int)) = true := decide_eq_true (by omega)
        by_cases hxp : x = P k
        · subst hxp
          go_wp2_with fail
          generalize wr.alloc (.cells #[.string (P k), .string (V k)] 47) = wa at *
          have kqd0 := fun d os => cell_patch (d := d) (os := os) d0
          have kqy0 := fun d os => cell_patch (d := d) (os := os) y0
          refine wp_region_quiet_patch (by kernel_rfl) (by kernel_rfl) ?_
          repeat (go_big_quiet_step (fail))
          refine wpQuiet_nil ?_
          intro _ hw'
          obtain ⟨⟨dq, osq⟩, hw''⟩ := hw'
          subst hw''
          clear kqd0 kqy0
          have hb := below_patch wa dq osq
          replace hBa := below_step hBa hb
          replace hOa := hOa.below hb
          replace y0 := Below.cell_some hb y0
          replace y1 := Below.cell_some hb y1
          clear hb
          generalize patch wa dq osq = w5 at hBa hOa y0 y1 ⊢
          clear d0 d1
          obtain ⟨d0, d1, -⟩ := own_cells (i := L'.length) (x := P k) (y := y) hOa (by simp)
          have f0 := own_frozen (j := L'.length * 2) hOa
          have f1 := own_frozen (j := L'.length * 2 + 1) hOa
          have s1 : (w5.setCell ⟨ag, L'.length * 2, none⟩ (.string (P k))).cell? ⟨ag, L'.length * 2 + 1, none⟩ = some (.string y) := by rw [set_off _ (by omega)]; exact d1
          have s2 : (w5.setCell ⟨ag, L'.length * 2, none⟩ (.string (P k))).frozen? ⟨ag, L'.length * 2 + 1, none⟩ = false := by simpa using f1
          have HP := Lib.hid (own_put (i := L'.length) hOa (P k) (V k))
          have HN : Hid (mdTs ((L' ++ [(P k, y)]).set L'.length (P k, V k)) = greatest ((mdF n P V).take (k + 1))) := Lib.hid (by
            rw [HTK.out, greatest_snoc, ← hT1, grow1_same rfl])
          have hag := Lib.hid (hown.out ag rfl)
          have hLk2 := Lib.hid hLk
          clear hOa hOs hT1 HTK hLk hlx
          have hi1 : (L'.length : Int) < (L'.length : Int) + 1 := by omega
          go_wp2_with fail
          go_roundw
          case rel =>
            refine ⟨k + 1, (L' ++ [(P k, y)]).set L'.length (P k, V k), by omega, by go_num, HP, by rw [List.length_set]; have := hLk2.out; omega, HN, below_put hBa hag.out _ _⟩
          case measure => simp [intOf]; omega
        · have hq1 : (x.toList == (P k).toList) = false := by rw [toList_data, toList_data]; exact beq_eq_false_iff_ne.2 (fun e => hxp (bytes_eq.1 e))
          go_wp2_with fail
          generalize wr.alloc (.cells #[.string (P k), .string (V k)] 47) = wa at *
          have kqd0 := fun d os => cell_patch (d := d) (os := os) d0
          have kqy0 := fun d os => cell_patch (d := d) (os := os) y0
          refine wp_region_quiet_patch (by kernel_rfl) (by kernel_rfl) ?_
          repeat (go_big_quiet_step (fail))
          refine wpQuiet_nil ?_
          intro _ hw'
          obtain ⟨⟨dq, osq⟩, hw''⟩ := hw'
          subst hw''
          clear kqd0 kqy0
          have hb := below_patch wa dq osq
          replace hBa := below_step hBa hb
          replace hOa := hOa.below hb
          replace y0 := Below.cell_some hb y0
          replace y1 := Below.cell_some hb y1
          clear hb
          generalize patch wa dq osq = w5 at hBa hOa y0 y1 ⊢
          have HO := Lib.hid hOa
          have HN : Hid (mdTs (L' ++ [(x, y)] ++ [(P k, V k)]) = greatest ((mdF n P V).take (k + 1))) := Lib.hid (by
            rw [HTK.out, greatest_snoc, ← hT1, grow1_less hxp])
          have hLk2 : L'.length + 1 ≤ k := by simpa using hLk
          replace hBr := hBa
          clear hOa hOs hT1 HTK d0 d1
          go_wp2_with (at_builtin; refine wpList_append_own _ rfl _ _ 23 rfl w.heap.size 47 i0 (.agg #[.string ⟨#[]⟩, .string ⟨#[]⟩]) 2 32 Tryz.underlying23 hi hz0 hz1 hz2 rfl (by decide) _ _ _ rfl (HO.out.alloc _) ⟨w5.heap.size, 0, none⟩ 1 1 [.string (P k), .string (V k)] rfl rfl (cell_two_new _ _ _ _) (by intro u hu; simp at hu; rcases hu with rfl | rfl <;> rfl) (by unfold maxLen; omega) (by omega) (by have := hBr.size; simp; omega) ?_; intro o' w4 hown4 hgrow4 _)
          go_roundw
          case rel =>
            refine ⟨k + 1, (L' ++ [(x, y)]) ++ [(P k, V k)], by omega, by go_num, Lib.hid ?_, by first | (simp at hLk ⊢; omega) | (simp at hLk ⊢), HN, ?_⟩
            · rw [List.length_append, List.length_singleton, ← mdVs_snoc]
              exact hown4
            · exact (hBr.alloc hBr.size _).grown hgrow4 (by have := hBr.size; simp; omega) hown.out
          case measure => simp [intOf]; omega
    · obtain rfl : k = n := by omega
      have HF : Hid (mdTs L = greatest (mdF k P V)) := Lib.hid (by rw [hT.out, mdF_take_all])
      have HOr := hO
      clear hT hlt
      go_wp2_with fail
      go_ret
      exact ⟨⟨_, L, rfl, HF.out, HOr.out⟩, hBr⟩
end Go.Proofs.Pw

namespace Go.Proofs.Pw
open Go.RowKit
open Go.Lib hiding intOf
def TestsL (g : Nat) (lb : Array Value) (p : Md → Bool) (L : List (ByteArray × ByteArray)) (base : Nat) (w : World) : Prop :=
  ∀ W, Below base w W → ∀ x y, (x, y) ∈ L → Calls Tryz.prog g (#[.agg #[.string x, .string y]] ++ lb) W fun e w'' => e = .returned (.bool (p (x.data.toList, y.data.toList))) ∧ Below W.heap.size W w''
def pOf (p : Md → Bool) (m : ByteArray × ByteArray) : Bool := p (m.1.data.toList, m.2.data.toList)
theorem mdTs_filter (L : List (ByteArray × ByteArray)) (p : Md → Bool) : mdTs (L.filter (pOf p)) = (mdTs L).filter p := by
  unfold mdTs
  rw [List.filter_map]
  rfl
structure DelInv (q : ByteArray × ByteArray → Bool) (L M : List (ByteArray × ByteArray)) (i j : Nat) : Prop where
  len : M.length = L.length
  lt : i < j
  le : j ≤ L.length
  low : M.take i = (L.take j).filter q
  high : M.drop j = L.drop j
theorem DelInv.get {q : ByteArray × ByteArray → Bool} {L M : List (ByteArray × ByteArray)} {i j : Nat} (h : DelInv q L M i j) : M[j]? = L[j]? := by
  have := congrArg (fun l => l[0]?) h.high
  simpa using this
theorem take_sn {α : Type} {l : List α} {j : Nat} {x : α} (h : l[j]? = some x) : l.take (j + 1) = l.take j ++ [x] := by
  rw [List.take_add_one, h]; rfl
theorem DelInv.skip {q : ByteArray × ByteArray → Bool} {L M : List (ByteArray × ByteArray)} {i j : Nat} {x : ByteArray × ByteArray} (h : DelInv q L M i j) (hx : L[j]? = some x) (hq : q x = false) : DelInv q L M i (j + 1) := by
  have hl := (List.getElem?_eq_some_iff.1 hx).1
  have h1 := h.lt
  refine ⟨h.len, by omega, hl, ?_, ?_⟩
  · rw [take_sn hx, List.filter_append, ← h.low]; simp [hq]
  · rw [← List.drop_drop, ← List.drop_drop, h.high]
theorem DelInv.keep {q : ByteArray × ByteArray → Bool} {L M : List (ByteArray × ByteArray)} {i j : Nat} {x : ByteArray × ByteArray} (h : DelInv q L M i j) (hx : L[j]? = some x) (hq : q x = true) : DelInv q L (M.set i x) (i + 1) (j + 1) := by
  have hl := (List.getElem?_eq_some_iff.1 hx).1
  have h1 := h.lt
  have h2 := h.len
  refine ⟨by rw [List.length_set]; exact h.len, by omega, hl, ?_, ?_⟩
  · rw [take_sn (x := x) (by rw [List.getElem?_set_self (by omega)]), List.take_set_of_le (by omega), h.low, take_sn hx, List.filter_append]
    simp [hq]
  · rw [List.drop_set_of_lt (by omega), ← List.drop_drop, ← List.drop_drop, h.high]
theorem DelInv.start {q : ByteArray × ByteArray → Bool} {L : List (ByteArray × ByteArray)} {k : Nat} {x : ByteArray × ByteArray} (hk : L[k]? = some x) (hq : q x = false) (h0 : ∀ y ∈ L.take k, q y = true) : DelInv q L L k (k + 1) := by
  have hl := (List.getElem?_eq_some_iff.1 hk).1
  refine ⟨rfl, Nat.lt_succ_self _, hl, ?_, rfl⟩
  rw [take_sn hk, List.filter_append, List.filter_eq_self.2 h0]; simp [hq]
theorem filter_len {q : ByteArray × ByteArray → Bool} {L M : List (ByteArray × ByteArray)} {i : Nat} (h : DelInv q L M i L.length) : L.filter q = M.take i ∧ i < L.length := by
  have := h.low
  rw [List.take_length] at this
  exact ⟨this.symm, h.lt⟩
theorem splice_take {α : Type} {L cs : List α} {o : Nat} (h : o + cs.length ≤ L.length) : (splice L o cs).take o = L.take o := by
  unfold splice
  rw [List.take_append_of_le_length (by simp; omega), List.take_take, Nat.min_self]
theorem zeroMd_one (n : Nat) : ∀ u ∈ (Builtin.zeroCells (Value.agg #[.string ⟨#[]⟩, .string ⟨#[]⟩]).cells n).toList, u.oneCell' = true := by
  intro u hu
  have h2 : ((Value.agg #[.string ⟨#[]⟩, .string ⟨#[]⟩]).cells).size = 2 := rfl
  simp only [Builtin.zeroCells, Array.toList_map, List.mem_map] at hu
  obtain ⟨i, _, rfl⟩ := hu
  rw [h2]
  rcases Nat.mod_two_eq_zero_or_one i with h | h <;> rw [h] <;> rfl
theorem findI_list (p : Md → Bool) (L : List (ByteArray × ByteArray)) : (findI p (mdTs L) = -1 ∧ ∀ m ∈ L, pOf p m = false) ∨ ∃ (k : Nat) (x : ByteArray × ByteArray), findI p (mdTs L) = (k : Int) ∧ L[k]? = some x ∧ pOf p x = true ∧ ∀ y ∈ L.take k, pOf p y = false := by
  cases h : (mdTs L).findIdx? p with
  | none =>
    left
    refine ⟨by unfold findI; rw [h], fun m hm => ?_⟩
    rw [List.findIdx?_eq_none_iff] at h
    exact h _ (List.mem_map.2 ⟨m, hm, rfl⟩)
  | some k =>
    right
    have hf : findI p (mdTs L) = (k : Int) := by unfold findI; rw [h]
    rw [List.findIdx?_eq_some_iff_getElem] at h
    obtain ⟨hk, h1, h2⟩ := h
    have hkl : k < L.length := by rwa [mdTs_length] at hk
    have e : ∀ j (hj : j < L.length), (mdTs L)[j]'(by rw [mdTs_length]; exact hj) = (L[j].1.data.toList, L[j].2.data.toList) := fun j hj => by simp [mdTs]
    refine ⟨k, L[k], hf, List.getElem?_eq_getElem hkl, by rw [e k hkl] at h1; exact h1, fun y hy => ?_⟩
    obtain ⟨j, hj⟩ := List.getElem?_of_mem hy
    have hjk : j < k := by
      have := (List.getElem?_eq_some_iff.1 hj).1
      rw [List.length_take] at this
      omega
    rw [List.getElem?_take, if_pos hjk, List.getElem?_eq_getElem (by omega)] at hj
    have h3 := h2 j hjk
    rw [e j (by omega)] at h3
    rw [← Option.some.inj hj]
    simpa [pOf] using h3
end Go.Proofs.Pw
