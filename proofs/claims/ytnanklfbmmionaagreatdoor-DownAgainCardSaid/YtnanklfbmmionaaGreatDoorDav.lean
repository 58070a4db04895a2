/- Da: walks and plain laws, joined: SlDelM SlCat Rise Great SlDelF SlCom. Conditions: at each theorem. -/
import Derived.Test.YtnanklfbmmionaaGreatDoorDau
import Derived.Test.YtnanklfbmmionaaGreatDoorDah
import Derived.Shelf.Spec.SlicesGrow
import Derived.Test.YtnanklfbmmionaaGreatDoorDag
import Derived.Test.YtnanklfbmmionaaGreatDoorDae
import Derived.Deep.LoopGhost
import Derived.Lib.SlKept
import Derived.Test.YtnanklfbmmionaaGreatDoorDab

namespace Go.Proofs.Pw
open Go.RowKit
open Go.Lib hiding intOf
theorem run_clear_rowK {P : Program} (w : World) (t e ty : TypeId) (z : Value) (k : Nat) (ht : P.underlying t = some (.slice e)) (hv : ∀ w, (zeroValue e).run P w = .ok z w) (hz : (Builtin.zeroCells z.cells k).toList.length = k * 2) (h1 : ∀ u ∈ (Builtin.zeroCells z.cells k).toList, u.oneCell' = true) (g o c : Nat) (hk : 0 < k) (cur : Array Value) (et : TypeId) (hg : w.heap[g]? = some (.cells cur et (0, 0))) (hfit : o + k * 2 ≤ cur.size) :
    (Builtin.clear_ #[t] ty #[.slice (some ⟨g, o, none⟩) k c]).run P w = .ok (.tuple #[]) (w.setRow g (splice cur.toList o (Builtin.zeroCells z.cells k).toList).toArray) := by
  have hst := run_storeCells_at P g o et (Builtin.zeroCells z.cells k).toList 0 cur w hg (by rw [hz]; simpa using hfit) h1
  simp only [Nat.add_zero] at hst
  obtain ⟨m, rfl⟩ : ∃ m, k = m + 1 := ⟨k - 1, by omega⟩
  simp [Builtin.clear_, run_underlying ht, hv, hst, splice]
theorem wpList_clearK {P : Program} {w : World} {ops : Array Oper} {rest : List Oper} {o : Oper} {a : Act} {Q : Exit → Act → World → Prop} (hgd : o.guard = none) (d : Operand) (t : TypeId)
    (ho : o.op = .call { callee := .builtin .clear, args := #[d], argTypes := #[t] }) (e : TypeId) (z : Value) (k : Nat) (ht : P.underlying t = some (.slice e)) (hv : ∀ w, (zeroValue e).run P w = .ok z w) (hz : (Builtin.zeroCells z.cells k).toList.length = k * 2) (h1 : ∀ u ∈ (Builtin.zeroCells z.cells k).toList, u.oneCell' = true) (g off c : Nat) (hk : 0 < k) (hd : a.eval d = .slice (some ⟨g, off, none⟩) k c)
    (cur : List Value) (et : TypeId) (hg : w.heap[g]? = some (.cells cur.toArray et (0, 0))) (hfit : off + k * 2 ≤ cur.length) (B : Nat) (w0 : World) (hb : Below B w0 w) (hBg : B ≤ g)
    (h : ∀ w', Hid (w'.heap[g]? = some (.cells (splice cur off (Builtin.zeroCells z.cells k).toList).toArray et (0, 0))) → Below B w0 w' → Hid (w.grownBy w' (some g)) → wpList P ops Q rest (a.put o.dst (.tuple #[])) w') : wpList P ops Q (o :: rest) a w := by
  refine wpList_plain hgd fun K hK => ?_
  have hrun := run_clear_rowK (P := P) w t e o.type z k ht hv hz h1 g off c hk cur.toArray et hg (by simpa using hfit)
  unfold Oper.wp
  simp [execOp, ho, resolve, invoke, builtin, hd, hrun, Result.andThen]
  exact hK _ _ (h _ (show _ = _ by simpa using setRow_heap w g _ _ et _ hg) (below_setRow hb hBg _) (Lib.hid (grownBy_setRow w g _)))
end Go.Proofs.Pw

namespace Go.Proofs.Pw
open Go.RowKit
open Go.Lib hiding intOf
theorem ownsRow_set1 {w : World} {base e k g cap m n j : Nat} {xs : List Value} (h : w.ownsRow base e k (.slice (some ⟨g, 0, none⟩) m cap) n xs) (u : Value) : (w.setCell ⟨g, j, none⟩ u).ownsRow base e k (.slice (some ⟨g, 0, none⟩) m cap) n (xs.set j u) := by
  refine ⟨by rw [List.length_set]; exact h.1, ?_⟩
  rcases h.2 with ⟨h2, _⟩ | ⟨g', c', cur, e1, hb, hg, hn, hm, hcs, ht⟩
  · cases h2
  · injection e1 with e1 e2 e3
    injection e1 with e1
    injection e1 with e1
    subst e1 e2 e3
    refine .inr ⟨g, cap, cur.setIfInBounds j u, rfl, hb, ?_, hn, hm, by simpa using hcs, ?_⟩
    · simp [World.setCell, Array.getElem?_modify, hg]
    · rw [Array.toList_setIfInBounds, List.take_set, ht]
theorem mdVs_set : ∀ (L : List (ByteArray × ByteArray)) (i : Nat) (x y : ByteArray), mdVs (L.set i (x, y)) = ((mdVs L).set (i * 2) (.string x)).set (i * 2 + 1) (.string y)
  | [], i, x, y => by simp [mdVs]
  | a :: r, 0, x, y => by simp [mdVs]
  | a :: r, i + 1, x, y => by
    have := mdVs_set r i x y
    rw [List.set_cons_succ, show (i + 1) * 2 = i * 2 + 2 by omega]
    simp only [mdVs, List.flatMap_cons, List.cons_append, List.nil_append, List.set_cons_succ] at *
    rw [this]
theorem own_put {w : World} {base e g cap m i : Nat} {L : List (ByteArray × ByteArray)} (h : w.ownsRow base e 2 (.slice (some ⟨g, 0, none⟩) m cap) L.length (mdVs L)) (x y : ByteArray) :
    ((w.setCell ⟨g, i * 2, none⟩ (.string x)).setCell ⟨g, i * 2 + 1, none⟩ (.string y)).ownsRow base e 2 (.slice (some ⟨g, 0, none⟩) m cap) (L.set i (x, y)).length (mdVs (L.set i (x, y))) := by
  rw [List.length_set, mdVs_set]
  exact ownsRow_set1 (ownsRow_set1 h _) _
theorem own_cells {w : World} {base e g cap m i : Nat} {L : List (ByteArray × ByteArray)} {x y : ByteArray} (h : w.ownsRow base e 2 (.slice (some ⟨g, 0, none⟩) m cap) L.length (mdVs L)) (hi : L[i]? = some (x, y)) :
    w.cell? ⟨g, i * 2, none⟩ = some (.string x) ∧ w.cell? ⟨g, i * 2 + 1, none⟩ = some (.string y) ∧ m = L.length := by
  rcases h.2 with ⟨h2, _⟩ | ⟨g', c', cur, e1, hb, hg, hn, hm, hcs, ht⟩
  · cases h2
  · injection e1 with e1 e2 e3
    injection e1 with e1
    injection e1 with e1
    subst e1 e2 e3
    obtain ⟨q0, q1⟩ := mdVs_get hi
    have hl := (List.getElem?_eq_some_iff.1 hi).1
    rw [← ht, List.getElem?_take, if_pos (by omega)] at q0 q1
    refine ⟨?_, ?_, rfl⟩
    · rw [cell_of_row w g _ cur e (0, 0) hg]; simpa using q0
    · rw [cell_of_row w g _ cur e (0, 0) hg]; simpa using q1
theorem own_frozen {w : World} {base e g cap m n j : Nat} {xs : List Value} (h : w.ownsRow base e 2 (.slice (some ⟨g, 0, none⟩) m cap) n xs) : w.frozen? ⟨g, j, none⟩ = false := by
  rcases h.2 with ⟨h2, _⟩ | ⟨g', c', cur, e1, hb, hg, hn, hm, hcs, ht⟩
  · cases h2
  · injection e1 with e1 e2 e3
    injection e1 with e1
    injection e1 with e1
    subst e1 e2 e3
    simp [World.frozen?, hg]
theorem below_put {B : Nat} {w0 w : World} (h : Below B w0 w) {g i : Nat} (hg : B ≤ g) (x y : Value) : Below B w0 ((w.setCell ⟨g, i * 2, none⟩ x).setCell ⟨g, i * 2 + 1, none⟩ y) :=
  (h.setCell (p := ⟨g, i * 2, none⟩) hg x).setCell (p := ⟨g, i * 2 + 1, none⟩) hg y
end Go.Proofs.Pw

namespace Go.Proofs.Pw
open Go.RowKit
open Go.Lib hiding intOf
end Go.Proofs.Pw

namespace Go.Proofs.Pw
open Go.RowKit
open Go.Lib hiding intOf
theorem mdTs_sn (L : List (ByteArray × ByteArray)) (x y : ByteArray) : mdTs (L ++ [(x, y)]) = mdTs L ++ [(x.data.toList, y.data.toList)] := by simp [mdTs]
theorem own_len {w : World} {base e k n cap m : Nat} {a : Option Addr} {xs : List Value} (h : w.ownsRow base e k (.slice a m cap) n xs) : m = n := by
  rcases h.2 with ⟨h1, rfl⟩ | ⟨g, c, cur, h1, _⟩
  · injection h1
  · injection h1
theorem grow1_new {out : List Md} {m : Md} (h : out.getLast?.map (·.1) ≠ some m.1) : grow1 out m = out ++ [m] := if_neg h
theorem set_last {α : Type} (l : List α) (a b : α) : (l ++ [a]).set l.length b = l ++ [b] := by
  rw [List.set_append_right _ _ (Nat.le_refl _)]; simp
theorem grow1_same {L : List (ByteArray × ByteArray)} {x y p q : ByteArray} (h : x = p) : grow1 (mdTs (L ++ [(x, y)])) (p.data.toList, q.data.toList) = mdTs ((L ++ [(x, y)]).set L.length (p, q)) := by
  subst h
  rw [set_last, mdTs_sn, mdTs_sn]
  unfold grow1
  rw [if_pos (by simp)]
  simp
theorem grow1_less {L : List (ByteArray × ByteArray)} {x y p q : ByteArray} (h : x ≠ p) : grow1 (mdTs (L ++ [(x, y)])) (p.data.toList, q.data.toList) = mdTs (L ++ [(x, y)] ++ [(p, q)]) := by
  rw [mdTs_sn (L ++ [(x, y)]), mdTs_sn L]
  refine grow1_new ?_
  simp only [List.getLast?_append, List.getLast?_singleton, Option.some_or, Option.map_some]
  exact fun e => h (bytes_eq.1 (Option.some.inj e))
theorem grow1_nil (p q : ByteArray) : grow1 (mdTs []) (p.data.toList, q.data.toList) = mdTs [(p, q)] := rfl
set_option maxHeartbeats 4000000 in
set_option maxRecDepth 100000 in
theorem greatest_calls (v : Value) (l : List Md) (w : World) (h : ModsAt w v l) (hl : l.length ≤ 1000000) :
    Calls Tryz.prog 100 #[v] w fun e w' => (∃ v' L, e = .returned v' ∧ mdTs L = greatest l ∧ w'.ownsRow w.heap.size 29 2 v' L.length (mdVs L)) ∧ Below w.heap.size w w' := by
  obtain ⟨i0, hi, hz0, hz1, hz2⟩ := info_parts Tryz.infoMod
  obtain ⟨a, n, cap, P, V, rfl, rfl, hnc, hcap, hc⟩ := h
  rw [mdF_length] at hl
  replace hc := Lib.hid hc
  go_enter Tryz.func100, Tryz.ntmps100
  go_wp2_with fail
  go_loopw [3, 9] (fun o i wr => ∃ (k : Nat) (L : List (ByteArray × ByteArray)), k ≤ n ∧ i = .int .i64 k ∧ Hid (wr.ownsRow w.heap.size 29 2 o L.length (mdVs L)) ∧ L.length ≤ k ∧ Hid (mdTs L = greatest ((mdF n P V).take k)) ∧ Below w.heap.size w wr) (fun _ i _ => n - (intOf i).toNat)
  case atStart => exact ⟨0, [], Nat.zero_le _, rfl, Lib.hid (World.ownsRow_nil _ _ _ _), Nat.le_refl _, Lib.hid rfl, Below.refl _ _⟩
  case round =>
    obtain ⟨k, L, hk, rfl, hO, hLk, hT, hBr⟩ := hrel
    obtain ⟨ao, no, co, rfl⟩ := own_form hO.out
    have hown := Lib.hid (fun q (e : (Value.slice ao no co).ownBlock = some q) => (hO.out.lt q e).1)
    by_cases hlt : k < n
    · have hkn : (k : Int) < (n : Int) := by omega
      obtain ⟨b1, o1, ea, c0, c1⟩ := hc.out k hlt
      replace c0 := Below.cell_some hBr c0
      replace c1 := Below.cell_some hBr c1
      have HTK := Lib.hid (mdF_take_succ n P V k hlt)
      subst ea
      have hba := below_alloc wr (.cells #[.string (P k), .string (V k)] 29)
      obtain ⟨y0, y1, _⟩ := box2_alloc wr (.string (P k)) (.string (V k)) 29
      rcases List.eq_nil_or_concat L with rfl | ⟨L', ⟨x, y⟩, hLc⟩
      · have hn0 : no = 0 := own_len hO.out
        subst hn0
        have HN : Hid (mdTs ([] ++ [(P k, V k)]) = greatest ((mdF n P V).take (k + 1))) := Lib.hid (by
          rw [HTK.out, greatest_snoc, ← hT.out]; exact (grow1_nil _ _).symm)
        have hOa := ownsRow_kept hO.out hba
        have hBa := below_step hBr hba
        clear hT HTK hO hBr
        go_wp2_with fail
        have hx1 : decide ((-1 : Int) ≥ 0) = false := by decide
        have hx2 : decide ((0 : Int) ≤ -1) = false := by decide
        generalize wr.alloc (.cells #[.string (P k), .string (V k)] 29) = wa at *
        refine wp_region_quiet_patch (by kernel_rfl) (by kernel_rfl) ?_
        repeat (go_big_quiet_step (fail))
        refine wpQuiet_nil ?_
        intro _ hw'
        obtain ⟨⟨dq, osq⟩, hw''⟩ := hw'
        subst hw''
        have hb := below_patch wa dq osq
        replace hBa := below_step hBa hb
        replace hOa := hOa.below hb
        replace y0 := Below.cell_some hb y0
        replace y1 := Below.cell_some hb y1
        clear hb
        generalize patch wa dq osq = w5 at hBa hOa y0 y1 ⊢
        have HO := Lib.hid hOa
        clear hOa hx1 hx2
        have hBr := hBa
        have hLk : ([] : List (ByteArray × ByteArray)).length ≤ k := by simp
        go_wp2_with (at_builtin; refine wpList_append_own _ rfl _ _ 23 rfl w.heap.size 29 i0 (.agg #[.string ⟨#[]⟩, .string ⟨#[]⟩]) 2 32 Tryz.underlying23 hi hz0 hz1 hz2 rfl (by decide) _ _ _ rfl (HO.out.alloc _) ⟨w5.heap.size, 0, none⟩ 1 1 [.string (P k), .string (V k)] rfl rfl (cell_two_new _ _ _ _) (by intro u hu; simp at hu; rcases hu with rfl | rfl <;> rfl) (by unfold maxLen; omega) (by omega) (by have := hBr.size; simp; omega) ?_; intro o' w4 hown4 hgrow4 _)
        go_roundw
        case rel =>
          refine ⟨k + 1, [] ++ [(P k, V k)], by omega, by go_num, Lib.hid ?_, by first | (simp at hLk ⊢; omega) | (simp at hLk ⊢), HN, ?_⟩
          · rw [List.length_append, List.length_singleton, ← mdVs_snoc]
            exact hown4
          · exact (hBr.alloc hBr.size _).grown hgrow4 (by have := hBr.size; simp; omega) hown.out
        case measure => simp [intOf]; omega
      · rw [List.concat_eq_append] at hLc
        subst hLc
        have hT1 := hT.out
        have hOs := hO.out
        have hlx : L'.length < (L' ++ [(x, y)]).length := by simp
        obtain ⟨ag, rfl⟩ : ∃ g, ao = some ⟨g, 0, none⟩ := by
          rcases hO.out.2 with ⟨_, h1⟩ | ⟨g, c, cur, h1, _⟩
          · simp at h1
          · injection h1 with h1; exact ⟨g, h1⟩
        obtain ⟨d0, d1, hno⟩ := own_cells (i := L'.length) (x := x) (y := y) hOs (by simp)
        have hnl : no = L'.length + 1 := by rw [hno]; simp
        clear hno
        subst hnl
        replace d0 := Below.cell_some hba d0
        replace d1 := Below.cell_some hba d1
        have hOa := ownsRow_kept hO.out hba
        have hBa := below_step hBr hba
        have hw1 := wrap_nat L'.length (by simp at hLk; omega)
        have hm1 : ((L'.length + 1 : Nat) : Int) - 1 = (L'.length : Int) := by omega
        clear hT hO
        have hnn1 : decide ((L'.length : Int) ≥ 0) = true := decide_eq_true (by omega)
        have hnn2 : decide (0 ≤ (L'.length : Int)) = true := decide_eq_true (by omega)
        by_cases hxp : x = P k
        · subst hxp
          go_wp2_with fail
          generalize wr.alloc (.cells #[.string (P k), .string (V k)] 29) = wa at *
          have kqd0 := fun d os => cell_patch (d := d) (os := os) d0
          have kqy0 := fun d os => cell_patch (d := d) (os := os) y0
          refine wp_region_quiet_patch (by kernel_rfl) (by kernel_rfl) ?_
          repeat (go_big_quiet_step (fail))
          refine wpQuiet_nil ?_
          intro _ hw'
          obtain ⟨⟨dq, osq⟩, hw''⟩ := hw'
          subst hw''
          clear kqd0 kqy0
          have hb := below_patch wa dq osq
          replace hBa := below_step hBa hb
          replace hOa := hOa.below hb
          replace y0 := Below.cell_some hb y0
          replace y1 := Below.cell_some hb y1
          clear hb
          generalize patch wa dq osq = w5 at hBa hOa y0 y1 ⊢
          clear d0 d1
          obtain ⟨d0, d1, -⟩ := own_cells (i := L'.length) (x := P k) (y := y) hOa (by simp)
          have f0 := own_frozen (j := L'.length * 2) hOa
          have f1 := own_frozen (j := L'.length * 2 + 1) hOa
          have s1 : (w5.setCell ⟨ag, L'.length * 2, none⟩ (.string (P k))).cell? ⟨ag, L'.length * 2 + 1, none⟩ = some (.string y) := by rw [set_off _ (by omega)]; exact d1
          have s2 : (w5.setCell ⟨ag, L'.length * 2, none⟩ (.string (P k))).frozen? ⟨ag, L'.length * 2 + 1, none⟩ = false := by simpa using f1
          have HP := Lib.hid (own_put (i := L'.length) hOa (P k) (V k))
          have HN : Hid (mdTs ((L' ++ [(P k, y)]).set L'.length (P k, V k)) = greatest ((mdF n P V).take (k + 1))) := Lib.hid (by
            rw [HTK.out, greatest_snoc, ← hT1, grow1_same rfl])
          have hag := Lib.hid (hown.out ag rfl)
          have hLk2 := Lib.hid hLk
          clear hOa hOs hT1 HTK hLk hlx
          have hi1 : (L'.length : Int) < (L'.length : Int) + 1 := by omega
          go_wp2_with fail
          go_roundw
          case rel =>
            refine ⟨k + 1, (L' ++ [(P k, y)]).set L'.length (P k, V k), by omega, by go_num, HP, by rw [List.length_set]; have := hLk2.out; omega, HN, below_put hBa hag.out _ _⟩
          case measure => simp [intOf]; omega
        · have hq1 : (x.toList == (P k).toList) = false := by rw [toList_data, toList_data]; exact beq_eq_false_iff_ne.2 (fun e => hxp (bytes_eq.1 e))
          go_wp2_with fail
          generalize wr.alloc (.cells #[.string (P k), .string (V k)] 29) = wa at *
          have kqd0 := fun d os => cell_patch (d := d) (os := os) d0
          have kqy0 := fun d os => cell_patch (d := d) (os := os) y0
          refine wp_region_quiet_patch (by kernel_rfl) (by kernel_rfl) ?_
          repeat (go_big_quiet_step (fail))
          refine wpQuiet_nil ?_
          intro _ hw'
          obtain ⟨⟨dq, osq⟩, hw''⟩ := hw'
          subst hw''
          clear kqd0 kqy0
          have hb := below_patch wa dq osq
          replace hBa := below_step hBa hb
          replace hOa := hOa.below hb
          replace y0 := Below.cell_some hb y0
          replace y1 := Below.cell_some hb y1
          clear hb
          generalize patch wa dq osq = w5 at hBa hOa y0 y1 ⊢
          have HO := Lib.hid hOa
          have HN : Hid (mdTs (L' ++ [(x, y)] ++ [(P k, V k)]) = greatest ((mdF n P V).take (k + 1))) := Lib.hid (by
            rw [HTK.out, greatest_snoc, ← hT1, grow1_less hxp])
          have hLk2 : L'.length + 1 ≤ k := by simpa using hLk
          replace hBr := hBa
          clear hOa hOs hT1 HTK d0 d1
          go_wp2_with (at_builtin; refine wpList_append_own _ rfl _ _ 23 rfl w.heap.size 29 i0 (.agg #[.string ⟨#[]⟩, .string ⟨#[]⟩]) 2 32 Tryz.underlying23 hi hz0 hz1 hz2 rfl (by decide) _ _ _ rfl (HO.out.alloc _) ⟨w5.heap.size, 0, none⟩ 1 1 [.string (P k), .string (V k)] rfl rfl (cell_two_new _ _ _ _) (by intro u hu; simp at hu; rcases hu with rfl | rfl <;> rfl) (by unfold maxLen; omega) (by omega) (by have := hBr.size; simp; omega) ?_; intro o' w4 hown4 hgrow4 _)
          go_roundw
          case rel =>
            refine ⟨k + 1, (L' ++ [(x, y)]) ++ [(P k, V k)], by omega, by go_num, Lib.hid ?_, by first | (simp at hLk ⊢; omega) | (simp at hLk ⊢), HN, ?_⟩
            · rw [List.length_append, List.length_singleton, ← mdVs_snoc]
              exact hown4
            · exact (hBr.alloc hBr.size _).grown hgrow4 (by have := hBr.size; simp; omega) hown.out
          case measure => simp [intOf]; omega
    · obtain rfl : k = n := by omega
      have HF : Hid (mdTs L = greatest (mdF k P V)) := Lib.hid (by rw [hT.out, mdF_take_all])
      have HOr := hO
      clear hT hlt
      go_wp2_with fail
      go_ret
      exact ⟨⟨_, L, rfl, HF.out, HOr.out⟩, hBr⟩
end Go.Proofs.Pw

namespace Go.Proofs.Pw
open Go.RowKit
open Go.Lib hiding intOf
structure DelInv (q : ByteArray × ByteArray → Bool) (L M : List (ByteArray × ByteArray)) (i j : Nat) : Prop where
  len : M.length = L.length
  lt : i < j
  le : j ≤ L.length
  low : M.take i = (L.take j).filter q
  high : M.drop j = L.drop j
theorem take_sn {α : Type} {l : List α} {j : Nat} {x : α} (h : l[j]? = some x) : l.take (j + 1) = l.take j ++ [x] := by
  rw [List.take_add_one, h]; rfl
theorem DelInv.skip {q : ByteArray × ByteArray → Bool} {L M : List (ByteArray × ByteArray)} {i j : Nat} {x : ByteArray × ByteArray} (h : DelInv q L M i j) (hx : L[j]? = some x) (hq : q x = false) : DelInv q L M i (j + 1) := by
  have hl := (List.getElem?_eq_some_iff.1 hx).1
  have h1 := h.lt
  refine ⟨h.len, by omega, hl, ?_, ?_⟩
  · rw [take_sn hx, List.filter_append, ← h.low]; simp [hq]
  · rw [← List.drop_drop, ← List.drop_drop, h.high]
theorem DelInv.keep {q : ByteArray × ByteArray → Bool} {L M : List (ByteArray × ByteArray)} {i j : Nat} {x : ByteArray × ByteArray} (h : DelInv q L M i j) (hx : L[j]? = some x) (hq : q x = true) : DelInv q L (M.set i x) (i + 1) (j + 1) := by
  have hl := (List.getElem?_eq_some_iff.1 hx).1
  have h1 := h.lt
  have h2 := h.len
  refine ⟨by rw [List.length_set]; exact h.len, by omega, hl, ?_, ?_⟩
  · rw [take_sn (x := x) (by rw [List.getElem?_set_self (by omega)]), List.take_set_of_le (by omega), h.low, take_sn hx, List.filter_append]
    simp [hq]
  · rw [List.drop_set_of_lt (by omega), ← List.drop_drop, ← List.drop_drop, h.high]
theorem DelInv.start {q : ByteArray × ByteArray → Bool} {L : List (ByteArray × ByteArray)} {k : Nat} {x : ByteArray × ByteArray} (hk : L[k]? = some x) (hq : q x = false) (h0 : ∀ y ∈ L.take k, q y = true) : DelInv q L L k (k + 1) := by
  have hl := (List.getElem?_eq_some_iff.1 hk).1
  refine ⟨rfl, Nat.lt_succ_self _, hl, ?_, rfl⟩
  rw [take_sn hk, List.filter_append, List.filter_eq_self.2 h0]; simp [hq]
theorem splice_take {α : Type} {L cs : List α} {o : Nat} (h : o + cs.length ≤ L.length) : (splice L o cs).take o = L.take o := by
  unfold splice
  rw [List.take_append_of_le_length (by simp; omega), List.take_take, Nat.min_self]
theorem zeroMd_one (n : Nat) : ∀ u ∈ (Builtin.zeroCells (Value.agg #[.string ⟨#[]⟩, .string ⟨#[]⟩]).cells n).toList, u.oneCell' = true := by
  intro u hu
  have h2 : ((Value.agg #[.string ⟨#[]⟩, .string ⟨#[]⟩]).cells).size = 2 := rfl
  simp only [Builtin.zeroCells, Array.toList_map, List.mem_map] at hu
  obtain ⟨i, _, rfl⟩ := hu
  rw [h2]
  rcases Nat.mod_two_eq_zero_or_one i with h | h <;> rw [h] <;> rfl
end Go.Proofs.Pw

namespace Go.Proofs.Pw
open Go.RowKit
open Go.Lib hiding intOf
abbrev MB2 := ByteArray × ByteArray
def keepI (L : List MB2) (i : Nat) : Bool := decide (i = 0) || decide (L[i]? ≠ L[i - 1]?)
def ddT (L : List MB2) : Nat → List MB2
  | 0 => []
  | t + 1 => ddT L t ++ (if keepI L t then L[t]?.toList else [])
def ddB (L : List MB2) : List MB2 := ddT L L.length
theorem keepI_same {L : List MB2} {j : Nat} {x y : MB2} (h0 : L[j]? = some x) (h1 : L[j + 1]? = some y) : keepI L (j + 1) = decide (x ≠ y) := by
  unfold keepI
  rw [Nat.add_sub_cancel, h0, h1]
  by_cases h : x = y
  · subst h; simp
  · simp [h, Ne.symm h]
theorem ddT_all {L : List MB2} : ∀ {t : Nat}, t ≤ L.length → (∀ i, i < t → keepI L i = true) → ddT L t = L.take t
  | 0, _, _ => by simp [ddT]
  | t + 1, ht, h => by
    rw [ddT, ddT_all (by omega) (fun i hi => h i (by omega)), h t (by omega), if_pos rfl, List.take_add_one]
theorem ddT_skip {L : List MB2} {t : Nat} (h : keepI L t = false) : ddT L (t + 1) = ddT L t := by rw [ddT, h]; simp
theorem ddT_keep {L : List MB2} {t : Nat} {x : MB2} (h : keepI L t = true) (hx : L[t]? = some x) : ddT L (t + 1) = ddT L t ++ [x] := by rw [ddT, h, hx]; rfl
theorem take_set {M : List MB2} {k : Nat} {x : MB2} (hk : k < M.length) : (M.set k x).take (k + 1) = M.take k ++ [x] := by
  rw [List.take_add_one, List.take_set_of_le (Nat.le_refl _), List.getElem?_set_self hk]; rfl
set_option maxHeartbeats 8000000 in
set_option maxRecDepth 100000 in
theorem compM_calls (base : Nat) (v : Value) (L : List (ByteArray × ByteArray)) (w : World) (hown : w.ownsRow base 29 2 v L.length (mdVs L)) (hbase : base ≤ w.heap.size) (hl : L.length ≤ 1000000) :
    Calls Tryz.prog 95 #[v] w fun e w' => (∃ v', e = .returned v' ∧ w'.ownsRow base 29 2 v' (ddB L).length (mdVs (ddB L))) ∧ Below base w w' := by
  by_cases h2 : L.length < 2
  · obtain ⟨a, m, c, rfl⟩ := own_form hown
    obtain rfl := own_len hown
    have hdd : ddB L = L := by
      unfold ddB
      rw [ddT_all (Nat.le_refl _) (fun i hi => by obtain rfl : i = 0 := by omega
                                                  rfl), List.take_length]
    have h2' : (L.length : Int) < 2 := by omega
    have HO := Lib.hid hown
    have HDD := Lib.hid hdd
    clear hdd h2 hown
    go_enter Tryz.func95, Tryz.ntmps95
    go_wp2_with fail
    go_ret
    rw [HDD.out]
    exact ⟨⟨_, rfl, HO.out⟩, Below.refl _ _⟩
  · rcases hown.2 with ⟨_, h3⟩ | ⟨g, cap, cur, rfl, hbg, hg, hnc, hm, hcs, htk⟩
    · omega
    · have h2' : ¬ (L.length : Int) < 2 := by omega
      have HO := Lib.hid hown
      have hgw : g < w.heap.size := (Array.getElem?_eq_some_iff.1 hg).1
      generalize hnL : L.length = n at *
      replace hnL := Lib.hid hnL
      clear hg htk hcs hown
      go_enter Tryz.func95, Tryz.ntmps95
      go_wp2_with fail
      go_loopw [3] (fun i wr => ∃ j : Nat, j + 1 ≤ n ∧ i = .int .i64 ((j : Int) + 1) ∧ Below w.heap.size w wr ∧ Hid (∀ i, i < j + 1 → keepI L i = true)) (fun i _ => n - (intOf i).toNat)
      case atStart => exact ⟨0, by omega, rfl, Below.refl _ _, Lib.hid (fun i (hi : i < 0 + 1) => by
        obtain rfl : i = 0 := by omega
        rfl)⟩
      case round =>
        obtain ⟨j, hj, rfl, hB, HA⟩ := hrel
        have hj1 : (0 : Int) ≤ (j : Int) + 1 := by omega
        have hj2 : ((j : Int) + 1).toNat = j + 1 := by omega
        have hj3 := wrap_nat j (by omega)
        have hj4 : (j : Int) + 1 - 1 = (j : Int) := by omega
        have hj5 := wrap_nat (j + 1 + 1) (by omega)
        by_cases hlt : j + 1 < n
        · have hlt' : (j : Int) + 1 < (n : Int) := by omega
          have hj6 : (j : Int) < (n : Int) := by omega
          have hj7 : ¬ ((j : Int) + 1 < 0) := by omega
          obtain ⟨⟨x1, y1⟩, hx1⟩ : ∃ m, L[j + 1]? = some m := ⟨_, List.getElem?_eq_getElem (by have := hnL.out; omega)⟩
          obtain ⟨⟨x0, y0⟩, hx0⟩ : ∃ m, L[j]? = some m := ⟨_, List.getElem?_eq_getElem (by have := hnL.out; omega)⟩
          have hOr : wr.ownsRow base 29 2 (.slice (some ⟨g, 0, none⟩) n cap) L.length (mdVs L) := by rw [hnL.out]; exact ownsRow_kept HO.out hB
          obtain ⟨c0, c1, -⟩ := own_cells hOr hx1
          obtain ⟨c2, c3, -⟩ := own_cells hOr hx0
          have HK := Lib.hid (keepI_same hx0 hx1)
          have heq := fun W => md_eql x1 y1 x0 y0 W
          clear hx0 hx1 hOr
          go_wp2_with fail
          by_cases he : x1 = x0 ∧ y1 = y0
          · rw [decide_eq_true he] at heq
            have kqc0 := fun d os => cell_patch (d := d) (os := os) c0
            have kqc1 := fun d os => cell_patch (d := d) (os := os) c1
            have kqc2 := fun d os => cell_patch (d := d) (os := os) c2
            have kqc3 := fun d os => cell_patch (d := d) (os := os) c3
            refine wp_region_quiet_patch (by kernel_rfl) (by kernel_rfl) ?_
            repeat (go_big_quiet_step (fail))
            refine wpQuiet_nil ?_
            intro _ hw'
            obtain ⟨⟨dq, osq⟩, hw''⟩ := hw'
            subst hw''
            clear kqc0 kqc1 kqc2 kqc3
            have hb := below_patch wr dq osq
            replace hB := below_step hB hb
            clear hb
            generalize patch wr dq osq = w2 at hB ⊢
            have HDD : Hid (L.take (j + 1) = ddT L (j + 1 + 1)) := Lib.hid (by
              rw [ddT_skip (by rw [HK.out]; obtain ⟨rfl, rfl⟩ := he; simp), ddT_all (by have := hnL.out; omega) HA.out])
            clear c0 c1 c2 c3 heq HA he HK
            have HQ : Hid (n = j + 1 + (n - (j + 1)) ∧ 1 ≤ n - (j + 1)) := Lib.hid ⟨by omega, by omega⟩
            have hq1 : 1 ≤ n - (j + 1) := by omega
            have hB2 := hB.mono hbase
            have hO2 : Hid (w2.ownsRow base 29 2 (.slice (some ⟨g, 0, none⟩) n cap) L.length (mdVs L)) := Lib.hid (by rw [hnL.out]; exact ownsRow_kept HO.out hB)
            go_wp2_with fail
            generalize n - (j + 1) = q at *
            have hq9 : q ≤ 1000000 := by have := HQ.out; omega
            go_loopw [3, 5] (fun i5 i7 wr => ∃ (k m : Nat) (M : List (ByteArray × ByteArray)), i5 = .int .i64 k ∧ i7 = .int .i64 ((m : Int) + 1) ∧ m + 1 ≤ q ∧ k ≤ j + 1 + m ∧ Hid (M.take k = ddT L (j + 1 + m + 1) ∧ ∀ i, j + 1 + m ≤ i → M[i]? = L[i]?) ∧ Below base w wr ∧ Hid (wr.ownsRow base 29 2 (.slice (some ⟨g, 0, none⟩) n cap) M.length (mdVs M)) ∧ Hid (M.length = n)) (fun _ i7 _ => q - (intOf i7).toNat)
            case atStart => exact ⟨j + 1, 0, L, by go_num, rfl, hq1, Nat.le_refl _, Lib.hid ⟨HDD.out, fun _ _ => rfl⟩, hB2, hO2, Lib.hid hnL.out⟩
            case round =>
              clear hB2 hO2 HDD
              obtain ⟨k, m, M, rfl, rfl, hmq, hkm, HMD, hBr, hOM, hMl⟩ := hrel
              have hBs := hBr.size
              have hm1 : (0 : Int) ≤ (m : Int) + 1 := by omega
              have hm2 : ((m : Int) + 1).toNat = m + 1 := by omega
              have hm3 := wrap_nat m (by have := HQ.out; omega)
              have hm4 : (m : Int) + 1 - 1 = (m : Int) := by omega
              have hm5 := wrap_nat (m + 1 + 1) (by have := HQ.out; omega)
              have hm7 : ¬ ((m : Int) + 1 < 0) := by omega
              by_cases hlt2 : m + 1 < q
              · have hlt3 : (m : Int) + 1 < (q : Int) := by omega
                have hm6 : (m : Int) < (q : Int) := by omega
                obtain ⟨⟨xa, ya⟩, hxa⟩ : ∃ z, M[j + 1 + (m + 1)]? = some z := ⟨_, List.getElem?_eq_getElem (by have := hMl.out; have := HQ.out; omega)⟩
                obtain ⟨⟨xb, yb⟩, hxb⟩ : ∃ z, M[j + 1 + m]? = some z := ⟨_, List.getElem?_eq_getElem (by have := hMl.out; have := HQ.out; omega)⟩
                obtain ⟨⟨xc, yc⟩, hxc⟩ : ∃ z, M[k]? = some z := ⟨_, List.getElem?_eq_getElem (by have := hMl.out; have := HQ.out; omega)⟩
                obtain ⟨c0, c1, -⟩ := own_cells hOM.out hxa
                obtain ⟨c2, c3, -⟩ := own_cells hOM.out hxb
                rw [show (j + 1 + (m + 1)) * 2 = (j + 1) * 2 + (m + 1) * 2 by omega] at c0 c1
                rw [show (j + 1 + m) * 2 = (j + 1) * 2 + m * 2 by omega] at c2 c3
                have hkn : (k : Int) < (n : Int) := by have := HQ.out; omega
                have hk0 : (0 : Int) ≤ (k : Int) := by omega
                have hne := fun W => md_neq xa ya xb yb W
                have HXC := Lib.hid hxc
                have hLa : L[j + 1 + m + 1]? = some (xa, ya) := by rw [← HMD.out.2 _ (by omega)]; exact hxa
                have hLb : L[j + 1 + m]? = some (xb, yb) := by rw [← HMD.out.2 _ (by omega)]; exact hxb
                have HK := Lib.hid (keepI_same hLb hLa)
                have HLA := Lib.hid hLa
                obtain ⟨D, hD⟩ : ∃ D, D = decide (xa = xb ∧ ya = yb) := ⟨_, rfl⟩
                rw [← hD] at hne
                have HD := Lib.hid hD
                have hBq := Below.refl wr.heap.size wr
                clear hD hxa hxb hxc hLa hLb
                cases D with
                | true =>
                  have HMD' : Hid (M.take k = ddT L (j + 1 + (m + 1) + 1) ∧ ∀ i, j + 1 + (m + 1) ≤ i → M[i]? = L[i]?) := Lib.hid ⟨by
                    have h9 := of_decide_eq_true HD.out.symm
                    rw [HMD.out.1, show j + 1 + (m + 1) + 1 = (j + 1 + m + 1) + 1 by omega, ddT_skip (t := j + 1 + m + 1) (by rw [HK.out]; obtain ⟨rfl, rfl⟩ := h9; simp)], fun i hi => HMD.out.2 i (by omega)⟩
                  clear HMD HK HLA HD
                  go_wp2_with fail
                  have kqc0 := fun d os => cell_patch (d := d) (os := os) c0
                  have kqc1 := fun d os => cell_patch (d := d) (os := os) c1
                  have kqc2 := fun d os => cell_patch (d := d) (os := os) c2
                  have kqc3 := fun d os => cell_patch (d := d) (os := os) c3
                  refine wp_region_quiet_patch (by kernel_rfl) (by kernel_rfl) ?_
                  repeat (go_big_quiet_step (fail))
                  refine wpQuiet_nil ?_
                  intro _ hw'
                  obtain ⟨⟨dq, osq⟩, hw''⟩ := hw'
                  subst hw''
                  clear kqc0 kqc1 kqc2 kqc3
                  have hb := below_patch wr dq osq
                  replace hBq := below_step hBq hb
                  clear hb
                  generalize patch wr dq osq = w3 at hBq ⊢
                  clear c0 c1 c2 c3
                  go_wp2_with fail
                  go_roundw
                  case rel => exact ⟨k, m + 1, M, rfl, by go_num, by omega, by omega, HMD', hBr.trans (hBq.mono (Nat.le_trans hbase hBs)), Lib.hid (ownsRow_kept hOM.out hBq), hMl⟩
                  case measure => simp [intOf]; omega
                | false =>
                  have HMD' : Hid ((M.set k (xa, ya)).take (k + 1) = ddT L (j + 1 + (m + 1) + 1) ∧ ∀ i, j + 1 + (m + 1) ≤ i → (M.set k (xa, ya))[i]? = L[i]?) := Lib.hid ⟨by
                    have h9 := of_decide_eq_false HD.out.symm
                    rw [take_set (by have := hMl.out; have := HQ.out; omega), HMD.out.1, show j + 1 + (m + 1) + 1 = (j + 1 + m + 1) + 1 by omega, ddT_keep (t := j + 1 + m + 1) (by rw [HK.out, decide_eq_true_iff]; intro e; injection e with e1 e2; exact h9 ⟨e1.symm, e2.symm⟩) HLA.out], fun i hi => by
                    rw [List.getElem?_set_ne (by omega)]; exact HMD.out.2 i (by omega)⟩
                  clear HMD HK HLA HD
                  go_wp2_with fail
                  have kqc0 := fun d os => cell_patch (d := d) (os := os) c0
                  have kqc1 := fun d os => cell_patch (d := d) (os := os) c1
                  have kqc2 := fun d os => cell_patch (d := d) (os := os) c2
                  have kqc3 := fun d os => cell_patch (d := d) (os := os) c3
                  refine wp_region_quiet_patch (by kernel_rfl) (by kernel_rfl) ?_
                  repeat (go_big_quiet_step (fail))
                  refine wpQuiet_nil ?_
                  intro _ hw'
                  obtain ⟨⟨dq, osq⟩, hw''⟩ := hw'
                  subst hw''
                  clear kqc0 kqc1 kqc2 kqc3
                  have hb := below_patch wr dq osq
                  replace hBq := below_step hBq hb
                  replace c0 := Below.cell_some hb c0
                  replace c1 := Below.cell_some hb c1
                  clear hb
                  generalize patch wr dq osq = w3 at hBq c0 c1 ⊢
                  clear c2 c3
                  have hOq := ownsRow_kept hOM.out hBq
                  obtain ⟨d0, d1, -⟩ := own_cells (i := k) hOq HXC.out
                  have f0 := own_frozen (j := k * 2) hOq
                  have f1 := own_frozen (j := k * 2 + 1) hOq
                  have s1 : (w3.setCell ⟨g, k * 2, none⟩ (.string xa)).cell? ⟨g, k * 2 + 1, none⟩ = some (.string yc) := by rw [set_off _ (by omega)]; exact d1
                  have s2 : (w3.setCell ⟨g, k * 2, none⟩ (.string xa)).frozen? ⟨g, k * 2 + 1, none⟩ = false := by simpa using f1
                  have HP := Lib.hid (own_put (i := k) hOq xa ya)
                  have hB3 := hBr.trans (hBq.mono (Nat.le_trans hbase hBs))
                  have hwk := wrap_nat (k + 1) (by have := HQ.out; omega)
                  clear hOq
                  go_wp2_with fail
                  go_roundw
                  case rel => exact ⟨k + 1, m + 1, M.set k (xa, ya), by go_num, by go_num, by omega, by omega, HMD', below_put hB3 hbg _ _, HP, Lib.hid (by rw [List.length_set]; exact hMl.out)⟩
                  case measure => simp [intOf]; omega
              · obtain rfl : q = m + 1 := by omega
                have hkn : k < n := by have := HQ.out; omega
                have hMk : M.take k = ddB L := by
                  unfold ddB
                  rw [HMD.out.1, hnL.out, show j + 1 + m + 1 = n by have := HQ.out; omega]
                rcases hOM.out.2 with ⟨h9, _⟩ | ⟨g5, c5, cur5, e5, _, hg5, _, _, hcs5, htk5⟩
                · cases h9
                · injection e5 with e5 e7 e6
                  clear e7
                  injection e5 with e5
                  injection e5 with e5
                  subst e5 e6
                  have hfit : k * 2 + (n - k) * 2 ≤ cur5.toList.length := by rw [Array.length_toList, hcs5]; omega
                  have hg5' : wr.heap[g]? = some (.cells cur5.toList.toArray 29 (0, 0)) := by rw [Array.toArray_toList]; exact hg5
                  have hzl := zeroCells_len (Value.agg #[.string ⟨#[]⟩, .string ⟨#[]⟩]).cells rfl (n - k)
                  have hkl : (M.take k).length = k := by rw [List.length_take]; have := hMl.out; omega
                  have htk6 : cur5.toList.take (k * 2) = mdVs (M.take k) := by
                    have h1 : cur5.toList.take (k * 2) = (cur5.toList.take (M.length * 2)).take (k * 2) := by rw [List.take_take]; congr 1; have := hMl.out; omega
                    rw [h1, htk5, mdVs_take]
                  have HF := Lib.hid (And.intro hfit (And.intro hzl (zeroMd_one (n - k))))
                  have HT := Lib.hid (And.intro htk6 (And.intro hcs5 (And.intro hkl hMk)))
                  have HG := Lib.hid hg5'
                  have hi1 : (k : Int) ≤ (n : Int) := by omega
                  have hi2 : ¬ (cap = k) := by omega
                  have hi3 : k ≤ cap := by omega
                  have hi4 : (k : Int) ≤ (cap : Int) := by omega
                  have hi5 : (n : Int) ≤ (cap : Int) := by omega
                  have hltz : ¬ (m : Int) + 1 < (m : Int) + 1 := by omega
                  have hzv : ∀ w, (zeroValue 29).run Tryz.prog w = .ok (.agg #[.string ⟨#[]⟩, .string ⟨#[]⟩]) w := Tryz.zeroValue29
                  clear hOM hg5 hg5' hfit hzl htk5 hcs5 htk6 hkl hMk HMD
                  go_wp2_with (refine wpList_clearK rfl _ 23 rfl 29 (.agg #[.string ⟨#[]⟩, .string ⟨#[]⟩]) (n - k) Tryz.underlying23 hzv HF.out.2.1 HF.out.2.2 g (k * 2) _ (by omega) rfl _ 29 HG.out HF.out.1 base w hBr hbg ?_; intro w5 hg5 hb15 hc15)
                  go_ret
                  have hg5 := hg5.out
                  refine ⟨⟨_, rfl, ?_⟩, hb15⟩
                  rw [← HT.out.2.2.2, HT.out.2.2.1]
                  refine ⟨by rw [mdVs_length, HT.out.2.2.1], .inr ⟨g, cap, _, rfl, hbg, hg5, by omega, hm, ?_, ?_⟩⟩
                  · have h1 := splice_length (L := cur5.toList) (cs := (Builtin.zeroCells (Value.agg #[.string ⟨#[]⟩, .string ⟨#[]⟩]).cells (n - k)).toList) (o := k * 2) (by rw [HF.out.2.1]; exact HF.out.1)
                    rw [List.size_toArray, h1, Array.length_toList]
                    exact HT.out.2.1
                  · have h2 := splice_take (L := cur5.toList) (cs := (Builtin.zeroCells (Value.agg #[.string ⟨#[]⟩, .string ⟨#[]⟩]).cells (n - k)).toList) (o := k * 2) (by rw [HF.out.2.1]; exact HF.out.1)
                    rw [List.toList_toArray, h2]
                    exact HT.out.1
          · rw [decide_eq_false he] at heq
            have kqc0 := fun d os => cell_patch (d := d) (os := os) c0
            have kqc1 := fun d os => cell_patch (d := d) (os := os) c1
            have kqc2 := fun d os => cell_patch (d := d) (os := os) c2
            have kqc3 := fun d os => cell_patch (d := d) (os := os) c3
            refine wp_region_quiet_patch (by kernel_rfl) (by kernel_rfl) ?_
            repeat (go_big_quiet_step (fail))
            refine wpQuiet_nil ?_
            intro _ hw'
            obtain ⟨⟨dq, osq⟩, hw''⟩ := hw'
            subst hw''
            clear kqc0 kqc1 kqc2 kqc3
            have hb := below_patch wr dq osq
            replace hB := below_step hB hb
            clear hb
            generalize patch wr dq osq = w2 at hB ⊢
            clear c0 c1 c2 c3
            have HA' : Hid (∀ i, i < j + 1 + 1 → keepI L i = true) := Lib.hid (fun i hi => by
              by_cases e : i = j + 1
              · subst e; rw [HK.out, decide_eq_true_iff]; intro e; injection e with e1 e2; exact he ⟨e1.symm, e2.symm⟩
              · exact HA.out i (by omega))
            clear he HA HK
            go_wp2_with fail
            go_roundw
            case rel => exact ⟨j + 1, by omega, by go_num, hB, HA'⟩
            case measure => simp [intOf]; omega
        · have hlt' : ¬ (j : Int) + 1 < (n : Int) := by omega
          have HDD : Hid (ddB L = L) := Lib.hid (by
            unfold ddB
            rw [ddT_all (Nat.le_refl _) (fun i hi => HA.out i (by have := hnL.out; omega)), List.take_length])
          have hO9 : Hid (wr.ownsRow base 29 2 (.slice (some ⟨g, 0, none⟩) n cap) L.length (mdVs L)) := Lib.hid (by rw [hnL.out]; exact ownsRow_kept HO.out hB)
          clear HA
          go_wp2_with fail
          go_ret
          rw [HDD.out]
          exact ⟨⟨_, rfl, hO9.out⟩, hB.mono hbase⟩
end Go.Proofs.Pw
