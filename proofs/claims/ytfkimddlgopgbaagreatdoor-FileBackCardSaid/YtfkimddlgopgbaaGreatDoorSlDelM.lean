/- slices.Delete of one module out of a row of the caller's own. -/
import Derived.Test.YtfkimddlgopgbaaGreatDoorSlIns
namespace Go.Proofs.Pw
open Go.RowKit
open Go.Lib hiding intOf

theorem run_clear_rowK {P : Program} (w : World) (t e ty : TypeId) (z : Value) (k : Nat) (ht : P.underlying t = some (.slice e)) (hv : ∀ w, (zeroValue e).run P w = .ok z w) (hz : (Builtin.zeroCells z.cells k).toList.length = k * 2) (h1 : ∀ u ∈ (Builtin.zeroCells z.cells k).toList, u.oneCell' = true) (g o c : Nat) (hk : 0 < k) (cur : Array Value) (et : TypeId) (hg : w.heap[g]? = some (.cells cur et (0, 0))) (hfit : o + k * 2 ≤ cur.size) :
    (Builtin.clear_ #[t] ty #[.slice (some ⟨g, o, none⟩) k c]).run P w = .ok (.tuple #[]) (w.setRow g (splice cur.toList o (Builtin.zeroCells z.cells k).toList).toArray) := by
  have hst := run_storeCells_at P g o et (Builtin.zeroCells z.cells k).toList 0 cur w hg (by rw [hz]; simpa using hfit) h1
  simp only [Nat.add_zero] at hst
  obtain ⟨m, rfl⟩ : ∃ m, k = m + 1 := ⟨k - 1, by omega⟩
  simp [Builtin.clear_, run_underlying ht, hv, hst, splice]

theorem wpList_clearK {P : Program} {w : World} {ops : Array Oper} {rest : List Oper} {o : Oper} {a : Act} {Q : Exit → Act → World → Prop} (hgd : o.guard = none) (d : Operand) (t : TypeId)
    (ho : o.op = .call { callee := .builtin .clear, args := #[d], argTypes := #[t] }) (e : TypeId) (z : Value) (k : Nat) (ht : P.underlying t = some (.slice e)) (hv : ∀ w, (zeroValue e).run P w = .ok z w) (hz : (Builtin.zeroCells z.cells k).toList.length = k * 2) (h1 : ∀ u ∈ (Builtin.zeroCells z.cells k).toList, u.oneCell' = true) (g off c : Nat) (hk : 0 < k) (hd : a.eval d = .slice (some ⟨g, off, none⟩) k c)
    (cur : List Value) (et : TypeId) (hg : w.heap[g]? = some (.cells cur.toArray et (0, 0))) (hfit : off + k * 2 ≤ cur.length) (B : Nat) (w0 : World) (hb : Below B w0 w) (hBg : B ≤ g)
    (h : ∀ w', Hid (w'.heap[g]? = some (.cells (splice cur off (Builtin.zeroCells z.cells k).toList).toArray et (0, 0))) → Below B w0 w' → Hid (w.grownBy w' (some g)) → wpList P ops Q rest (a.put o.dst (.tuple #[])) w') : wpList P ops Q (o :: rest) a w := by
  refine wpList_plain hgd fun K hK => ?_
  have hrun := run_clear_rowK (P := P) w t e o.type z k ht hv hz h1 g off c hk cur.toArray et hg (by simpa using hfit)
  unfold Oper.wp
  simp [execOp, ho, resolve, invoke, builtin, hd, hrun, Result.andThen]
  exact hK _ _ (h _ (show _ = _ by simpa using setRow_heap w g _ _ et _ hg) (below_setRow hb hBg _) (Lib.hid (grownBy_setRow w g _)))

theorem step_appendK {P : Program} {ops : Array Oper} {o : Oper} {a : Act} {w : World} {K : Act → World → Prop} {Q : Exit → Act → World → Prop} {E : Prop} (hgd : o.guard = none) (d s : Operand) (t : TypeId)
    (ho : o.op = .call { callee := .builtin .append, args := #[d, s], argTypes := #[t, t] }) (e : TypeId) (i : TypeInfo) (k : Nat) (ht : P.underlying t = some (.slice e)) (hi : P.info? e = some i) (hk : i.size = k)
    (g n cap : Nat) (ad : Addr) (m c : Nat) (hd : a.eval d = .slice (some ⟨g, 0, none⟩) n cap) (hs : a.eval s = .slice (some ad) m c)
    (cur : List Value) (hg : w.heap[g]? = some (.cells cur.toArray e (0, 0))) (cs : List Value) (hn : cs.length = m * k)
    (hsrc : ∀ j v, cs[j]? = some v → w.cell? (ad.add j) = some v) (hroom : n + m ≤ cap) (hfit : n * k + cs.length ≤ cur.length) (h1 : ∀ v ∈ cs, v.oneCell' = true) (B : Nat) (w0 : World) (hb : Below B w0 w) (hBg : B ≤ g)
    (h : ∀ w', Hid (w'.heap[g]? = some (.cells (splice cur (n * k) cs).toArray e (0, 0))) → Below B w0 w' → Hid (w.grownBy w' (some g)) → K (a.put o.dst (.slice (some ⟨g, 0, none⟩) (n + m) cap)) w') :
    if Region.wanted o (yielded ops a.tmps) = true then Oper.wp P o a w K Q else E := by
  have hw : Region.wanted o (yielded ops a.tmps) = true := by simp [Region.wanted, hgd]
  rw [if_pos hw]
  subst hk
  have hrun := run_append_room (P := P) w t o.type e i ht hi g n cap cur.toArray hg ad m c cs hn hsrc h1 hroom (by simpa using hfit)
  unfold Oper.wp
  simp [execOp, ho, resolve, invoke, builtin, hd, hs, hrun, Result.andThen]
  exact h _ (show _ = _ by simpa [splice] using setRow_heap w g _ _ e _ hg) (below_setRow hb hBg _) (Lib.hid (grownBy_setRow w g _))

theorem del_take {α : Type} {cur X Y : List α} {o n d : Nat} (hX : cur.take n = X) (hn : X.length = n) (ho : o + d ≤ n) (hl : n ≤ cur.length) (hY : Y.length = d) : (splice (splice cur o (X.drop (o + d))) (n - d) Y).take (n - d) = X.take o ++ X.drop (o + d) := by
  have hd : (X.drop (o + d)).length = n - (o + d) := by rw [List.length_drop, hn]
  apply List.ext_getElem?
  intro j
  rw [List.getElem?_take]
  by_cases hj : j < n - d
  · rw [if_pos hj, splice_get (by rw [splice_length (by omega)]; omega), if_neg (by omega), splice_get (by omega)]
    by_cases h2 : j < o
    · rw [if_neg (by omega), List.getElem?_append_left (by simp; omega), List.getElem?_take, if_pos h2, ← hX, List.getElem?_take, if_pos (by omega)]
    · rw [if_pos (by omega), List.getElem?_append_right (by simp; omega)]
      congr 1
      simp; omega
  · rw [if_neg hj, List.getElem?_eq_none (by simp; omega)]
theorem mdVs_del (l : List (ByteArray × ByteArray)) (i : Nat) : mdVs (l.take i ++ l.drop (i + 1)) = (mdVs l).take (i * 2) ++ (mdVs l).drop (i * 2 + 2) := by
  rw [mdVs_append, mdVs_take, mdVs_drop, show (i + 1) * 2 = i * 2 + 2 by omega]

set_option maxHeartbeats 4000000 in
set_option maxRecDepth 100000 in
theorem deleteM_calls (base : Nat) (v : Value) (L : List (ByteArray × ByteArray)) (i : Nat) (w : World) (hown : w.ownsRow base 26 2 v L.length (mdVs L)) (hi : i < L.length) (hl : L.length ≤ 1000000) :
    Calls Tryz.prog 57 #[v, .int .i64 i, .int .i64 ((i + 1 : Nat) : Int)] w (InsOut base v (L.take i ++ L.drop (i + 1)) w) := by
  rcases hown.2 with ⟨rfl, h0⟩ | ⟨g, cap, cur, rfl, hbg, hg, hn, hm, hs, ht⟩
  · omega
  · obtain ⟨i0, hi0, hz0, hz1, hz2⟩ := info_parts Tryz.infoMod
    have mixed : Tryz.prog.follows Departure.mixedOrders = true := by kernel_rfl
    unfold maxLen at hm
    have hXl : (mdVs L).length = L.length * 2 := mdVs_length L
    have hdl : ((mdVs L).drop (i * 2 + 2)).length = (L.length - (i + 1)) * 2 := by rw [List.length_drop, hXl]; omega
    obtain ⟨A, hA, hsrc⟩ : ∃ A : Addr, (if cap = i + 1 then some (⟨g, 0, none⟩ : Addr) else some ⟨g, (i + 1) * 2, none⟩) = some A ∧ ∀ j v, ((mdVs L).drop (i * 2 + 2))[j]? = some v → w.cell? (A.add j) = some v := by
      by_cases h : cap = i + 1
      · refine ⟨⟨g, 0, none⟩, by simp [h], fun j v hj => ?_⟩
        have := (List.getElem?_eq_some_iff.1 hj).1
        omega
      · refine ⟨⟨g, (i + 1) * 2, none⟩, by simp [h], fun j v hj => ?_⟩
        rw [List.getElem?_drop] at hj
        have hjl := (List.getElem?_eq_some_iff.1 hj).1
        rw [Addr.add_lit, cell_of_row w g _ cur _ (0, 0) hg]
        rw [← ht, List.getElem?_take, if_pos (by omega)] at hj
        rw [show (i + 1) * 2 + j = i * 2 + 2 + j by omega]
        simpa using hj
    have hg' : w.heap[g]? = some (.cells cur.toList.toArray 26 (0, 0)) := by rw [Array.toArray_toList]; exact hg
    have hcl : cur.toList.length = cap * 2 := by simp [hs]
    have hzl := zeroCells_len (Value.agg #[.string ⟨#[]⟩, .string ⟨#[]⟩]).cells rfl 1
    have hz1c : ∀ u ∈ (Builtin.zeroCells (Value.agg #[.string ⟨#[]⟩, .string ⟨#[]⟩]).cells 1).toList, u.oneCell' = true := by
      intro u hu
      have e : (Builtin.zeroCells (Value.agg #[.string ⟨#[]⟩, .string ⟨#[]⟩]).cells 1).toList = [.string ⟨#[]⟩, .string ⟨#[]⟩] := by kernel_rfl
      rw [e] at hu
      simp at hu
      rw [hu]; rfl
    have hfit1 : i * 2 + ((mdVs L).drop (i * 2 + 2)).length ≤ cur.toList.length := by omega
    have hfit2 : (L.length - 1) * 2 + 1 * 2 ≤ (splice cur.toList (i * 2) ((mdVs L).drop (i * 2 + 2))).length := by rw [splice_length hfit1]; omega
    have hfin := del_take (cur := cur.toList) (X := mdVs L) (Y := (Builtin.zeroCells (Value.agg #[.string ⟨#[]⟩, .string ⟨#[]⟩]).cells 1).toList) (o := i * 2) (n := L.length * 2) (d := 2) ht hXl (by omega) (by omega) hzl
    have hV := mdVs_del L i
    have hlen2 : (L.take i ++ L.drop (i + 1)).length = L.length - 1 := by simp; omega
    have h1D : ∀ v ∈ (mdVs L).drop (i * 2 + 2), v.oneCell' = true := fun v hv => mdVs_one v (List.mem_of_mem_drop hv)
    generalize hY : (Builtin.zeroCells (Value.agg #[.string ⟨#[]⟩, .string ⟨#[]⟩]).cells 1).toList = Y at hfin hzl
    have HY := Lib.hid hY
    have hzv : ∀ w, (zeroValue 26).run Tryz.prog w = .ok (.agg #[.string ⟨#[]⟩, .string ⟨#[]⟩]) w := Tryz.zeroValue26
    have hb1 : ¬ ((i : Int) = (i : Int) + 1) := by omega
    have hb2 : (i : Int) + 1 ≤ (L.length : Int) := by omega
    have hb3 : (0 : Int) ≤ (i : Int) + 1 := by omega
    have hb4 : ((i : Int) + 1).toNat = i + 1 := by omega
    have hb5 : ¬ (cap = L.length - 1) := by omega
    have hb6 : i + (L.length - (i + 1)) = L.length - 1 := by omega
    have hb7 : (L.length : Int) ≤ (cap : Int) := by omega
    have hb8 : ((L.length - 1 : Nat) : Int) ≤ (L.length : Int) := by omega
    have hb9 : L.length - (L.length - 1) = 1 := by omega
    have hb10 : i ≤ cap := by omega
    have hb11 : i + 1 ≤ cap := by omega
    have hb12 : (i : Int) + 1 ≤ (cap : Int) := by omega
    have HG := Lib.hid hg'
    have HM := Lib.hid (And.intro hfit1 (And.intro hfit2 (And.intro hsrc (And.intro hdl h1D))))
    have HF := Lib.hid (And.intro hfin (And.intro hV (And.intro hlen2 (And.intro hcl hzl))))
    have HZ := Lib.hid hz1c
    generalize hD : (mdVs L).drop (i * 2 + 2) = D at *
    generalize hX : mdVs L = X at *
    generalize hNN : L.length = n at *
    clear hown hg hg' hfit1 hfit2 hsrc hdl h1D hfin hV hlen2 hcl hzl hY hz1c hX hD hs ht hXl
    go_enter Tryz.func57, Tryz.ntmps57
    go_wp2_with fail
    go_region_law_o (refine step_appendK rfl (.tmp 22) (.tmp 25) 22 rfl 26 i0 2 Tryz.underlying22 hi0 hz1 g i cap A (n - (i + 1)) (cap - (i + 1)) (by simp [Act.eval, Act.put]) (by simp [Act.eval, Act.put, hA]) cur.toList HG.out D HM.out.2.2.2.1 HM.out.2.2.1 (by omega) HM.out.1 HM.out.2.2.2.2 base w (Below.refl _ _).drew hbg ?_; intro w4 hg4 hb14 hc14; rw [hb6])
    go_wp2_with (refine wpList_clearK rfl _ 22 rfl 26 (.agg #[.string ⟨#[]⟩, .string ⟨#[]⟩]) 1 Tryz.underlying22 hzv (zeroCells_len _ rfl 1) HZ.out g ((n - 1) * 2) _ (by decide) rfl _ 26 hg4.out HM.out.2.1 base w hb14 hbg ?_; intro w5 hg5 hb15 hc15)
    go_ret
    have hg5 := hg5.out
    rw [HY.out] at hg5
    refine ⟨_, rfl, ⟨by rw [mdVs_length], .inr ⟨g, cap, _, by rw [HF.out.2.2.1]; rfl, hbg, hg5, by rw [HF.out.2.2.1]; omega, by unfold maxLen; omega, ?_, ?_⟩⟩, hb15, grownBy_trans (w1 := w4) (grownBy_undrawn hc14.out) hc15.out⟩
    · have h1 := splice_length HM.out.1
      have h2 := splice_length (L := splice cur.toList (i * 2) D) (cs := Y) (o := (n - 1) * 2) (by have := HM.out.2.1; rw [HF.out.2.2.2.2]; exact this)
      rw [h1, HF.out.2.2.2.1] at h2
      simpa using h2
    · rw [HF.out.2.2.1, HF.out.2.1, ← HF.out.1]
      simp only []
      rw [show (n - 1) * 2 = n * 2 - 2 by omega]
end Go.Proofs.Pw
