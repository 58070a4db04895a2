/- Po: walks and plain laws, joined: FileFind SlCat Great IdxFind. Conditions: at each theorem. -/
import Derived.Test.YtglhgbcebpeomaaGreatDoorPog
import Derived.Shelf.Abstract
import Derived.Test.YtglhgbcebpeomaaGreatDoorPoh
import Derived.Shelf.Spec.SlicesGrow
import Derived.Test.YtglhgbcebpeomaaGreatDoorPoe

namespace Go.Proofs.Pw
open Go.RowKit
open Go.Lib hiding intOf
def TestsM (g : Nat) (lb : Array Value) (p : Md → Bool) (n : Nat) (P V : Nat → ByteArray) (base : Nat) (w : World) : Prop :=
  ∀ W, Below base w W → ∀ j, j < n → Calls Tryz.prog g (#[.agg #[.string (P j), .string (V j)]] ++ lb) W fun e w'' => e = .returned (.bool (p ((P j).data.toList, (V j).data.toList))) ∧ Below W.heap.size W w''
set_option maxHeartbeats 1000000 in
set_option maxRecDepth 100000 in
theorem indexFuncM_calls (g : Nat) (lb : Array Value) (eg : ∀ args w, (callFunc g args).run Tryz.prog w = .ok (.enter g args) w) (p : Md → Bool) (a : Option Addr) (n cap base : Nat) (P V : Nat → ByteArray) (w : World) (hn : n ≤ 1000000) (hbase : base ≤ w.heap.size)
    (hc : ∀ j, j < n → ∃ b o, a = some ⟨b, o, none⟩ ∧ w.cell? ⟨b, o + j * 2, none⟩ = some (.string (P j)) ∧ w.cell? ⟨b, o + j * 2 + 1, none⟩ = some (.string (V j))) (hT : TestsM g lb p n P V base w) :
    Calls Tryz.prog 186 #[.slice a n cap, .func (.func g) #[] lb] w fun e w' => e = .returned (.int .i64 (findI p (mdF n P V))) ∧ Below w.heap.size w w' := by
  replace hc := Lib.hid hc
  replace hT := Lib.hid hT
  go_enter Tryz.func186, Tryz.ntmps186
  go_wp2_with fail
  go_loopw [8] (fun i wr => ∃ k : Nat, k ≤ n ∧ i = .int .i64 k ∧ Below w.heap.size w wr ∧ Hid (∀ j, j < k → p ((P j).data.toList, (V j).data.toList) = false)) (fun i _ => n - (intOf i).toNat)
  case atStart => exact ⟨0, by omega, rfl, Below.refl _ _, Lib.hid (fun j hj => absurd hj (Nat.not_lt_zero _))⟩
  case round =>
    obtain ⟨k, hk, rfl, hb, HA⟩ := hrel
    by_cases hlt : k < n
    · obtain ⟨b1, o1, rfl, c1, c2⟩ := hc.out k hlt
      replace c1 := Below.cell_some hb c1
      replace c2 := Below.cell_some hb c2
      have hcall := hT.out wr (hb.mono hbase) k hlt
      have hget := mdF_get n P V k hlt
      cases hq : p ((P k).data.toList, (V k).data.toList) with
      | true =>
        have HR : Hid (findI p (mdF n P V) = k) := Lib.hid (findI_hit hget hq (fun j y hj hy => by
          rw [mdF_get n P V j (by omega)] at hy
          cases hy
          exact HA.out j hj))
        rw [hq] at hcall
        clear hq hget
        go_wp2_with (go_at_fn g; refine hcall.mono ?_; rintro e w' ⟨rfl, hb2⟩)
        go_ret
        rw [HR.out]
        exact ⟨rfl, below_step hb hb2⟩
      | false =>
        have HN : Hid (∀ j, j < k + 1 → p ((P j).data.toList, (V j).data.toList) = false) := Lib.hid (fun j hj => by
          by_cases e : j = k
          · subst e; exact hq
          · exact HA.out j (by omega))
        rw [hq] at hcall
        clear hq hget
        go_wp2_with (go_at_fn g; refine hcall.mono ?_; rintro e w' ⟨rfl, hb2⟩)
        go_roundw
        case rel => exact ⟨k + 1, by omega, by go_num, below_step hb hb2, HN⟩
        case measure => simp [intOf]; omega
    · obtain rfl : k = n := by omega
      have HR : Hid (findI p (mdF k P V) = -1) := Lib.hid (findI_none (fun j y hy => by
        have hj : j < k := by have := (List.getElem?_eq_some_iff.1 hy).1; rwa [mdF_length] at this
        rw [mdF_get k P V j hj] at hy
        cases hy
        exact HA.out j hj))
      go_wp2_with fail
      go_ret
      rw [HR.out]
      exact ⟨rfl, hb⟩
end Go.Proofs.Pw

namespace Go.Proofs.Pw
open Go.RowKit
open Go.Lib hiding intOf
theorem ownsRow_set1 {w : World} {base e k g cap m n j : Nat} {xs : List Value} (h : w.ownsRow base e k (.slice (some ⟨g, 0, none⟩) m cap) n xs) (u : Value) : (w.setCell ⟨g, j, none⟩ u).ownsRow base e k (.slice (some ⟨g, 0, none⟩) m cap) n (xs.set j u) := by
  refine ⟨by rw [List.length_set]; exact h.1, ?_⟩
  rcases h.2 with ⟨h2, _⟩ | ⟨g', c', cur, e1, hb, hg, hn, hm, hcs, ht⟩
  · cases h2
  · injection e1 with e1 e2 e3
    injection e1 with e1
    injection e1 with e1
    subst e1 e2 e3
    refine .inr ⟨g, cap, cur.setIfInBounds j u, rfl, hb, ?_, hn, hm, by simpa using hcs, ?_⟩
    · simp [World.setCell, Array.getElem?_modify, hg]
    · rw [Array.toList_setIfInBounds, List.take_set, ht]
theorem mdVs_set : ∀ (L : List (ByteArray × ByteArray)) (i : Nat) (x y : ByteArray), mdVs (L.set i (x, y)) = ((mdVs L).set (i * 2) (.string x)).set (i * 2 + 1) (.string y)
  | [], i, x, y => by simp [mdVs]
  | a :: r, 0, x, y => by simp [mdVs]
  | a :: r, i + 1, x, y => by
    have := mdVs_set r i x y
    rw [List.set_cons_succ, show (i + 1) * 2 = i * 2 + 2 by omega]
    simp only [mdVs, List.flatMap_cons, List.cons_append, List.nil_append, List.set_cons_succ] at *
    rw [this]
theorem own_put {w : World} {base e g cap m i : Nat} {L : List (ByteArray × ByteArray)} (h : w.ownsRow base e 2 (.slice (some ⟨g, 0, none⟩) m cap) L.length (mdVs L)) (x y : ByteArray) :
    ((w.setCell ⟨g, i * 2, none⟩ (.string x)).setCell ⟨g, i * 2 + 1, none⟩ (.string y)).ownsRow base e 2 (.slice (some ⟨g, 0, none⟩) m cap) (L.set i (x, y)).length (mdVs (L.set i (x, y))) := by
  rw [List.length_set, mdVs_set]
  exact ownsRow_set1 (ownsRow_set1 h _) _
theorem own_cells {w : World} {base e g cap m i : Nat} {L : List (ByteArray × ByteArray)} {x y : ByteArray} (h : w.ownsRow base e 2 (.slice (some ⟨g, 0, none⟩) m cap) L.length (mdVs L)) (hi : L[i]? = some (x, y)) :
    w.cell? ⟨g, i * 2, none⟩ = some (.string x) ∧ w.cell? ⟨g, i * 2 + 1, none⟩ = some (.string y) ∧ m = L.length := by
  rcases h.2 with ⟨h2, _⟩ | ⟨g', c', cur, e1, hb, hg, hn, hm, hcs, ht⟩
  · cases h2
  · injection e1 with e1 e2 e3
    injection e1 with e1
    injection e1 with e1
    subst e1 e2 e3
    obtain ⟨q0, q1⟩ := mdVs_get hi
    have hl := (List.getElem?_eq_some_iff.1 hi).1
    rw [← ht, List.getElem?_take, if_pos (by omega)] at q0 q1
    refine ⟨?_, ?_, rfl⟩
    · rw [cell_of_row w g _ cur e (0, 0) hg]; simpa using q0
    · rw [cell_of_row w g _ cur e (0, 0) hg]; simpa using q1
theorem own_frozen {w : World} {base e g cap m n j : Nat} {xs : List Value} (h : w.ownsRow base e 2 (.slice (some ⟨g, 0, none⟩) m cap) n xs) : w.frozen? ⟨g, j, none⟩ = false := by
  rcases h.2 with ⟨h2, _⟩ | ⟨g', c', cur, e1, hb, hg, hn, hm, hcs, ht⟩
  · cases h2
  · injection e1 with e1 e2 e3
    injection e1 with e1
    injection e1 with e1
    subst e1 e2 e3
    simp [World.frozen?, hg]
theorem below_put {B : Nat} {w0 w : World} (h : Below B w0 w) {g i : Nat} (hg : B ≤ g) (x y : Value) : Below B w0 ((w.setCell ⟨g, i * 2, none⟩ x).setCell ⟨g, i * 2 + 1, none⟩ y) :=
  (h.setCell (p := ⟨g, i * 2, none⟩) hg x).setCell (p := ⟨g, i * 2 + 1, none⟩) hg y
end Go.Proofs.Pw

namespace Go.Proofs.Pw
open Go.RowKit
open Go.Lib hiding intOf
theorem mdTs_sn (L : List (ByteArray × ByteArray)) (x y : ByteArray) : mdTs (L ++ [(x, y)]) = mdTs L ++ [(x.data.toList, y.data.toList)] := by simp [mdTs]
theorem own_len {w : World} {base e k n cap m : Nat} {a : Option Addr} {xs : List Value} (h : w.ownsRow base e k (.slice a m cap) n xs) : m = n := by
  rcases h.2 with ⟨h1, rfl⟩ | ⟨g, c, cur, h1, _⟩
  · injection h1
  · injection h1
theorem grow1_new {out : List Md} {m : Md} (h : out.getLast?.map (·.1) ≠ some m.1) : grow1 out m = out ++ [m] := if_neg h
theorem set_last {α : Type} (l : List α) (a b : α) : (l ++ [a]).set l.length b = l ++ [b] := by
  rw [List.set_append_right _ _ (Nat.le_refl _)]; simp
theorem grow1_same {L : List (ByteArray × ByteArray)} {x y p q : ByteArray} (h : x = p) : grow1 (mdTs (L ++ [(x, y)])) (p.data.toList, q.data.toList) = mdTs ((L ++ [(x, y)]).set L.length (p, q)) := by
  subst h
  rw [set_last, mdTs_sn, mdTs_sn]
  unfold grow1
  rw [if_pos (by simp)]
  simp
theorem grow1_less {L : List (ByteArray × ByteArray)} {x y p q : ByteArray} (h : x ≠ p) : grow1 (mdTs (L ++ [(x, y)])) (p.data.toList, q.data.toList) = mdTs (L ++ [(x, y)] ++ [(p, q)]) := by
  rw [mdTs_sn (L ++ [(x, y)]), mdTs_sn L]
  refine grow1_new ?_
  simp only [List.getLast?_append, List.getLast?_singleton, Option.some_or, Option.map_some]
  exact fun e => h (bytes_eq.1 (Option.some.inj e))
theorem grow1_nil (p q : ByteArray) : grow1 (mdTs []) (p.data.toList, q.data.toList) = mdTs [(p, q)] := rfl
set_option maxHeartbeats 4000000 in
set_option maxRecDepth 100000 in
theorem greatest_calls (v : Value) (l : List Md) (w : World) (h : ModsAt w v l) (hl : l.length ≤ 1000000) :
    Calls Tryz.prog 75 #[v] w fun e w' => (∃ v' L, e = .returned v' ∧ mdTs L = greatest l ∧ w'.ownsRow w.heap.size 29 2 v' L.length (mdVs L)) ∧ Below w.heap.size w w' := by
  obtain ⟨i0, hi, hz0, hz1, hz2⟩ := info_parts Tryz.infoMod
  obtain ⟨a, n, cap, P, V, rfl, rfl, hnc, hcap, hc⟩ := h
  rw [mdF_length] at hl
  replace hc := Lib.hid hc
  go_enter Tryz.func75, Tryz.ntmps75
  go_wp2_with fail
  go_loopw [3, 9] (fun o i wr => ∃ (k : Nat) (L : List (ByteArray × ByteArray)), k ≤ n ∧ i = .int .i64 k ∧ Hid (wr.ownsRow w.heap.size 29 2 o L.length (mdVs L)) ∧ L.length ≤ k ∧ Hid (mdTs L = greatest ((mdF n P V).take k)) ∧ Below w.heap.size w wr) (fun _ i _ => n - (intOf i).toNat)
  case atStart => exact ⟨0, [], Nat.zero_le _, rfl, Lib.hid (World.ownsRow_nil _ _ _ _), Nat.le_refl _, Lib.hid rfl, Below.refl _ _⟩
  case round =>
    obtain ⟨k, L, hk, rfl, hO, hLk, hT, hBr⟩ := hrel
    obtain ⟨ao, no, co, rfl⟩ := own_form hO.out
    have hown := Lib.hid (fun q (e : (Value.slice ao no co).ownBlock = some q) => (hO.out.lt q e).1)
    by_cases hlt : k < n
    · have hkn : (k : Int) < (n : Int) := by omega
      obtain ⟨b1, o1, ea, c0, c1⟩ := hc.out k hlt
      replace c0 := Below.cell_some hBr c0
      replace c1 := Below.cell_some hBr c1
      have HTK := Lib.hid (mdF_take_succ n P V k hlt)
      subst ea
      have hba := below_alloc wr (.cells #[.string (P k), .string (V k)] 29)
      obtain ⟨y0, y1, _⟩ := box2_alloc wr (.string (P k)) (.string (V k)) 29
      rcases List.eq_nil_or_concat L with rfl | ⟨L', ⟨x, y⟩, hLc⟩
      · have hn0 : no = 0 := own_len hO.out
        subst hn0
        have HN : Hid (mdTs ([] ++ [(P k, V k)]) = greatest ((mdF n P V).take (k + 1))) := Lib.hid (by
          rw [HTK.out, greatest_snoc, ← hT.out]; exact (grow1_nil _ _).symm)
        have hOa := ownsRow_kept hO.out hba
        have hBa := below_step hBr hba
        clear hT HTK hO hBr
        go_wp2_with fail
        have hx1 : decide ((-1 : Int) ≥ 0) = false := by decide
        have hx2 : decide ((0 : Int) ≤ -1) = false := by decide
        generalize wr.alloc (.cells #[.string (P k), .string (V k)] 29) = wa at *
        refine wp_region_quiet_patch (by kernel_rfl) (by kernel_rfl) ?_
        repeat (go_big_quiet_step (fail))
        refine wpQuiet_nil ?_
        intro _ hw'
        obtain ⟨⟨dq, osq⟩, hw''⟩ := hw'
        subst hw''
        have hb := below_patch wa dq osq
        replace hBa := below_step hBa hb
        replace hOa := hOa.below hb
        replace y0 := Below.cell_some hb y0
        replace y1 := Below.cell_some hb y1
        clear hb
        generalize patch wa dq osq = w5 at hBa hOa y0 y1 ⊢
        have HO := Lib.hid hOa
        clear hOa hx1 hx2
        have hBr := hBa
        have hLk : ([] : List (ByteArray × ByteArray)).length ≤ k := by simp
        go_wp2_with (at_builtin; refine wpList_append_own _ rfl _ _ 23 rfl w.heap.size 29 i0 (.agg #[.string ⟨#[]⟩, .string ⟨#[]⟩]) 2 32 Tryz.underlying23 hi hz0 hz1 hz2 rfl (by decide) _ _ _ rfl (HO.out.alloc _) ⟨w5.heap.size, 0, none⟩ 1 1 [.string (P k), .string (V k)] rfl rfl (cell_two_new _ _ _ _) (by intro u hu; simp at hu; rcases hu with rfl | rfl <;> rfl) (by unfold maxLen; omega) (by omega) (by have := hBr.size; simp; omega) ?_; intro o' w4 hown4 hgrow4 _)
        go_roundw
        case rel =>
          refine ⟨k + 1, [] ++ [(P k, V k)], by omega, by go_num, Lib.hid ?_, by first | (simp at hLk ⊢; omega) | (simp at hLk ⊢), HN, ?_⟩
          · rw [List.length_append, List.length_singleton, ← mdVs_snoc]
            exact hown4
          · exact (hBr.alloc hBr.size _).grown hgrow4 (by have := hBr.size; simp; omega) hown.out
        case measure => simp [intOf]; omega
      · rw [List.concat_eq_append] at hLc
        subst hLc
        have hT1 := hT.out
        have hOs := hO.out
        have hlx : L'.length < (L' ++ [(x, y)]).length := by simp
        obtain ⟨ag, rfl⟩ : ∃ g, ao = some ⟨g, 0, none⟩ := by
          rcases hO.out.2 with ⟨_, h1⟩ | ⟨g, c, cur, h1, _⟩
          · simp at h1
          · injection h1 with h1; exact ⟨g, h1⟩
        obtain ⟨d0, d1, hno⟩ := own_cells (i := L'.length) (x := x) (y := y) hOs (by simp)
        have hnl : no = L'.length + 1 := by rw [hno]; simp
        clear hno
        subst hnl
        replace d0 := Below.cell_some hba d0
        replace d1 := Below.cell_some hba d1
        have hOa := ownsRow_kept hO.out hba
        have hBa := below_step hBr hba
        have hw1 := wrap_nat L'.length (by simp at hLk; omega)
        have hm1 : ((L'.length + 1 : Nat) : Int) - 1 = (L'.length : Int) := by omega
        clear hT hO
        have hnn1 : decide ((L'.length : Int) ≥ 0) = true := decide_eq_true (by omega)
        have hnn2 : decide (0 ≤ (L'.length : Int)) = true := decide_eq_true (by omega)
        by_cases hxp : x = P k
        · subst hxp
          go_wp2_with fail
          generalize wr.alloc (.cells #[.string (P k), .string (V k)] 29) = wa at *
          have kqd0 := fun d os => cell_patch (d := d) (os := os) d0
          have kqy0 := fun d os => cell_patch (d := d) (os := os) y0
          refine wp_region_quiet_patch (by kernel_rfl) (by kernel_rfl) ?_
          repeat (go_big_quiet_step (fail))
          refine wpQuiet_nil ?_
          intro _ hw'
          obtain ⟨⟨dq, osq⟩, hw''⟩ := hw'
          subst hw''
          clear kqd0 kqy0
          have hb := below_patch wa dq osq
          replace hBa := below_step hBa hb
          replace hOa := hOa.below hb
          replace y0 := Below.cell_some hb y0
          replace y1 := Below.cell_some hb y1
          clear hb
          generalize patch wa dq osq = w5 at hBa hOa y0 y1 ⊢
          clear d0 d1
          obtain ⟨d0, d1, -⟩ := own_cells (i := L'.length) (x := P k) (y := y) hOa (by simp)
          have f0 := own_frozen (j := L'.length * 2) hOa
          have f1 := own_frozen (j := L'.length * 2 + 1) hOa
          have s1 : (w5.setCell ⟨ag, L'.length * 2, none⟩ (.string (P k))).cell? ⟨ag, L'.length * 2 + 1, none⟩ = some (.string y) := by rw [set_off _ (by omega)]; exact d1
          have s2 : (w5.setCell ⟨ag, L'.length * 2, none⟩ (.string (P k))).frozen? ⟨ag, L'.length * 2 + 1, none⟩ = false := by simpa using f1
          have HP := Lib.hid (own_put (i := L'.length) hOa (P k) (V k))
          have HN : Hid (mdTs ((L' ++ [(P k, y)]).set L'.length (P k, V k)) = greatest ((mdF n P V).take (k + 1))) := Lib.hid (by
            rw [HTK.out, greatest_snoc, ← hT1, grow1_same rfl])
          have hag := Lib.hid (hown.out ag rfl)
          have hLk2 := Lib.hid hLk
          clear hOa hOs hT1 HTK hLk hlx
          have hi1 : (L'.length : Int) < (L'.length : Int) + 1 := by omega
          go_wp2_with fail
          go_roundw
          case rel =>
            refine ⟨k + 1, (L' ++ [(P k, y)]).set L'.length (P k, V k), by omega, by go_num, HP, by rw [List.length_set]; have := hLk2.out; omega, HN, below_put hBa hag.out _ _⟩
          case measure => simp [intOf]; omega
        · have hq1 : (x.toList == (P k).toList) = false := by rw [toList_data, toList_data]; exact beq_eq_false_iff_ne.2 (fun e => hxp (bytes_eq.1 e))
          go_wp2_with fail
          generalize wr.alloc (.cells #[.string (P k), .string (V k)] 29) = wa at *
          have kqd0 := fun d os => cell_patch (d := d) (os := os) d0
          have kqy0 := fun d os => cell_patch (d := d) (os := os) y0
          refine wp_region_quiet_patch (by kernel_rfl) (by kernel_rfl) ?_
          repeat (go_big_quiet_step (fail))
          refine wpQuiet_nil ?_
          intro _ hw'
          obtain ⟨⟨dq, osq⟩, hw''⟩ := hw'
          subst hw''
          clear kqd0 kqy0
          have hb := below_patch wa dq osq
          replace hBa := below_step hBa hb
          replace hOa := hOa.below hb
          replace y0 := Below.cell_some hb y0
          replace y1 := Below.cell_some hb y1
          clear hb
          generalize patch wa dq osq = w5 at hBa hOa y0 y1 ⊢
          have HO := Lib.hid hOa
          have HN : Hid (mdTs (L' ++ [(x, y)] ++ [(P k, V k)]) = greatest ((mdF n P V).take (k + 1))) := Lib.hid (by
            rw [HTK.out, greatest_snoc, ← hT1, grow1_less hxp])
          have hLk2 : L'.length + 1 ≤ k := by simpa using hLk
          replace hBr := hBa
          clear hOa hOs hT1 HTK d0 d1
          go_wp2_with (at_builtin; refine wpList_append_own _ rfl _ _ 23 rfl w.heap.size 29 i0 (.agg #[.string ⟨#[]⟩, .string ⟨#[]⟩]) 2 32 Tryz.underlying23 hi hz0 hz1 hz2 rfl (by decide) _ _ _ rfl (HO.out.alloc _) ⟨w5.heap.size, 0, none⟩ 1 1 [.string (P k), .string (V k)] rfl rfl (cell_two_new _ _ _ _) (by intro u hu; simp at hu; rcases hu with rfl | rfl <;> rfl) (by unfold maxLen; omega) (by omega) (by have := hBr.size; simp; omega) ?_; intro o' w4 hown4 hgrow4 _)
          go_roundw
          case rel =>
            refine ⟨k + 1, (L' ++ [(x, y)]) ++ [(P k, V k)], by omega, by go_num, Lib.hid ?_, by first | (simp at hLk ⊢; omega) | (simp at hLk ⊢), HN, ?_⟩
            · rw [List.length_append, List.length_singleton, ← mdVs_snoc]
              exact hown4
            · exact (hBr.alloc hBr.size _).grown hgrow4 (by have := hBr.size; simp; omega) hown.out
          case measure => simp [intOf]; omega
    · obtain rfl : k = n := by omega
      have HF : Hid (mdTs L = greatest (mdF k P V)) := Lib.hid (by rw [hT.out, mdF_take_all])
      have HOr := hO
      clear hT hlt
      go_wp2_with fail
      go_ret
      exact ⟨⟨_, L, rfl, HF.out, HOr.out⟩, hBr⟩
end Go.Proofs.Pw

namespace Go.Proofs.Pw
open Go.RowKit
open Go.Lib hiding intOf
theorem EntsIn.forms {w : World} {a n cap P V R K B Rv Kv} (h : EntsIn w a n cap P V R K B Rv Kv) {j : Nat} (hj : j < n) : ∃ a1 n1 c1 a2 n2 c2, Rv j = .slice a1 n1 c1 ∧ Kv j = .slice a2 n2 c2 := by
  obtain ⟨a1, n1, c1, _, _, e1, _⟩ := h.reqs j hj
  obtain ⟨a2, n2, c2, _, e2, _⟩ := h.packs j hj
  exact ⟨_, _, _, _, _, _, e1, e2⟩
def TestsE (g : Nat) (lb : Array Value) (p : Nat → Bool) (n : Nat) (P V : Nat → ByteArray) (Rv Kv : Nat → Value) (B : Nat → Bool) (base : Nat) (w : World) : Prop :=
  ∀ W, Below base w W → ∀ j, j < n → Calls Tryz.prog g (#[.agg #[.string (P j), .string (V j), Rv j, Kv j, .bool (B j)]] ++ lb) W fun e w'' => e = .returned (.bool (p j)) ∧ Below W.heap.size W w''
set_option maxHeartbeats 1000000 in
set_option maxRecDepth 100000 in
theorem indexFuncE_calls (g : Nat) (lb : Array Value) (eg : ∀ args w, (callFunc g args).run Tryz.prog w = .ok (.enter g args) w) (p : Nat → Bool) (q : En → Bool) (a : Option Addr) (n cap base : Nat) (P V : Nat → ByteArray) (R : Nat → List Md) (K : Nat → List Str) (B : Nat → Bool) (Rv Kv : Nat → Value) (w : World) (hn : n ≤ 1000000) (hbase : base ≤ w.heap.size)
    (hc : EntsIn w a n cap P V R K B Rv Kv) (hq : ∀ j, j < n → q (enAt (enF n P V R K B) j) = p j) (hT : TestsE g lb p n P V Rv Kv B base w) :
    Calls Tryz.prog 115 #[.slice a n cap, .func (.func g) #[] lb] w fun e w' => e = .returned (.int .i64 (findI q (enF n P V R K B))) ∧ Below w.heap.size w w' := by
  replace hc := Lib.hid hc
  replace hT := Lib.hid hT
  replace hq := Lib.hid hq
  go_enter Tryz.func115, Tryz.ntmps115
  go_wp2_with fail
  go_loopw [8] (fun i wr => ∃ k : Nat, k ≤ n ∧ i = .int .i64 k ∧ Below w.heap.size w wr ∧ Hid (∀ j, j < k → p j = false)) (fun i _ => n - (intOf i).toNat)
  case atStart => exact ⟨0, by omega, rfl, Below.refl _ _, Lib.hid (fun j hj => absurd hj (Nat.not_lt_zero _))⟩
  case round =>
    obtain ⟨k, hk, rfl, hb, HA⟩ := hrel
    by_cases hlt : k < n
    · obtain ⟨b1, o1, rfl, hcell⟩ := hc.out.at_ k hlt
      obtain ⟨c0, c1, c2, c3, c4⟩ := hcell.below hb
      have hcall := hT.out wr (hb.mono hbase) k hlt
      have hget := enF_get n P V R K B k hlt
      obtain ⟨a1, n1, s1, a2, n2, s2, e1, e2⟩ := hc.out.forms hlt
      rw [e1] at c2
      rw [e2] at c3
      rw [e1, e2] at hcall
      clear hcell
      cases hp : p k with
      | true =>
        have HR : Hid (findI q (enF n P V R K B) = k) := Lib.hid (findI_hit hget (by have := hq.out k hlt; rw [enAt_enF hlt] at this; rw [this, hp]) (fun j y hj hy => by
          rw [enF_get n P V R K B j (by omega)] at hy
          have h1 := hq.out j (by omega)
          rw [enAt_enF (by omega)] at h1
          cases hy
          rw [h1]; exact HA.out j hj))
        rw [hp] at hcall
        clear hp hget e1 e2
        go_wp2_with (go_at_fn g; refine hcall.mono ?_; rintro e w' ⟨rfl, hb2⟩)
        go_ret
        rw [HR.out]
        exact ⟨rfl, below_step hb hb2⟩
      | false =>
        have HN : Hid (∀ j, j < k + 1 → p j = false) := Lib.hid (fun j hj => by
          by_cases e : j = k
          · subst e; exact hp
          · exact HA.out j (by omega))
        rw [hp] at hcall
        clear hp hget e1 e2
        go_wp2_with (go_at_fn g; refine hcall.mono ?_; rintro e w' ⟨rfl, hb2⟩)
        go_roundw
        case rel => exact ⟨k + 1, by omega, by go_num, below_step hb hb2, HN⟩
        case measure => simp [intOf]; omega
    · obtain rfl : k = n := by omega
      have HR : Hid (findI q (enF k P V R K B) = -1) := Lib.hid (findI_none (fun j y hy => by
        have hj : j < k := by have := (List.getElem?_eq_some_iff.1 hy).1; rwa [enF_length] at this
        have h1 := hq.out j hj
        rw [enAt_enF hj] at h1
        rw [enF_get k P V R K B j hj] at hy
        cases hy
        rw [h1]; exact HA.out j hj))
      go_wp2_with fail
      go_ret
      rw [HR.out]
      exact ⟨rfl, hb⟩
theorem Tryz.enters_ifind1 : ∀ args w, (callFunc 116 args).run Tryz.prog w = .ok (.enter 116 args) w := Go.Proofs.enters_of Tryz.func116 (by kernel_rfl) rfl
theorem idxFind1_calls (p v s u : ByteArray) (a1 a2 : Option Addr) (n1 c1 n2 c2 : Nat) (bk : Bool) (b : Nat) (w : World) (h0 : w.cell? ⟨b, 0, none⟩ = some (.string s)) (h1 : w.cell? ⟨b, 1, none⟩ = some (.string u)) :
    Calls Tryz.prog 116 #[.agg #[.string p, .string v, .slice a1 n1 c1, .slice a2 n2 c2, .bool bk], .pointer (some ⟨b, 0, none⟩)] w fun e w' => e = .returned (.bool (decide (p = s ∧ v = u))) ∧ Below w.heap.size w w' := by
  have hb := below_alloc w (.cells #[.string p, .string v, .slice a1 n1 c1, .slice a2 n2 c2, .bool bk] 37)
  have d0 := Below.cell_some hb h0
  have d1 := Below.cell_some hb h1
  have hg := Tryz.md_guard
  have hq := md_eql p v s u
  generalize decide (p = s ∧ v = u) = X at hq ⊢
  go_enter Tryz.func116, Tryz.ntmps116
  go_wp2_with fail
  go_ret
  exact ⟨rfl, hb⟩
theorem idxFind_in (a : Option Addr) (n cap : Nat) (P V : Nat → ByteArray) (R : Nat → List Md) (K : Nat → List Str) (B : Nat → Bool) (Rv Kv : Nat → Value) (p v : ByteArray) (w : World) (h : EntsIn w a n cap P V R K B Rv Kv) (hl : n ≤ 1000000) :
    Calls Tryz.prog 48 #[.slice a n cap, .agg #[.string p, .string v]] w fun e w' => e = .returned (.int .i64 (findE (enF n P V R K B) (p.data.toList, v.data.toList))) ∧ Below w.heap.size w w' := by
  have hb := below_alloc w (.cells #[.string p, .string v] 29)
  have hz := box2_alloc w (.string p) (.string v) 29
  have hi := indexFuncE_calls 116 #[.pointer (some ⟨w.heap.size, 0, none⟩)] Tryz.enters_ifind1 (fun j => decide (P j = p ∧ V j = v)) (isMd (p.data.toList, v.data.toList)) a n cap (w.alloc (.cells #[.string p, .string v] 29)).heap.size P V R K B Rv Kv (w.alloc (.cells #[.string p, .string v] 29)) hl (Nat.le_refl _) (h.below hb)
    (fun j hj => by
      rw [enAt_enF hj]
      unfold isMd
      rw [Bool.eq_iff_iff, decide_eq_true_iff, decide_eq_true_iff]
      exact bytes_pair)
    (fun W hW j hj => by
      obtain ⟨a1, n1, s1, a2, n2, s2, e1, e2⟩ := h.forms hj
      rw [e1, e2]
      exact idxFind1_calls (P j) (V j) p v a1 a2 n1 s1 n2 s2 (B j) w.heap.size W (Below.cell_some hW hz.c0) (Below.cell_some hW hz.c1))
  show Calls _ _ _ _ fun e w' => e = .returned (.int .i64 (findI (isMd (p.data.toList, v.data.toList)) (enF n P V R K B))) ∧ Below w.heap.size w w'
  generalize findI (isMd (p.data.toList, v.data.toList)) (enF n P V R K B) = x at hi ⊢
  replace hi := Lib.hid hi
  clear hz h
  go_enter Tryz.func48, Tryz.ntmps48
  go_wp2_with fail
  refine hi.out.mono ?_
  rintro e w1 ⟨rfl, hb1⟩
  go_wp2_with fail
  go_ret
  exact ⟨rfl, below_step hb hb1⟩
end Go.Proofs.Pw
