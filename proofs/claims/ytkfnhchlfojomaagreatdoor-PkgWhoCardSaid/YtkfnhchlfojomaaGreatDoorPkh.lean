/- Pk: walks and plain laws, joined: RefQuery RefPacks WithS SelFault. Conditions: at each theorem. -/
import Derived.Deep.RegionHeld2
import Derived.Deep.Upon
import Derived.Test.YtkfnhchlfojomaaGreatDoorPfa
import Derived.Test.YtkfnhchlfojomaaGreatDoorPfb
import Derived.Test.YtkfnhchlfojomaaGreatDoorPfc
import Derived.Test.YtkfnhchlfojomaaGreatDoorPfd
import Derived.Test.YtkfnhchlfojomaaGreatDoorPfe
import Derived.Test.YtkfnhchlfojomaaGreatDoorPff
import Derived.Test.YtkfnhchlfojomaaGreatDoorPfg
import Derived.Test.YtkfnhchlfojomaaGreatDoorPfh
import Derived.Test.YtkfnhchlfojomaaGreatDoorPfi
import Derived.Test.YtkfnhchlfojomaaGreatDoorPfj
import Derived.Test.YtkfnhchlfojomaaGreatDoorPfk
import Derived.Test.YtkfnhchlfojomaaGreatDoorPfl
import Derived.Test.YtkfnhchlfojomaaGreatDoorPfm
import Derived.Test.YtkfnhchlfojomaaGreatDoorPfn
import Derived.Test.YtkfnhchlfojomaaGreatDoorPfo
import Derived.Test.YtkfnhchlfojomaaGreatDoorPfp
import Derived.Test.YtkfnhchlfojomaaGreatDoorPfq
import Derived.Test.YtkfnhchlfojomaaGreatDoorPfr
import Derived.Test.YtkfnhchlfojomaaGreatDoorPfs
import Derived.Test.YtkfnhchlfojomaaGreatDoorPft
import Derived.Test.YtkfnhchlfojomaaGreatDoorPfu
import Derived.Test.YtkfnhchlfojomaaGreatDoorPfv
import Derived.Test.YtkfnhchlfojomaaGreatDoorPfw
import Derived.Test.YtkfnhchlfojomaaGreatDoorPfx
import Derived.Test.YtkfnhchlfojomaaGreatDoorPfy
import Derived.Test.YtkfnhchlfojomaaGreatDoorPfz
import Derived.Test.YtkfnhchlfojomaaGreatDoorPfza
import Derived.Test.YtkfnhchlfojomaaGreatDoorPfzb
import Derived.Test.YtkfnhchlfojomaaGreatDoorPfzc
import Derived.Test.YtkfnhchlfojomaaGreatDoorPfze
import Derived.Test.YtkfnhchlfojomaaGreatDoorPka
import Derived.Test.YtkfnhchlfojomaaGreatDoorPkb
import Derived.Test.YtkfnhchlfojomaaGreatDoorPkc
import Derived.Test.YtkfnhchlfojomaaGreatDoorPkd
import Derived.Test.YtkfnhchlfojomaaGreatDoorPke
import Derived.Test.YtkfnhchlfojomaaGreatDoorPkf
import Derived.Test.YtkfnhchlfojomaaGreatDoorPkg

namespace Go.Proofs.Pw
open Go.RowKit
open Go.Lib hiding intOf
set_option maxHeartbeats 1000000 in
set_option maxRecDepth 100000 in
theorem inTexts_calls (s : ByteArray) (v : Value) (l : List Str) (w : World) (h : StrsAt w v l) (hl : l.length ≤ 1000000) :
    Calls Tryz.prog 31 #[.string s, v] w fun e w' => e = .returned (.bool (decide (s.data.toList ∈ l))) ∧ Below w.heap.size w w' := by
  obtain ⟨a, n, cap, L, rfl, rfl, hnc, hcap, hc⟩ := h
  rw [lstF_length] at hl
  replace hc := Lib.hid hc
  go_enter Tryz.func31, Tryz.ntmps31
  go_wp2_with fail
  go_loopw [5] (fun i wr => ∃ k : Nat, k ≤ n ∧ i = .int .i64 k ∧ Below w.heap.size w wr ∧ Hid (∀ j, j < k → (L j).data.toList ≠ s.data.toList)) (fun i _ => n - (intOf i).toNat)
  case atStart => exact ⟨0, Nat.zero_le _, rfl, Below.refl _ _, Lib.hid (fun j hj => absurd hj (Nat.not_lt_zero _))⟩
  case round =>
    obtain ⟨k, hk, rfl, hB, HA⟩ := hrel
    by_cases hlt : k < n
    · have hkn : (k : Int) < (n : Int) := by omega
      obtain ⟨b1, o1, ea, c0⟩ := hc.out k hlt
      replace c0 := Below.cell_some hB c0
      subst ea
      have hwk := wrap_nat (k + 1) (by omega)
      by_cases he : (L k).data.toList = s.data.toList
      · have HF : Hid (decide (s.data.toList ∈ lstF n L) = true) := Lib.hid (decide_eq_true (lstF_mem'.2 ⟨k, hlt, he⟩))
        have q1 : ((L k).toList == s.toList) = true := by rw [toList_data, toList_data, he]; simp
        clear he hwk
        go_wp2_with fail
        go_ret
        rw [HF.out]
        exact ⟨rfl, hB⟩
      · have HN : Hid (∀ j, j < k + 1 → (L j).data.toList ≠ s.data.toList) := Lib.hid (fun j hj => by
          by_cases e : j = k
          · subst e; exact he
          · exact HA.out j (by omega))
        have q1 : ((L k).toList == s.toList) = false := by rw [toList_data, toList_data]; exact beq_eq_false_iff_ne.2 he
        clear he hwk
        go_wp2_with fail
        go_roundw
        case rel => exact ⟨k + 1, by omega, by go_num, hB, HN⟩
        case measure => simp [intOf]; omega
    · have HF : Hid (decide (s.data.toList ∈ lstF n L) = false) := Lib.hid (decide_eq_false (fun h => by
        obtain ⟨j, hj, e⟩ := lstF_mem'.1 h
        exact HA.out j (by omega) e))
      have hkn : ¬ (k : Int) < (n : Int) := by omega
      go_wp2_with fail
      go_ret
      rw [HF.out]
      exact ⟨rfl, hB⟩
end Go.Proofs.Pw

namespace Go.Proofs.Pw
open Go.RowKit
open Go.Lib hiding intOf
set_option maxHeartbeats 4000000 in
set_option maxRecDepth 100000 in
theorem refPacks_calls (p v : ByteArray) (a1 : Option Addr) (n1 s1 : Nat) (kv : Value) (b : Bool) (K : List Str) (w : World) (hk : StrsAt w kv K) (hl : K.length ≤ 1000000) (hp : p.size ≤ 1000000) (hls : ∀ x ∈ K, x.length ≤ 1000000) :
    Calls Tryz.prog 120 #[.agg #[.string p, .string v, .slice a1 n1 s1, kv, .bool b]] w fun e w' => (∃ v', e = .returned v' ∧ StrsAt w' v' (K.map (packP p.data.toList))) ∧ Below w.heap.size w w' := by
  obtain ⟨i0, hi, hz0, hz1, hz2⟩ := info_parts Tryz.infoString
  obtain ⟨a2, n, s2, L, rfl, rfl, _, _, hc⟩ := hk
  rw [lstF_length] at hl
  have hB := below_alloc w (.cells #[.string p, .string v, .slice a1 n1 s1, .slice a2 n s2, .bool b] 37)
  have y0 : (w.alloc (.cells #[.string p, .string v, .slice a1 n1 s1, .slice a2 n s2, .bool b] 37)).cell? ⟨w.heap.size, 0, none⟩ = some (.string p) := by simp
  have y3 : (w.alloc (.cells #[.string p, .string v, .slice a1 n1 s1, .slice a2 n s2, .bool b] 37)).cell? ⟨w.heap.size, 3, none⟩ = some (.slice a2 n s2) := by simp
  have Y0 := Lib.hid y0
  have Y3 := Lib.hid y3
  replace hc := Lib.hid hc
  clear y0 y3
  go_enter Tryz.func120, Tryz.ntmps120
  go_wp2_with fail
  generalize w.alloc (.cells #[.string p, .string v, .slice a1 n1 s1, .slice a2 n s2, .bool b] 37) = w1 at *
  go_loopw [3, 4] (fun o i wr => ∃ (k : Nat) (T : List ByteArray), k ≤ n ∧ i = .int .i64 k ∧ Hid (wr.ownsRow w1.heap.size 9 1 o T.length (strVs T)) ∧ T.length ≤ k ∧ Hid (strTs T = ((lstF n L).take k).map (packP p.data.toList)) ∧ Below w1.heap.size w1 wr) (fun _ i _ => n - (intOf i).toNat)
  case atStart => exact ⟨0, [], Nat.zero_le _, rfl, Lib.hid (World.ownsRow_nil _ _ _ _), Nat.le_refl _, Lib.hid rfl, Below.refl _ _⟩
  case round =>
    obtain ⟨k, T, hk, rfl, hO, hTk, hT, hB1⟩ := hrel
    have hBr := below_step hB hB1
    have y0 := Below.cell_some hB1 Y0.out
    have y3 := Below.cell_some hB1 Y3.out
    by_cases hlt : k < n
    · obtain ⟨ao, no, co, rfl⟩ := own_form hO.out
      have hkn : (k : Int) < (n : Int) := by omega
      obtain ⟨b1, o1, ea, c0⟩ := hc.out k hlt
      have hc00 := c0
      replace c0 := Below.cell_some hBr c0
      subst ea
      have hTk2 : ((lstF n L).take (k + 1)).map (packP p.data.toList) = strTs T ++ [packP p.data.toList (L k).data.toList] := by
        rw [List.take_add_one, lstF_get n L k hlt, List.map_append, hT.out]; rfl
      have hxz : (L k).size ≤ 1000000 := by rw [size_eq]; exact hls _ (lstF_mem'.2 ⟨k, hlt, rfl⟩)
      generalize L k = x at c0 hc00 hTk2 hxz
      have HC0 := Lib.hid hc00
      clear hc00
      by_cases hd : x.data.toList = [46]
      · have q1 : (x.toList == [46]) = true := by rw [toList_data, hd]; rfl
        have HN : Hid (strTs (T ++ [p]) = ((lstF n L).take (k + 1)).map (packP p.data.toList)) := Lib.hid (by
          rw [hTk2, strTs_snoc]
          unfold packP
          rw [if_pos hd])
        clear hTk2 hT hd
        go_wp2_with (at_builtin; refine wpList_append_own _ rfl _ _ 35 rfl w1.heap.size 9 i0 (.string ⟨#[]⟩) 1 16 Tryz.underlying35 hi hz0 hz1 hz2 rfl (by decide) _ _ _ rfl (hO.out.alloc _) ⟨wr.heap.size, 0, none⟩ 1 1 [.string (p)] rfl rfl (cell_one_new _ _ _) (fun x hx => by simp at hx; subst hx; rfl) (by unfold maxLen; omega) (by omega) (by have := hB1.size; simp; omega) ?_; intro o' w4 hown4 hgrow4 _)
        go_roundw
        case rel =>
          refine ⟨k + 1, T ++ [p], by omega, by go_num, Lib.hid ?_, by simp; omega, HN, ?_⟩
          · rw [List.length_append, List.length_singleton, ← strVs_snoc]; exact hown4
          · exact (hB1.alloc hB1.size _).grown hgrow4 (by have := hB1.size; simp; omega) (fun q hq => (hO.out.lt q hq).1)
        case measure => simp [intOf]; omega
      · have q1 : (x.toList == [46]) = false := by rw [toList_data]; exact beq_eq_false_iff_ne.2 hd
        have HN : Hid (strTs (T ++ [p ++ ⟨#[47]⟩ ++ x]) = ((lstF n L).take (k + 1)).map (packP p.data.toList)) := Lib.hid (by
          rw [hTk2, strTs_snoc, app_byP, app_byP]
          unfold packP
          rw [if_neg hd]
          simp)
        clear hTk2 hT hd
        have hbW := hB1.drew
        have HO2 := hO
        have hheld := fun (W : World) (h : Below w1.heap.size w1 W) => (⟨⟨Below.cell_some h Y0.out, Below.cell_some h Y3.out, Below.cell_some (below_step hB h) HC0.out⟩, h⟩ : (W.cell? ⟨w.heap.size, 0, none⟩ = some (.string p) ∧ W.cell? ⟨w.heap.size, 3, none⟩ = some (.slice (some ⟨b1, o1, none⟩) n s2) ∧ W.cell? ⟨b1, o1 + k, none⟩ = some (.string x)) ∧ Below w1.heap.size w1 W)
        clear y0 y3 c0
        have hq1 : ¬ 9223372036854775807 < p.size + 1 := by omega
        have hq2 : ¬ 9223372036854775807 < p.size + 1 + x.size := by omega
        go_wp2_with fail
        go_region_held2 (fun W => (W.cell? ⟨w.heap.size, 0, none⟩ = some (.string p) ∧ W.cell? ⟨w.heap.size, 3, none⟩ = some (.slice (some ⟨b1, o1, none⟩) n s2) ∧ W.cell? ⟨b1, o1 + k, none⟩ = some (.string x)) ∧ Below w1.heap.size w1 W) (first | exact hheld _ hbW8 | exact hheld _ (hbW.alloc hbW.size _) | exact hheld _ hbW) (first | (refine step_append_lies _ rfl (.tmp 24) (.tmp 35) 35 rfl w1.heap.size 9 i0 (.string ⟨#[]⟩) 1 16 Tryz.underlying35 hi hz0 hz1 hz2 rfl (by decide) (.slice ao no co) T.length (strVs T) (by simp [Act.eval]) (HO2.out.alloc _) ⟨wr.heap.size, 0, none⟩ 1 1 [.string (p ++ ⟨#[47]⟩ ++ x)] (by simp [Act.eval]) rfl (cell_one_new wr _ _) (fun u hu => by simp at hu; subst hu; rfl) (by decide) (by unfold maxLen; omega) (by omega) (by have := hB1.size; simp; omega) _ rfl ?_; intro g7 c7 w8 hown8 hgrow8 hg8 hl8; have hbW8 := (hbW.alloc hbW.size _).grown hgrow8 (by have := hB1.size; simp; omega) (fun q hq => (HO2.out.lt q hq).1)))
        all_goals
          go_wp2_with fail
          go_roundw
          case rel =>
            refine ⟨k + 1, T ++ [p ++ ⟨#[47]⟩ ++ x], by omega, by go_num, Lib.hid ?_, by simp; omega, HN, hbW8⟩
            rw [List.length_append, List.length_singleton, ← strVs_snoc]
            exact hown8
          case measure => simp [intOf]; omega
    · obtain rfl : k = n := by omega
      have hSo := strsAt_own hO.out
      rw [hT.out, List.take_of_length_le (by rw [lstF_length]; exact Nat.le_refl _)] at hSo
      have hkn : ¬ (k : Int) < (k : Int) := by omega
      obtain ⟨ao, no, co, rfl⟩ := own_form hO.out
      replace hSo := Lib.hid hSo
      clear hO hT
      go_wp2_with fail
      go_ret
      exact ⟨⟨_, rfl, hSo.out⟩, hBr⟩
end Go.Proofs.Pw

namespace Go.Proofs.Pw
open Go.RowKit
open Go.Lib hiding intOf
set_option maxHeartbeats 2000000 in
set_option maxRecDepth 100000 in
theorem withS_calls (base : Nat) (o : Value) (P : List ByteArray) (s : ByteArray) (w : World) (hbase : base ≤ w.heap.size) (hacc : AccAt w base o P) (hl : P.length ≤ 1000000000000) :
    Calls Tryz.prog 121 #[o, .string s] w fun e w' => (∃ o' P', e = .returned o' ∧ AccAt w' base o' P' ∧ strTs P' = insU compareBytes s.data.toList (strTs P)) ∧ Below w.heap.size w w' := by
  obtain ⟨i0, hi, hz0, hz1, hz2⟩ := info_parts Tryz.infoString
  have hle := insAt_le compareBytes s.data.toList (strTs P)
  rw [strTs_length] at hle
  have hless : ∀ j x, j < insAt compareBytes s.data.toList (strTs P) → (strTs P)[j]? = some x → compareBytes x s.data.toList < 0 := fun j x h1 h2 => insAt_lessF h1 h2
  have hstop : ∀ x, (strTs P)[insAt compareBytes s.data.toList (strTs P)]? = some x → ¬ compareBytes x s.data.toList < 0 := fun x h => insAt_stopF h
  have hins := insU_at compareBytes s.data.toList (strTs P)
  generalize insAt compareBytes s.data.toList (strTs P) = q at hle hless hstop hins
  generalize insU compareBytes s.data.toList (strTs P) = X at hins ⊢
  replace hless := Lib.hid hless
  replace hstop := Lib.hid hstop
  replace hins := Lib.hid hins
  go_enter Tryz.func121, Tryz.ntmps121
  go_wp2_with fail
  go_loopw [5] (fun a w2 => ∃ j : Nat, j ≤ q ∧ a = .int .i64 j ∧ w2 = w) (fun a _ => P.length + 1 - (intOf a).toNat)
  case atStart => exact ⟨0, Nat.zero_le _, rfl, rfl⟩
  case round =>
    obtain ⟨j, hj, rfl, rfl⟩ := hrel
    by_cases hjl : j < P.length
    · have hjl' : (j : Int) < (P.length : Int) := by omega
      have hget := strTs_get hjl
      obtain ⟨g, c, hg1, rfl, hg3, hg4, hg5, hg6, hg7⟩ := id (hacc.resolve_left (fun h => by rw [h.1] at hjl; exact absurd hjl (Nat.not_lt_zero _)))
      have c2 := hg7 j hjl
      by_cases hlo : j < q
      · have hneg := hless.out _ _ hlo hget
        have hbl : Op.bytesLess (P.getD j ByteArray.empty).toList s.toList = true := by rw [toList_data, toList_data, bytesLess_iff]; exact decide_eq_true hneg
        clear hneg hget hg7
        generalize P.getD j ByteArray.empty = x at c2 hbl
        go_wp2_with fail
        go_roundw
        case rel => exact ⟨j + 1, by omega, by go_num, trivial⟩
        case measure => simp [intOf]; omega
      · obtain rfl : j = q := by omega
        have hnn := hstop.out _ hget
        generalize hxd : P.getD j ByteArray.empty = x at c2 hnn hget
        have hbl : Op.bytesLess x.toList s.toList = false := by rw [toList_data, toList_data, bytesLess_iff]; exact decide_eq_false (by omega)
        replace hget := Lib.hid hget
        replace hxd := Lib.hid hxd
        clear hnn
        by_cases hxs : x = s
        · have hbe : (x.toList == s.toList) = true := by rw [hxs]; simp
          have HN : Hid (X = strTs P) := Lib.hid (by rw [hins.out, if_pos (by rw [← hxs]; exact hget.out)])
          clear hxs hg7
          go_wp2_with fail
          go_ret
          exact ⟨⟨_, P, rfl, hacc, HN.out.symm⟩, Below.refl _ _⟩
        · have hbe : (x.toList == s.toList) = false := by rw [toList_data, toList_data]; exact beq_eq_false_iff_ne.2 (fun e => hxs (bytes_ext.1 e))
          have HN : Hid (X = strTs (P.take j ++ [s] ++ P.drop j)) := Lib.hid (ins_list (by rw [hget.out]; exact fun e => hxs (bytes_ext.1 (Option.some.inj e))) hins.out)
          clear hxs
          have gD : ∀ j, j < P.length → wr.cell? ⟨g, j, none⟩ = some (.string (P.getD j ByteArray.empty)) := hg7
          have GD := Lib.hid gD
          clear gD hg7 hacc
          go_wp2_with (at_builtin; first
            | (refine wpList_append_own _ rfl _ _ 35 rfl wr.heap.size 9 i0 (.string ⟨#[]⟩) 1 16 Tryz.underlying35 hi hz0 hz1 hz2 rfl (by decide) _ _ _ rfl (World.ownsRow_nil _ _ _ _) ⟨g, 0, none⟩ j c (strVs ((P.drop 0).take j)) rfl (by rw [strVs_length]; simp; omega) (acc_cells GD.out 0 j (by omega)) strVs_one (by unfold maxLen; omega) (by omega) (Nat.le_refl _) ?_; intro v3 w3 hown3 hgrow3 hnil3; have hb3 := (Below.refl wr.heap.size wr).grown hgrow3 (Nat.le_refl _) (fun k h => by cases h))
            | (refine wpList_append_own _ rfl _ _ 35 rfl wr.heap.size 9 i0 (.string ⟨#[]⟩) 1 16 Tryz.underlying35 hi hz0 hz1 hz2 rfl (by decide) _ _ _ rfl (hown3.alloc _) ⟨w3.heap.size, 0, none⟩ 1 1 [.string s] rfl rfl (cell_one_new _ _ _) (fun x hx => by simp at hx; subst hx; rfl) (by unfold maxLen; omega) (by omega) (by have := hb3.size; simp; omega) ?_; intro v4 w4 hown4 hgrow4 hnil4; have hb4 := (hb3.alloc hb3.size _).grown hgrow4 (by have := hb3.size; simp; omega) (fun q hq => (hown3.lt q hq).1))
            | (refine wpList_append_own _ rfl _ _ 35 rfl wr.heap.size 9 i0 (.string ⟨#[]⟩) 1 16 Tryz.underlying35 hi hz0 hz1 hz2 rfl (by decide) _ _ _ rfl hown4 ⟨g, j, none⟩ (P.length - j) (c - j) (strVs ((P.drop j).take (P.length - j))) rfl (by rw [strVs_length, List.length_take, List.length_drop]; omega) (acc_cells (fun i hi => Below.cell_some hb4 (GD.out i hi)) j (P.length - j) (by omega)) strVs_one (by unfold maxLen; omega) (by omega) hb4.size ?_; intro v5 w5 hown5 hgrow5 hnil5; have hb5 := hb4.grown hgrow5 hb4.size (fun q hq => (hown4.lt q hq).1)))
          have e1 : 0 + j + 1 + (P.length - j) = (P.take j ++ [s] ++ P.drop j).length := by simp; omega
          have e2 : [] ++ strVs ((P.drop 0).take j) ++ [.string s] ++ strVs ((P.drop j).take (P.length - j)) = strVs (P.take j ++ [s] ++ P.drop j) := by
            rw [List.take_of_length_le (l := P.drop j) (by rw [List.length_drop]; exact Nat.le_refl _)]
            simp [strVs]
          rw [e1, e2] at hown5
          have hacc5 := (accAt_own hown5 (by simp)).mono hbase
          go_ret
          first | exact ⟨⟨_, _, rfl, hacc5, HN.out.symm⟩, hb5⟩ | exact ⟨⟨_, rfl, _, hacc5, HN.out.symm⟩, hb5⟩
    · have hjP : j = P.length := by omega
      obtain rfl : j = q := by omega
      have hjl' : ¬ (j : Int) < (P.length : Int) := by omega
      have hnone : (strTs P)[j]? ≠ some s.data.toList := by rw [List.getElem?_eq_none (by rw [strTs_length]; omega)]; intro h; cases h
      have HN : Hid (X = strTs (P.take j ++ [s] ++ P.drop j)) := Lib.hid (ins_list hnone hins.out)
      clear hnone
      rcases id hacc with ⟨rfl, rfl⟩ | ⟨g, c, hg1, rfl, hg3, hg4, hg5, hg6, hg7⟩
      · obtain rfl : j = 0 := hjP
        have hn0 : ∀ W ty, (Builtin.append_ #[35, 35] ty #[.slice none 0 0, .slice none 0 0]).run Tryz.prog W = .ok (.slice none 0 0) W := fun W ty => run_append_owned_none W 0 35 ty 9 i0 1 Tryz.underlying35 hi (.slice none 0 0) 0 [] (World.ownsRow_nil _ _ _ _)
        have HN1 : Hid (X = strTs [s]) := HN
        clear hjl hjl' hj HN hle hins hless hstop hacc
        go_wp2_with (at_builtin; first
          | (refine wpList_append_own _ rfl _ _ 35 rfl wr.heap.size 9 i0 (.string ⟨#[]⟩) 1 16 Tryz.underlying35 hi hz0 hz1 hz2 rfl (by decide) _ _ _ rfl ((World.ownsRow_nil wr wr.heap.size 9 1).alloc _) ⟨wr.heap.size, 0, none⟩ 1 1 [.string s] rfl rfl (cell_one_new _ _ _) (fun x hx => by simp at hx; subst hx; rfl) (by unfold maxLen; omega) (by omega) (by simp) ?_; intro v4 w4 hown4 hgrow4 hnil4; have hb4 := ((Below.refl wr.heap.size wr).alloc (Nat.le_refl _) _).grown hgrow4 (by simp) (fun k h => by cases h); have hn4 := fun ty => run_append_owned_none w4 wr.heap.size 35 ty 9 i0 1 Tryz.underlying35 hi v4 _ _ hown4; replace hn4 := Lib.hid hn4)
          | (refine Lib.wpList_append_run _ rfl _ _ _ _ rfl v4 (.slice none 0 0) rfl rfl v4 w4 (hn4.out _) ?_))
        have hacc5 := (accAt_own (l := [s]) hown4 (by simp)).mono hbase
        go_ret
        exact ⟨⟨_, _, rfl, hacc5, HN1.out.symm⟩, hb4⟩
      · skip
        replace hjP := Lib.hid hjP
        by_cases hcq : j = c
        · subst hcq
          have gD : ∀ j, j < P.length → wr.cell? ⟨g, j, none⟩ = some (.string (P.getD j ByteArray.empty)) := hg7
          have GD := Lib.hid gD
          clear gD hg7 hacc
          go_wp2_with (at_builtin; first
            | (refine wpList_append_own _ rfl _ _ 35 rfl wr.heap.size 9 i0 (.string ⟨#[]⟩) 1 16 Tryz.underlying35 hi hz0 hz1 hz2 rfl (by decide) _ _ _ rfl (World.ownsRow_nil _ _ _ _) ⟨g, 0, none⟩ j j (strVs ((P.drop 0).take j)) rfl (by rw [strVs_length]; simp; omega) (acc_cells GD.out 0 j (by omega)) strVs_one (by unfold maxLen; omega) (by omega) (Nat.le_refl _) ?_; intro v3 w3 hown3 hgrow3 hnil3; have hb3 := (Below.refl wr.heap.size wr).grown hgrow3 (Nat.le_refl _) (fun k h => by cases h))
            | (refine wpList_append_own _ rfl _ _ 35 rfl wr.heap.size 9 i0 (.string ⟨#[]⟩) 1 16 Tryz.underlying35 hi hz0 hz1 hz2 rfl (by decide) _ _ _ rfl (hown3.alloc _) ⟨w3.heap.size, 0, none⟩ 1 1 [.string s] rfl rfl (cell_one_new _ _ _) (fun x hx => by simp at hx; subst hx; rfl) (by unfold maxLen; omega) (by omega) (by have := hb3.size; simp; omega) ?_; intro v4 w4 hown4 hgrow4 hnil4; have hb4 := (hb3.alloc hb3.size _).grown hgrow4 (by have := hb3.size; simp; omega) (fun q hq => (hown3.lt q hq).1))
            | (refine wpList_append_own _ rfl _ _ 35 rfl wr.heap.size 9 i0 (.string ⟨#[]⟩) 1 16 Tryz.underlying35 hi hz0 hz1 hz2 rfl (by decide) _ _ _ rfl hown4 ⟨g, 0, none⟩ 0 0 (strVs ((P.drop j).take (P.length - j))) rfl (by rw [strVs_length, List.length_take, List.length_drop]; omega) ((fun i u h => by have hl := (strVs_get h).1; have hj0 := hjP.out; rw [List.length_take, List.length_drop] at hl; omega)) strVs_one (by unfold maxLen; omega) (by omega) hb4.size ?_; intro v5 w5 hown5 hgrow5 hnil5; have hb5 := hb4.grown hgrow5 hb4.size (fun q hq => (hown4.lt q hq).1)))
          have e1 : 0 + j + 1 + 0 = (P.take j ++ [s] ++ P.drop j).length := by simp; omega
          have e2 : [] ++ strVs ((P.drop 0).take j) ++ [.string s] ++ strVs ((P.drop j).take (P.length - j)) = strVs (P.take j ++ [s] ++ P.drop j) := by
            rw [List.take_of_length_le (l := P.drop j) (by rw [List.length_drop]; exact Nat.le_refl _)]
            simp [strVs]
          rw [e1, e2] at hown5
          have hacc5 := (accAt_own hown5 (by simp)).mono hbase
          go_ret
          first | exact ⟨⟨_, _, rfl, hacc5, HN.out.symm⟩, hb5⟩ | exact ⟨⟨_, rfl, _, hacc5, HN.out.symm⟩, hb5⟩
        · have hcq2 : ¬ c = j := fun e => hcq e.symm
          have gD : ∀ j, j < P.length → wr.cell? ⟨g, j, none⟩ = some (.string (P.getD j ByteArray.empty)) := hg7
          have GD := Lib.hid gD
          clear gD hg7 hacc
          go_wp2_with (at_builtin; first
            | (refine wpList_append_own _ rfl _ _ 35 rfl wr.heap.size 9 i0 (.string ⟨#[]⟩) 1 16 Tryz.underlying35 hi hz0 hz1 hz2 rfl (by decide) _ _ _ rfl (World.ownsRow_nil _ _ _ _) ⟨g, 0, none⟩ j c (strVs ((P.drop 0).take j)) rfl (by rw [strVs_length]; simp; omega) (acc_cells GD.out 0 j (by omega)) strVs_one (by unfold maxLen; omega) (by omega) (Nat.le_refl _) ?_; intro v3 w3 hown3 hgrow3 hnil3; have hb3 := (Below.refl wr.heap.size wr).grown hgrow3 (Nat.le_refl _) (fun k h => by cases h))
            | (refine wpList_append_own _ rfl _ _ 35 rfl wr.heap.size 9 i0 (.string ⟨#[]⟩) 1 16 Tryz.underlying35 hi hz0 hz1 hz2 rfl (by decide) _ _ _ rfl (hown3.alloc _) ⟨w3.heap.size, 0, none⟩ 1 1 [.string s] rfl rfl (cell_one_new _ _ _) (fun x hx => by simp at hx; subst hx; rfl) (by unfold maxLen; omega) (by omega) (by have := hb3.size; simp; omega) ?_; intro v4 w4 hown4 hgrow4 hnil4; have hb4 := (hb3.alloc hb3.size _).grown hgrow4 (by have := hb3.size; simp; omega) (fun q hq => (hown3.lt q hq).1))
            | (refine wpList_append_own _ rfl _ _ 35 rfl wr.heap.size 9 i0 (.string ⟨#[]⟩) 1 16 Tryz.underlying35 hi hz0 hz1 hz2 rfl (by decide) _ _ _ rfl hown4 ⟨g, j, none⟩ (P.length - j) (c - j) (strVs ((P.drop j).take (P.length - j))) rfl (by rw [strVs_length, List.length_take, List.length_drop]; omega) (acc_cells (fun i hi => Below.cell_some hb4 (GD.out i hi)) j (P.length - j) (by omega)) strVs_one (by unfold maxLen; omega) (by omega) hb4.size ?_; intro v5 w5 hown5 hgrow5 hnil5; have hb5 := hb4.grown hgrow5 hb4.size (fun q hq => (hown4.lt q hq).1)))
          have e1 : 0 + j + 1 + (P.length - j) = (P.take j ++ [s] ++ P.drop j).length := by simp; omega
          have e2 : [] ++ strVs ((P.drop 0).take j) ++ [.string s] ++ strVs ((P.drop j).take (P.length - j)) = strVs (P.take j ++ [s] ++ P.drop j) := by
            rw [List.take_of_length_le (l := P.drop j) (by rw [List.length_drop]; exact Nat.le_refl _)]
            simp [strVs]
          rw [e1, e2] at hown5
          have hacc5 := (accAt_own hown5 (by simp)).mono hbase
          go_ret
          first | exact ⟨⟨_, _, rfl, hacc5, HN.out.symm⟩, hb5⟩ | exact ⟨⟨_, rfl, _, hacc5, HN.out.symm⟩, hb5⟩
end Go.Proofs.Pw

namespace Go.Proofs.Pw
open Go.RowKit
open Go.Lib hiding intOf
set_option maxHeartbeats 4000000 in
set_option maxRecDepth 100000 in
theorem selFault_in (a : Option Addr) (n cap : Nat) (P V : Nat → ByteArray) (R : Nat → List Md) (K : Nat → List Str) (B : Nat → Bool) (Rv Kv : Nat → Value) (rv : Value) (roots : List Md) (w : World) (h : EntsIn w a n cap P V R K B Rv Kv) (hr : ModsAt w rv roots) (hl : n ≤ 1000000) (hl2 : roots.length ≤ 1000000) :
    Calls Tryz.prog 61 #[.slice a n cap, rv] w fun e w' => e = .returned (fltV (rootsErr (enF n P V R K B) roots)) ∧ Below w.heap.size w w' := by
  obtain ⟨a2, m, cap2, Q, U, rfl, rfl, hmc, hcap2, hc2⟩ := hr
  rw [mdF_length] at hl2
  have hB := below_alloc w (.cells #[.int .i64 0, .int .i64 0] 46)
  have hz := box2_alloc w (.int .i64 0) (.int .i64 0) 46
  have HFE : Hid (rootsErr (enF n P V R K B) (mdF m Q U) = firstE (rootE (enF n P V R K B) (mdF m Q U)) m) := Lib.hid (by unfold rootsErr; rw [mdF_length])
  have hfo := fun (p v : ByteArray) (W : World) (hb : Below w.heap.size w W) => findOf_in a n cap P V R K B Rv Kv p v W (h.below hb) hl
  have HL := Lib.hid hl
  replace hc2 := Lib.hid hc2
  replace hfo := Lib.hid hfo
  clear h hl
  go_enter Tryz.func61, Tryz.ntmps61
  go_wp2_with fail
  generalize w.alloc (.cells #[.int .i64 0, .int .i64 0] 46) = w1 at *
  go_loopw [5] (fun i wr => ∃ k : Nat, k ≤ m ∧ i = .int .i64 k ∧ Below w1.heap.size w1 wr ∧ Hid (∀ j, j < k → rootE (enF n P V R K B) (mdF m Q U) j = 0)) (fun i _ => m - (intOf i).toNat)
  case atStart => exact ⟨0, Nat.zero_le _, rfl, Below.refl _ _, Lib.hid (fun j hj => absurd hj (Nat.not_lt_zero _))⟩
  case round =>
    obtain ⟨k, hk, rfl, hBk, HA⟩ := hrel
    have hBw := below_step hB hBk
    have hzk := hz.below hBk
    by_cases hlt : k < m
    · have hkn : (k : Int) < (m : Int) := by omega
      obtain ⟨b1, o1, ea, c0, c1⟩ := hc2.out k hlt
      replace c0 := Below.cell_some hBw c0
      replace c1 := Below.cell_some hBw c1
      subst ea
      have hR : rootE (enF n P V R K B) (mdF m Q U) k = if findE (enF n P V R K B) ((Q k).data.toList, (U k).data.toList) < 0 then 5 else 0 := by
        unfold rootE
        rw [mdAt_mdF hlt]
      have hf := hfo.out (Q k) (U k) wr hBw
      obtain ⟨x, hx⟩ : ∃ x, findE (enF n P V R K B) ((Q k).data.toList, (U k).data.toList) = x := ⟨_, rfl⟩
      rw [hx] at hR hf
      by_cases h0 : x < 0
      · rw [if_pos h0] at hR
        have HF : Hid (rootsErr (enF n P V R K B) (mdF m Q U) = (5, (k : Int))) := Lib.hid (by rw [HFE.out, firstE_hit (by rw [hR]; decide) HA.out hlt, hR])
        replace hf := Lib.hid hf
        clear hx hR
        go_wp2_with fail
        refine hf.out.mono ?_
        rintro e w2 ⟨rfl, hb⟩
        have hB2 := below_step hBw hb
        obtain ⟨z0, z1, zf⟩ := hzk.below hb
        clear hb hf c0 c1
        go_wp2_with fail
        refine bodyPost_ret (v := fltV (5, (k : Int))) (by simp [results, Tryz.results61, fltV, go_sem, *]) rfl ?_
        rw [HF.out]
        exact ⟨rfl, (hB2.setCell (p := ⟨w.heap.size, 0, none⟩) (Nat.le_refl _) _).setCell (p := ⟨w.heap.size, 1, none⟩) (Nat.le_refl _) _⟩
      · rw [if_neg h0] at hR
        have HN : Hid (∀ j, j < k + 1 → rootE (enF n P V R K B) (mdF m Q U) j = 0) := Lib.hid (fun j hj => by
          by_cases e : j = k
          · subst e; exact hR
          · exact HA.out j (by omega))
        have hq : decide (x < 0) = false := decide_eq_false h0
        replace hf := Lib.hid hf
        clear hx hR h0
        go_wp2_with fail
        refine hf.out.mono ?_
        rintro e w2 ⟨rfl, hb⟩
        replace hBk := below_step hBk hb
        clear hb hf c0 c1
        go_wp2_with fail
        go_roundw
        case rel => exact ⟨k + 1, by omega, by go_num, hBk, HN⟩
        case measure => simp [intOf]; omega
    · obtain rfl : m = k := by omega
      have HF : Hid (rootsErr (enF n P V R K B) (mdF m Q U) = (0, -1)) := Lib.hid (by rw [HFE.out, firstE_none HA.out])
      have hfi := fun W => refFine_calls W
      unfold fltV at hfi
      replace hfi := Lib.hid hfi
      go_wp2_with fail
      refine (hfi.out _).mono ?_
      rintro e w2 ⟨rfl, hb⟩
      have hB2 := below_step hBw hb
      obtain ⟨z0, z1, zf⟩ := hzk.below hb
      clear hb hfi
      go_wp2_with fail
      refine bodyPost_ret (v := fltV (0, -1)) (by simp [results, Tryz.results61, fltV, go_sem, *]) rfl ?_
      rw [HF.out]
      exact ⟨rfl, (hB2.setCell (p := ⟨w.heap.size, 0, none⟩) (Nat.le_refl _) _).setCell (p := ⟨w.heap.size, 1, none⟩) (Nat.le_refl _) _⟩
end Go.Proofs.Pw
