/- Po: walks and plain laws, joined: IdxPaths PkgAll Kleene RefP RefP2 RefG RefQuery ErrAs Code Coded Faulted. Conditions: at each theorem. -/
import Derived.Test.YtglhgbcebpeomaaGreatDoorPog
import Derived.Test.YtglhgbcebpeomaaGreatDoorPoo
import Derived.Sort.Walk0
import Derived.Test.YtglhgbcebpeomaaGreatDoorPop
import Derived.Test.YtglhgbcebpeomaaGreatDoorPok
import Derived.Test.YtglhgbcebpeomaaGreatDoorPoa
import Derived.Lib.Replace
import Derived.Lib.ReplaceLaws
import Derived.Lib.CountLaws
import Derived.Test.YtglhgbcebpeomaaGreatDoorPod
import Derived.Lib.IndexLaws
import Derived.Test.YtglhgbcebpeomaaGreatDoorPof
import Derived.Test.YtglhgbcebpeomaaGreatDoorPob
import Derived.Deep.OwnRows
import Derived.WalkKit
import Derived.LaidEql
import Derived.Stop.Asserts
import Derived.RowKitTokens
import Derived.Lib.Hide
import Derived.WalkLawsBesides
import Derived.WalkSpells
import Derived.Stop.IfaceNil

namespace Go.Proofs.Pw
open Go.RowKit Go.Sort
open Go.Lib hiding intOf
theorem str_le {a b : Str} : a ≤ b ↔ compareBytes a b ≤ 0 := by
  have h1 : b < a ↔ compareBytes b a < 0 := by
    have h2 := bytesLess_eq b a
    rw [bytesLess_iff] at h2
    exact ⟨fun h => of_decide_eq_true (by rw [h2]; exact decide_eq_true h), fun h => of_decide_eq_true (by rw [← h2]; exact decide_eq_true h)⟩
  have h3 := compareBytes_ord.anti b a
  show ¬ b < a ↔ _
  rw [h1]
  omega
theorem sorted_paths (l : List Str) : compactUpTo (l.mergeSort fun x y => decide (x ≤ y)).toArray (l.mergeSort fun x y => decide (x ≤ y)).toArray.size = pathsL l := by
  have hp := List.pairwise_mergeSort (le := fun x y : Str => decide (x ≤ y)) (fun a b c h1 h2 => decide_eq_true (str_le.2 (compareBytes_ord.tr a b c (str_le.1 (of_decide_eq_true h1)) (str_le.1 (of_decide_eq_true h2))))) (fun a b => by
    rw [Bool.or_eq_true, decide_eq_true_iff, decide_eq_true_iff, str_le, str_le]
    have := compareBytes_ord.anti a b
    omega) l
  have hm := fun x => List.mem_mergeSort (le := fun x y : Str => decide (x ≤ y)) (l := l) (a := x)
  generalize (l.mergeSort fun x y => decide (x ≤ y)) = m at hp hm ⊢
  have hg : ∀ i (h : i < m.length), m.toArray[i]! = m[i] := fun i h => by
    rw [getElem!_pos _ i (by simpa using h)]; simp
  refine rises_ext compareBytes_ord (compact_rises compareBytes_ord _ (fun i j hij hj => ?_) (fun i j _ _ e => compareBytes_zero e)) (pathsL_rises l) fun x => ?_
  · have hj' : j < m.length := by simpa using hj
    rw [hg i (by omega), hg j hj']
    exact str_le.1 (of_decide_eq_true (List.pairwise_iff_getElem.1 hp i j (by omega) hj' hij))
  · rw [compact_mem, pathsL_mem, ← hm]
    constructor
    · rintro ⟨i, hi, rfl⟩
      have hi' : i < m.length := by simpa using hi
      rw [hg i hi']
      exact List.getElem_mem hi'
    · intro hx
      obtain ⟨i, hi, e⟩ := List.mem_iff_getElem.1 hx
      exact ⟨i, by simpa using hi, by rw [hg i hi]; exact e⟩
theorem own_holds {w : World} {base e : Nat} {v : Value} {L : List ByteArray} (h : w.ownsRow base e 1 v L.length (strVs L)) : (v = .slice none 0 0 ∧ L = []) ∨ ∃ g c, v = .slice (some ⟨g, 0, none⟩) L.length c ∧ base ≤ g ∧ g < w.heap.size ∧ L.length ≤ c ∧ c ≤ 9223372036854775807 ∧ Holds encStr w g 0 (strTs L).toArray := by
  rcases h.2 with ⟨rfl, h0⟩ | ⟨g, cap, cur, rfl, hb, hg, hn, hm, hs, ht⟩
  · exact .inl ⟨rfl, List.eq_nil_of_length_eq_zero h0⟩
  · refine .inr ⟨g, cap, rfl, hb, (Array.getElem?_eq_some_iff.1 hg).1, hn, by unfold maxLen at hm; exact hm, fun j hj => ?_⟩
    have hj' : j < L.length := by simpa [strTs_length] using hj
    rw [Nat.zero_add]
    have he : (strTs L).toArray[j]! = (L.getD j ByteArray.empty).data.toList := by
      rw [getElem!_pos _ j hj]
      have := strTs_get hj'
      rw [List.getElem?_eq_getElem (by rw [strTs_length]; exact hj')] at this
      simpa using this
    rw [he]
    show _ = some (Value.string ⟨(L.getD j ByteArray.empty).data.toList.toArray⟩) ∧ _
    rw [bytes_back]
    constructor
    · rw [cell_of_row w g j cur e (0, 0) hg]
      have h1 : (strVs L)[j]? = some (.string (L.getD j ByteArray.empty)) := by
        simp [strVs, List.getD_eq_getElem?_getD, List.getElem?_eq_getElem hj']
      rw [← ht, List.getElem?_take, if_pos (by omega)] at h1
      simpa using h1
    · simp [World.frozen?, hg]
theorem below_sortS {B : Nat} {w0 w : World} (h : Below B w0 w) (hB : B ≤ w0.heap.size) {blk : Nat} (hb : B ≤ blk) (off m : Nat) (d : Array Str) (os : Array Obj) : Below B w0 (grow (putRow encStr (Sort.ahead w m) blk off d) os) := by
  have hBs := h.size
  refine h.trans ⟨rfl, rfl, rfl, ?_, fun k hk => ?_⟩
  · simp [grow, putRow, mapBlock, Sort.ahead]
  · simp only [grow, putRow, mapBlock, Sort.ahead]
    by_cases hk2 : k < w.heap.size
    · rw [Array.getElem?_append_left (by simpa using hk2), Array.getElem?_modify, if_neg (by omega)]
    · exact absurd (Nat.lt_of_lt_of_le hk (Nat.le_trans hB hBs)) hk2
end Go.Proofs.Pw

namespace Go.Proofs.Pw
open Go.RowKit Go.Sort
open Go.Lib hiding intOf
theorem allP_map (l : List En) (sel : List Md) : (sel.map (entOf l)).flatMap packsP = allP l sel := by
  unfold allP
  rw [List.flatMap_map]
theorem strsAt_cells {w : World} {v : Value} {l : List Str} (h : StrsAt w v l) : ∃ a n c L, v = .slice a n c ∧ l = lstF n L ∧ ∀ W, Below w.heap.size w W → ∀ j, j < n → ∃ b o, a = some ⟨b, o, none⟩ ∧ W.cell? ⟨b, o + j, none⟩ = some (.string (L j)) := by
  obtain ⟨a, n, c, L, e1, e2, _, _, h5⟩ := h
  exact ⟨a, n, c, L, e1, e2, fun W hW j hj => let ⟨b, o, e, c0⟩ := h5 j hj; ⟨b, o, e, Below.cell_some hW c0⟩⟩
theorem row_off {w : World} {base s m bx : Nat} {e t : TypeId} {u : Value} {xs : List Value} {c : Array Value} (h : w.ownsRow base e s u m xs) (hb : w.heap[bx]? = some (.cells c t (0, 0))) (hne : e ≠ t) : some bx ≠ u.ownBlock := fun h1 => by
  rcases h.2 with ⟨rfl, _⟩ | ⟨g, cap, cur, rfl, _, hg, _⟩
  · cases h1
  · have h2 : bx = g := Option.some.inj h1
    rw [h2, hg] at hb
    injection hb with hb
    injection hb with _ h3 _
    exact hne h3
theorem blk_kept {w w' : World} {row : Option Nat} {bx : Nat} {o : Obj} (hg : w.grownBy w' row) (hb : w.heap[bx]? = some o) (hne : some bx ≠ row) : w'.heap[bx]? = some o :=
  (hg.block bx (Array.getElem?_eq_some_iff.1 hb).1 hne).trans hb
theorem blk_alloc {w : World} {bx : Nat} {o o2 : Obj} (hb : w.heap[bx]? = some o) : (w.alloc o2).heap[bx]? = some o :=
  ((World.grownBy_alloc w o2 none).block bx (Array.getElem?_eq_some_iff.1 hb).1 (fun h => by cases h)).trans hb
set_option maxHeartbeats 16000000 in
set_option maxRecDepth 100000 in
theorem pkgAll_in (ks : List Nat) (A : Nat → Addr) (hks : IdxKs ks) (a : Option Addr) (n cap : Nat) (P V : Nat → ByteArray) (R : Nat → List Md) (K : Nat → List Str) (B : Nat → Bool) (Rv Kv : Nat → Value) (sv : Value) (sel : List Md) (l : List En) (hle : enF n P V R K B = l) (w : World) (hE : EnvP ks A w) (h : EntsIn w a n cap P V R K B Rv Kv) (hs : ShortI l) (hr : ModsAt w sv sel) (hl : sel.length ≤ 1000000) :
    Calls Tryz.prog 29 #[.slice a n cap, sv] w fun e w' => (∃ v ev, e = .returned (.tuple #[v, ev]) ∧ StrsAt w' v (allK l sel) ∧ FaultAt A w' ev (allErr l sel)) ∧ Below w.heap.size w w' := by
  obtain ⟨i0, hi, hz0, hz1, hz2⟩ := info_parts Tryz.infoString
  obtain ⟨a2, m, cap2, _, _, rfl, -⟩ := id hr
  have hn : n ≤ 1000000 := by have := hs.len; rw [← hle, enF_length] at this; exact this
  have hck := idxCheck_in ks A hks a n cap P V R K B Rv Kv w hE h (by rw [hle]; exact hs)
  have hen := fun (W : World) (hb : Below w.heap.size w W) => pkgEntries_in ks A hks a n cap P V R K B Rv Kv (.slice a2 m cap2) sel W (hE.below hb) (h.below hb) hn (hr.below hb) hl
  simp only [hle] at hck hen
  have HSH := Lib.hid hs
  have HOE : Hid (allErr l sel = orE (idxErr l) (rootsErr l sel)) := Lib.hid rfl
  have HOM : Hid (allK l sel = if (allErr l sel).1 = 0 then pathsL (allP l sel) else []) := Lib.hid rfl
  have hsn := Tryz.slices_Sort_string_none
  have hce := Tryz.slices_Compact_string_empty
  replace hck := Lib.hid hck
  replace hen := Lib.hid hen
  replace hsn := Lib.hid hsn
  replace hce := Lib.hid hce
  clear h hr hs hE hle
  go_enter Tryz.func29, Tryz.ntmps29
  go_wp2_with fail
  refine hck.out.mono ?_
  rintro e w2 ⟨⟨ev, rfl, hf⟩, hB⟩
  clear hck
  rcases fault_form hf with ⟨h0, rfl⟩ | ⟨h0, ty, qq, rfl⟩
  · have HF1 : Hid (allErr l sel = rootsErr l sel) := Lib.hid (by rw [HOE.out]; unfold orE; rw [if_neg (by simp [h0])])
    clear hf h0
    go_wp2_with fail
    refine (hen.out _ hB).mono ?_
    rintro e w4 ⟨⟨v4, ev4, rfl, hf4, ho4, hn4⟩, hb⟩
    replace hB := below_step hB hb
    clear hb hen
    rcases fault_form hf4 with ⟨h5, rfl⟩ | ⟨h5, ty, qq, rfl⟩
    · obtain ⟨ea, en, ec, P2, V2, R2, K2, B2, Rv2, Kv2, rfl, hEq, hin⟩ := ho4 h5
      have HIN := Lib.hid hin
      have HEQ := Lib.hid hEq
      have HSK : Hid (∀ e ∈ enF en P2 V2 R2 K2 B2, e.packs.length ≤ 1000000 ∧ e.md.1.length ≤ 1000000 ∧ ∀ x ∈ e.packs, x.length ≤ 1000000) := Lib.hid (fun e he => by
        rw [← hEq] at he
        obtain ⟨m, hm, rfl⟩ := List.mem_map.1 he
        have he2 := (entOf_md (rootsErr_zero.1 h5 m hm)).2
        exact ⟨(HSH.out.packs _ he2).1, (HSH.out.mds _ he2).1, (HSH.out.packs _ he2).2⟩)
      have HF2 : Hid ((allErr l sel).1 = 0 ∧ FaultAt A w4 .nilIface (allErr l sel)) := Lib.hid (by rw [HF1.out]; exact ⟨h5, hf4⟩)
      have hen6 : en ≤ 1000000 := by
        have := congrArg List.length hEq
        rw [enF_length, List.length_map] at this
        omega
      clear hin hEq hf4 ho4 hn4 h5
      go_wp2_with fail
      go_loopw [9, 30] (fun o i wr => ∃ (k : Nat) (T : List ByteArray), k ≤ en ∧ i = .int .i64 k ∧ Hid (wr.ownsRow w4.heap.size 9 1 o T.length (strVs T)) ∧ T.length ≤ k * 1000000 ∧ Hid (strTs T = ((enF en P2 V2 R2 K2 B2).take k).flatMap packsP) ∧ Below w4.heap.size w4 wr) (fun _ i _ => en - (intOf i).toNat)
      case atStart => exact ⟨0, [], Nat.zero_le _, rfl, Lib.hid (World.ownsRow_nil _ _ _ _), Nat.le_refl _, Lib.hid rfl, Below.refl _ _⟩
      case round =>
        obtain ⟨k, T, hk, rfl, hO, hLk, hT, hBr⟩ := hrel
        by_cases hlt : k < en
        · obtain ⟨ao, no, co, rfl⟩ := own_form hO.out
          have hkn : (k : Int) < (en : Int) := by omega
          obtain ⟨b1, o1, ea', hcell⟩ := HIN.out.at_ k hlt
          obtain ⟨a1, n1, s1, _, _, _, e1, _⟩ := HIN.out.forms2 hlt
          obtain ⟨a2', n2, s2, L2, e2, eK, hcK⟩ := strsAt_cells (HIN.out.packs k hlt)
          rw [e1, e2] at hcell
          obtain ⟨c0, c1, c2, c3, c4⟩ := hcell.below hBr
          subst ea'
          have hsk := HSK.out (enAt (enF en P2 V2 R2 K2 B2) k) (enAt_mem (by rw [enF_length]; exact hlt))
          rw [enAt_enF hlt] at hsk
          have hn2 : n2 ≤ 1000000 := by
            have hsk2 : (K2 k).length ≤ 1000000 := hsk.1
            rwa [eK, lstF_length] at hsk2
          have hpz : (P2 k).size ≤ 1000000 := by rw [size_eq]; exact hsk.2.1
          have HLZ : Hid (∀ j, j < n2 → (L2 j).size ≤ 1000000) := Lib.hid (fun j hj => by
            have h1 : ∀ x ∈ K2 k, x.length ≤ 1000000 := hsk.2.2
            rw [size_eq]
            exact h1 _ (by rw [eK]; exact lstF_mem'.2 ⟨j, hj, rfl⟩))
          clear hsk
          have hba := below_alloc wr (.cells #[.string (P2 k), .string (V2 k), .slice a1 n1 s1, .slice a2' n2 s2, .bool (B2 k)] 37)
          have hTk : ((enF en P2 V2 R2 K2 B2).take (k + 1)).flatMap packsP = strTs T ++ (lstF n2 L2).map (packP (P2 k).data.toList) := by
            rw [List.take_add_one, enF_get _ _ _ _ _ _ k hlt, List.flatMap_append, hT.out]
            congr 1
            show packsP _ ++ [] = _
            rw [List.append_nil]
            show (K2 k).map _ = _
            rw [eK]
          have y0 : (wr.alloc (.cells #[.string (P2 k), .string (V2 k), .slice a1 n1 s1, .slice a2' n2 s2, .bool (B2 k)] 37)).cell? ⟨wr.heap.size, 0, none⟩ = some (.string (P2 k)) := by simp
          have y3 : (wr.alloc (.cells #[.string (P2 k), .string (V2 k), .slice a1 n1 s1, .slice a2' n2 s2, .bool (B2 k)] 37)).cell? ⟨wr.heap.size, 3, none⟩ = some (.slice a2' n2 s2) := by simp
          have hO2 := Lib.hid (hO.out.below hba)
          have hB2 := below_step hBr hba
          have hbx : wr.heap.size < (wr.alloc (.cells #[.string (P2 k), .string (V2 k), .slice a1 n1 s1, .slice a2' n2 s2, .bool (B2 k)] 37)).heap.size := by simp
          obtain ⟨wb, hW⟩ : ∃ W, wr.alloc (.cells #[.string (P2 k), .string (V2 k), .slice a1 n1 s1, .slice a2' n2 s2, .bool (B2 k)] 37) = W := ⟨_, rfl⟩
          rw [hW] at y0 y3 hO2 hB2 hbx
          have HBX := Lib.hid (Go.Deep.blk_alloc_new wr (.cells #[.string (P2 k), .string (V2 k), .slice a1 n1 s1, .slice a2' n2 s2, .bool (B2 k)] 37))
          rw [hW] at HBX
          have HTT := Lib.hid hT.out
          have HTK := Lib.hid hTk
          replace hcK := Lib.hid hcK
          clear hba hcell e1 e2 hO hT hTk y0 eK
          go_wp2_with fail
          clear hW c0 c1 c2 c3 c4 y3
          generalize P2 k = p at *
          generalize wr.heap.size = bx at *
          generalize hwq : wr = wq at *
          clear hwq
          go_loopw [9, 37] (fun o i wr => ∃ (j : Nat) (T2 : List ByteArray), j ≤ n2 ∧ i = .int .i64 j ∧ Hid (wr.ownsRow w4.heap.size 9 1 o T2.length (strVs T2)) ∧ T2.length ≤ k * 1000000 + j ∧ Hid (strTs T2 = strTs T ++ ((lstF n2 L2).take j).map (packP p.data.toList)) ∧ Hid (wr.heap[bx]? = some (.cells #[.string p, .string (V2 k), .slice a1 n1 s1, .slice a2' n2 s2, .bool (B2 k)] 37 (0, 0))) ∧ Below w4.heap.size w4 wr) (fun _ i _ => n2 - (intOf i).toNat)
          case atStart => exact ⟨0, T, Nat.zero_le _, rfl, hO2, (by rw [Nat.add_zero]; exact hLk), Lib.hid (by rw [List.take_zero, List.map_nil, List.append_nil]), HBX, hB2⟩
          case round =>
            obtain ⟨j, T2, hj, rfl, hO7, hL7, hT7, BX, hBi⟩ := hrel
            obtain ⟨ao2, no2, co2, rfl⟩ := own_form hO7.out
            have y0 : wr.cell? ⟨bx, 0, none⟩ = some (.string p) := by rw [cell_of_row wr _ 0 _ _ (0, 0) BX.out]; rfl
            by_cases hlj : j < n2
            · have hkj : (j : Int) < (n2 : Int) := by omega
              obtain ⟨b3, o3, ea3, d0⟩ := hcK.out wr hBi j hlj
              subst ea3
              have hTj : ((lstF n2 L2).take (j + 1)).map (packP p.data.toList) = ((lstF n2 L2).take j).map (packP p.data.toList) ++ [packP p.data.toList (L2 j).data.toList] := by
                rw [List.take_add_one, lstF_get n2 L2 j hlj, List.map_append]; rfl
              have hxz := HLZ.out j hlj
              generalize L2 j = x at d0 hTj hxz
              by_cases hd : x.data.toList = [46]
              · have q1 : (x.toList == [46]) = true := by rw [toList_data, hd]; rfl
                have HN : Hid (strTs (T2 ++ [p]) = strTs T ++ ((lstF n2 L2).take (j + 1)).map (packP p.data.toList)) := Lib.hid (by
                  rw [hTj, strTs_snoc, hT7.out, List.append_assoc]
                  unfold packP
                  rw [if_pos hd])
                clear hTj hT7 hd
                go_wp2_with (at_builtin; refine wpList_append_own _ rfl _ _ 35 rfl w4.heap.size 9 i0 (.string ⟨#[]⟩) 1 16 Tryz.underlying35 hi hz0 hz1 hz2 rfl (by decide) _ _ _ rfl (hO7.out.alloc _) ⟨wr.heap.size, 0, none⟩ 1 1 [.string (p)] rfl rfl (cell_one_new _ _ _) (fun x hx => by simp at hx; subst hx; rfl) (by unfold maxLen; omega) (by omega) (by have := hBi.size; simp; omega) ?_; intro o' w8 hown4 hgrow4 _)
                go_roundw
                case rel =>
                  refine ⟨j + 1, T2 ++ [p], by omega, by go_num, Lib.hid ?_, by simp; omega, HN, Lib.hid (blk_kept hgrow4 (blk_alloc BX.out) (row_off hO7.out BX.out (by decide))), ?_⟩
                  · rw [List.length_append, List.length_singleton, ← strVs_snoc]; exact hown4
                  · exact (hBi.alloc hBi.size _).grown hgrow4 (by have := hBi.size; simp; omega) (fun q hq => (hO7.out.lt q hq).1)
                case measure => simp [intOf]; omega
              · have q1 : (x.toList == [46]) = false := by rw [toList_data]; exact beq_eq_false_iff_ne.2 hd
                have HN : Hid (strTs (T2 ++ [p ++ ⟨#[47]⟩ ++ x]) = strTs T ++ ((lstF n2 L2).take (j + 1)).map (packP p.data.toList)) := Lib.hid (by
                  rw [hTj, strTs_snoc, hT7.out, List.append_assoc, app_byP, app_byP]
                  congr 2
                  unfold packP
                  rw [if_neg hd]
                  simp)
                clear hTj hT7 hd
                go_wp2_with (at_builtin; refine wpList_append_own _ rfl _ _ 35 rfl w4.heap.size 9 i0 (.string ⟨#[]⟩) 1 16 Tryz.underlying35 hi hz0 hz1 hz2 rfl (by decide) _ _ _ rfl (hO7.out.alloc _) ⟨wr.heap.size, 0, none⟩ 1 1 [.string (p ++ ⟨#[47]⟩ ++ x)] rfl rfl (cell_one_new _ _ _) (fun x hx => by simp at hx; subst hx; rfl) (by unfold maxLen; omega) (by omega) (by have := hBi.size; simp; omega) ?_; intro o' w8 hown4 hgrow4 _)
                go_roundw
                case rel =>
                  refine ⟨j + 1, T2 ++ [p ++ ⟨#[47]⟩ ++ x], by omega, by go_num, Lib.hid ?_, by simp; omega, HN, Lib.hid (blk_kept hgrow4 (blk_alloc BX.out) (row_off hO7.out BX.out (by decide))), ?_⟩
                  · rw [List.length_append, List.length_singleton, ← strVs_snoc]; exact hown4
                  · exact (hBi.alloc hBi.size _).grown hgrow4 (by have := hBi.size; simp; omega) (fun q hq => (hO7.out.lt q hq).1)
                case measure => simp [intOf]; omega
            · obtain rfl : n2 = j := by omega
              have hkj : ¬ (n2 : Int) < (n2 : Int) := by omega
              have HN : Hid (strTs T2 = ((enF en P2 V2 R2 K2 B2).take (k + 1)).flatMap packsP) := Lib.hid (by
                rw [hT7.out, HTK.out, HTT.out, List.take_of_length_le (l := lstF n2 L2) (by rw [lstF_length]; exact Nat.le_refl _)])
              clear hT7 y0 BX
              go_wp2_with fail
              go_roundw
              case rel => exact ⟨k + 1, T2, by omega, by go_num, hO7, by omega, HN, hBi⟩
              case measure => simp [intOf]; omega
        · obtain rfl : k = en := by omega
          have hmd : strTs T = allP l sel := by
            rw [hT.out, List.take_of_length_le (by rw [enF_length]; exact Nat.le_refl _), ← HEQ.out]
            exact allP_map l sel
          have hkn : ¬ (k : Int) < (k : Int) := by omega
          have HM : Hid (allK l sel = pathsL (strTs T)) := Lib.hid (by rw [HOM.out, if_pos HF2.out.1, hmd])
          have HFA := Lib.hid (HF2.out.2.below hBr)
          have hLm : T.length ≤ 1000000000000 := by omega
          rcases own_holds hO.out with ⟨rfl, rfl⟩ | ⟨g, c, rfl, hg0, hgl, hnc, hcm, hH⟩
          · clear hT hmd hO hlt
            go_wp2_with fail
            refine (hsn.out none 0 _).mono ?_
            rintro e w' ⟨rfl, rfl⟩
            go_wp2_with fail
            refine (hce.out none 0 _).mono ?_
            rintro e w' ⟨rfl, rfl⟩
            go_wp2_with fail
            go_ret2
            rw [HM.out]
            exact ⟨⟨_, _, rfl, StrsAt.nil _, HFA.out⟩, below_step hB hBr⟩
          · have hso := Tryz.slices_Sort_string g 0 c (strTs T) wr hH hgl (by rw [strTs_length]; omega)
            rw [strTs_length] at hso
            have hd := sorted_paths (strTs T)
            have hdl : ((strTs T).mergeSort fun x y => decide (x ≤ y)).toArray.size = T.length := by rw [List.size_toArray, List.length_mergeSort, strTs_length]
            generalize ((strTs T).mergeSort fun x y => decide (x ≤ y)).toArray = d at hso hd hdl
            have HD := Lib.hid hd
            have HH := Lib.hid hH
            replace hso := Lib.hid hso
            clear hT hmd hO hlt hd hH
            go_wp2_with fail
            refine hso.out.mono ?_
            rintro e w5 ⟨rfl, q, os, hw5⟩
            have hH2 : Holds encStr (putRow encStr (Sort.ahead wr q) g 0 d) g 0 d := holds_putRow encStr _ g 0 (strTs T).toArray d (fun j hj => HH.out j hj) (by rw [hdl, List.size_toArray, strTs_length])
            have hH5 : Holds encStr w5 g 0 d := by
              rw [hw5]
              exact holds_grow encStr _ os g 0 d (by simpa [putRow, mapBlock, Sort.ahead] using hgl) hH2
            have hB5 : Below w4.heap.size w4 w5 := by
              rw [hw5]
              exact below_sortS hBr (Nat.le_refl _) hg0 0 q d os
            have hco := Tryz.slices_Compact_string_arr g 0 c d w5 hH5 (by omega) (by omega)
            rw [HD.out, hdl] at hco
            have hvl : (pathsL (strTs T)).length ≤ T.length := by
              rw [← HD.out, ← hdl]
              exact compactUpTo_length_le _
            have HF4 := Lib.hid HF2.out.2
            replace hco := Lib.hid hco
            clear hso hw5 hH2
            go_wp2_with fail
            refine hco.out.mono ?_
            rintro e w6 ⟨rfl, q6, rfl⟩
            go_wp2_with fail
            go_ret2
            rw [HM.out]
            refine ⟨⟨_, _, rfl, ?_, HF4.out.below (below_putRow (below_drewN hB5 q6) hg0 0 _)⟩, below_step hB (below_putRow (below_drewN hB5 q6) hg0 0 _)⟩
            refine strsAt_holds (l := pathsL (strTs T)) (holds_take (m := List.replicate (T.length - (pathsL (strTs T)).length) []) ?_) (by omega) hcm
            have hH6 : Holds encStr (Sort.ahead w5 q6) g 0 d := fun j hj => hH5 j hj
            exact holds_putRow encStr (Sort.ahead w5 q6) g 0 _ _ hH6 (by simp [hdl]; omega)
    · have HF2 : Hid (allK l sel = [] ∧ FaultAt A w4 (.iface ty (.pointer qq)) (allErr l sel)) := Lib.hid ⟨by rw [HOM.out, HF1.out, if_neg h5], by rw [HF1.out]; exact hf4⟩
      obtain rfl := hn4 h5
      clear hf4 ho4 hn4 h5
      go_wp2_with fail
      go_ret2
      rw [HF2.out.1]
      exact ⟨⟨_, _, rfl, StrsAt.nil _, HF2.out.2⟩, hB⟩
  · have HF : Hid (allErr l sel = idxErr l) := Lib.hid (by rw [HOE.out]; unfold orE; rw [if_pos h0])
    have HM : Hid (allK l sel = []) := Lib.hid (by rw [HOM.out, HF.out, if_neg h0])
    have HFA := Lib.hid hf
    clear hf h0
    go_wp2_with fail
    go_ret2
    rw [HM.out, HF.out]
    exact ⟨⟨_, _, rfl, StrsAt.nil _, HFA.out⟩, hB⟩
end Go.Proofs.Pw

namespace Go.Proofs.Pw
open Go.Lib hiding intOf
def xs (T : List (Option UInt8)) : Str := T.map (·.getD 120)
end Go.Proofs.Pw

namespace Go.Proofs.Pw
open Go.RowKit
open Go.Lib hiding intOf
end Go.Proofs.Pw

namespace Go.Proofs.Pw
open Go.RowKit
open Go.Lib hiding intOf
end Go.Proofs.Pw

namespace Go.Proofs.Pw
open Go.RowKit
open Go.Lib hiding intOf
end Go.Proofs.Pw

namespace Go.Proofs.Pw
open Go.RowKit
open Go.Lib hiding intOf
set_option maxHeartbeats 1000000 in
set_option maxRecDepth 100000 in
theorem inTexts_calls (s : ByteArray) (v : Value) (l : List Str) (w : World) (h : StrsAt w v l) (hl : l.length ≤ 1000000) :
    Calls Tryz.prog 32 #[.string s, v] w fun e w' => e = .returned (.bool (decide (s.data.toList ∈ l))) ∧ Below w.heap.size w w' := by
  obtain ⟨a, n, cap, L, rfl, rfl, hnc, hcap, hc⟩ := h
  rw [lstF_length] at hl
  replace hc := Lib.hid hc
  go_enter Tryz.func32, Tryz.ntmps32
  go_wp2_with fail
  go_loopw [5] (fun i wr => ∃ k : Nat, k ≤ n ∧ i = .int .i64 k ∧ Below w.heap.size w wr ∧ Hid (∀ j, j < k → (L j).data.toList ≠ s.data.toList)) (fun i _ => n - (intOf i).toNat)
  case atStart => exact ⟨0, Nat.zero_le _, rfl, Below.refl _ _, Lib.hid (fun j hj => absurd hj (Nat.not_lt_zero _))⟩
  case round =>
    obtain ⟨k, hk, rfl, hB, HA⟩ := hrel
    by_cases hlt : k < n
    · have hkn : (k : Int) < (n : Int) := by omega
      obtain ⟨b1, o1, ea, c0⟩ := hc.out k hlt
      replace c0 := Below.cell_some hB c0
      subst ea
      have hwk := wrap_nat (k + 1) (by omega)
      by_cases he : (L k).data.toList = s.data.toList
      · have HF : Hid (decide (s.data.toList ∈ lstF n L) = true) := Lib.hid (decide_eq_true (lstF_mem'.2 ⟨k, hlt, he⟩))
        have q1 : ((L k).toList == s.toList) = true := by rw [toList_data, toList_data, he]; simp
        clear he hwk
        go_wp2_with fail
        go_ret
        rw [HF.out]
        exact ⟨rfl, hB⟩
      · have HN : Hid (∀ j, j < k + 1 → (L j).data.toList ≠ s.data.toList) := Lib.hid (fun j hj => by
          by_cases e : j = k
          · subst e; exact he
          · exact HA.out j (by omega))
        have q1 : ((L k).toList == s.toList) = false := by rw [toList_data, toList_data]; exact beq_eq_false_iff_ne.2 he
        clear he hwk
        go_wp2_with fail
        go_roundw
        case rel => exact ⟨k + 1, by omega, by go_num, hB, HN⟩
        case measure => simp [intOf]; omega
    · have HF : Hid (decide (s.data.toList ∈ lstF n L) = false) := Lib.hid (decide_eq_false (fun h => by
        obtain ⟨j, hj, e⟩ := lstF_mem'.1 h
        exact HA.out j (by omega) e))
      have hkn : ¬ (k : Int) < (n : Int) := by omega
      go_wp2_with fail
      go_ret
      rw [HF.out]
      exact ⟨rfl, hB⟩
end Go.Proofs.Pw

namespace Go.Proofs.Pw
open Go.RowKit Go.Extern.Stop Go.Stop Go.Extern
theorem Tryz.as_valueOf27 (t : Addr) (w : World) : (ReflectliteValue.unpack (.iface 179 (.pointer (some t)))).run Tryz.prog w
    = .ok (.agg #[.pointer (some ⟨19, 179, none⟩), .pointer (some ⟨w.heap.size, 0, none⟩), .int .u64 150]) (w.alloc (.cells #[.pointer (some t)] 179)) := by kernel_rfl
theorem Tryz.as_type27 (a : Addr) (w : World) : (ReflectliteValue.methodAny (ReflectliteValue.valueError "reflectlite.Value.Type" 0) (fun t _ _ _ => ReflectliteType.toType t) #[.agg #[.pointer (some ⟨19, 179, none⟩), .pointer (some a), .int .u64 150]]).run Tryz.prog w
    = .ok (.iface 301 (.agg #[.pointer (some ⟨19, 179, none⟩)])) w := by kernel_rfl
theorem Tryz.as_methodKind (h : Value) (w : World) : (Go.method 517 301 (.agg #[h]) "Kind").run Tryz.prog w = .ok (391, h) w := by kernel_rfl
theorem Tryz.as_kind27 (w : World) : ((ReflectliteType.abiMethod fun t => (fun a : Nat => Value.int IntKind.u8 (a : Int)) <$> Rtype.kind t) #[.pointer (some ⟨19, 179, none⟩)]).run Tryz.prog w = .ok (.int .u8 22) w := by kernel_rfl
theorem Tryz.as_kind25 (w : World) : ((ReflectliteType.abiMethod fun t => (fun a : Nat => Value.int IntKind.u8 (a : Int)) <$> Rtype.kind t) #[.pointer (some ⟨19, 106, none⟩)]).run Tryz.prog w = .ok (.int .u8 22) w := by kernel_rfl
theorem rlm (z : Sem Value) (f : TypeId → Addr → Nat → Nat → Sem Value) (v : Value) :
    ReflectliteValue.method z f #[v] = (do match ← ReflectliteValue.parts v with | none => z | some (t, a, fl) => f t a fl (fl % 32)) := rfl
theorem Tryz.as_parts27 (a : Addr) (w : World) : (ReflectliteValue.parts (.agg #[.pointer (some ⟨19, 179, none⟩), .pointer (some a), .int .u64 150])).run Tryz.prog w = .ok (some (179, a, 150)) w := by kernel_rfl
theorem Tryz.as_isNil27 (a p : Addr) (W : World) (ha : W.cell? a = some (.pointer (some p))) :
    (ReflectliteValue.method (ReflectliteValue.valueError "reflectlite.Value.IsNil" 0) ReflectliteValue.isNil #[.agg #[.pointer (some ⟨19, 179, none⟩), .pointer (some a), .int .u64 150]]).run Tryz.prog W = .ok (.bool false) W := by
  rw [rlm]
  simp only [Sem.run_bind, Tryz.as_parts27, Result.andThen]
  simp [ReflectliteValue.isNil, loadVar, isAgg, underlying, Tryz.underlying179, ha, Result.andThen]
theorem Tryz.as_methodElem (h : Value) (w : World) : (Go.method 517 301 (.agg #[h]) "Elem").run Tryz.prog w = .ok (403, .agg #[h]) w := by kernel_rfl
theorem Tryz.as_methodImplements (h : Value) (w : World) : (Go.method 517 301 (.agg #[h]) "Implements").run Tryz.prog w = .ok (404, .agg #[h]) w := by kernel_rfl
theorem Tryz.as_methodAssignableTo (h : Value) (w : World) : (Go.method 517 301 (.agg #[h]) "AssignableTo").run Tryz.prog w = .ok (401, .agg #[h]) w := by kernel_rfl
theorem Tryz.as_elem27 (w : World) : (ReflectliteType.method ReflectliteType.elem #[.agg #[.pointer (some ⟨19, 179, none⟩)]]).run Tryz.prog w = .ok (.iface 301 (.agg #[.pointer (some ⟨19, 106, none⟩)])) w := by kernel_rfl
theorem Tryz.as_implements25 (w : World) : (ReflectliteType.relation "Implements" ReflectliteType.implements_ #[.agg #[.pointer (some ⟨19, 106, none⟩)], .iface 301 (.agg #[.pointer (some ⟨19, 41, none⟩)])]).run Tryz.prog w = .ok (.bool true) w := by kernel_rfl
theorem Tryz.as_assignableE (w : World) : (ReflectliteType.relation "AssignableTo" ReflectliteType.assignableTo #[.agg #[.pointer (some ⟨19, 371, none⟩)], .iface 301 (.agg #[.pointer (some ⟨19, 106, none⟩)])]).run Tryz.prog w = .ok (.bool false) w := by kernel_rfl
set_option maxHeartbeats 4000000 in
theorem as_miss (e t : Addr) (old : Value) (w : World) (hg : w.cell? ⟨10, 0, none⟩ = some (.iface 301 (.agg #[.pointer (some ⟨19, 41, none⟩)]))) (ht0 : w.cell? t = some old) (_hf0 : w.frozen? t = false) :
    Calls Tryz.prog 124 #[.iface 371 (.pointer (some e)), .iface 179 (.pointer (some t))] w fun ev w' => ev = .returned (.bool false) ∧ Below w.heap.size w w' := by
  have h6 := @run_callFunc_extern Tryz.prog 190 _ (fun args => ReflectliteValue.unpack (args.getD 0 (.tuple #[]))) Tryz.func190 (by kernel_rfl) (by kernel_rfl) (by kernel_rfl) (by kernel_rfl)
  have h7 := @run_callFunc_extern Tryz.prog 191 _ (ReflectliteValue.methodAny (ReflectliteValue.valueError "reflectlite.Value.Type" 0) (fun t _ _ _ => ReflectliteType.toType t)) Tryz.func191 (by kernel_rfl) (by kernel_rfl) (by kernel_rfl) (by kernel_rfl)
  have h8 := @run_callFunc_extern Tryz.prog 192 _ (ReflectliteValue.method (ReflectliteValue.valueError "reflectlite.Value.IsNil" 0) ReflectliteValue.isNil) Tryz.func192 (by kernel_rfl) (by kernel_rfl) (by kernel_rfl) (by kernel_rfl)
  have h27 := @run_callFunc_extern Tryz.prog 391 _ (ReflectliteType.abiMethod fun t => do pure (.int .u8 (← Rtype.kind t))) Tryz.func391 (by kernel_rfl) (by kernel_rfl) (by kernel_rfl) (by kernel_rfl)
  have h37 := @run_callFunc_extern Tryz.prog 403 _ (ReflectliteType.method ReflectliteType.elem) Tryz.func403 (by kernel_rfl) (by kernel_rfl) (by kernel_rfl) (by kernel_rfl)
  have h38 := @run_callFunc_extern Tryz.prog 404 _ (ReflectliteType.relation "Implements" ReflectliteType.implements_) Tryz.func404 (by kernel_rfl) (by kernel_rfl) (by kernel_rfl) (by kernel_rfl)
  have h10 := @run_callFunc_extern Tryz.prog 194 _ ReflectliteType.typeOf Tryz.func194 (by kernel_rfl) (by kernel_rfl) (by kernel_rfl) (by kernel_rfl)
  have h35 := @run_callFunc_extern Tryz.prog 401 _ (ReflectliteType.relation "AssignableTo" ReflectliteType.assignableTo) Tryz.func401 (by kernel_rfl) (by kernel_rfl) (by kernel_rfl) (by kernel_rfl)
  have tO := Tryz.is_typeOf
  have aE := Tryz.as_assignableE
  have nA := Tryz.no_asE
  have uE := Tryz.no_unwrapE
  have vE := Tryz.no_unwrapsE
  have mA := Tryz.as_methodAssignableTo
  have f6 := Tryz.as_valueOf27
  have f7 := Tryz.as_type27
  have mK := Tryz.as_methodKind
  have mE := Tryz.as_methodElem
  have mI := Tryz.as_methodImplements
  have k27 := Tryz.as_kind27
  have k25 := Tryz.as_kind25
  have e27 := Tryz.as_elem27
  have i25 := Tryz.as_implements25
  have n8 := Tryz.as_isNil27 ⟨w.heap.size, 0, none⟩ t ((w.alloc (.cells #[.pointer (some t)] 179)).alloc (.cells #[.pointer (some ⟨19, 179, none⟩), .pointer (some ⟨w.heap.size, 0, none⟩), .int .u64 150] 244)) (by simp)
  have hlt : 10 < w.heap.size := World.block_lt_of_cell? w _ hg
  have hg2 : ((w.alloc (.cells #[.pointer (some t)] 179)).alloc (.cells #[.pointer (some ⟨19, 179, none⟩), .pointer (some ⟨w.heap.size, 0, none⟩), .int .u64 150] 244)).cell? ⟨10, 0, none⟩ = some (.iface 301 (.agg #[.pointer (some ⟨19, 41, none⟩)])) := by
    rw [World.cell?_alloc_lt _ _ ⟨10, 0, none⟩ (by simp; omega), World.cell?_alloc_lt _ _ ⟨10, 0, none⟩ hlt]; exact hg
  have htl : t.block < w.heap.size := by
    rcases Nat.lt_or_ge t.block w.heap.size with h | h
    · exact h
    · simp [World.cell?, Array.getElem?_eq_none h] at ht0
  go_enter Tryz.func124, Tryz.ntmps124
  go_wp2
  refine wp_loop_rounds 1 ?_
  rw [rounds_succ]
  go_wp2
  go_ret
  exact ⟨rfl, (((Below.refl _ _).alloc (Nat.le_refl _) _).alloc (by simp) _).alloc (by simp; omega) _⟩
end Go.Proofs.Pw

namespace Go.Proofs.Pw
open Go.RowKit
structure EnvC (A : Nat → Addr) (w : World) : Prop where
  errs : EnvE allErrs A w
  handle : w.cell? ⟨10, 0, none⟩ = some (.iface 301 (.agg #[.pointer (some ⟨19, 41, none⟩)]))
theorem EnvC.below {A : Nat → Addr} {w w' : World} (h : EnvC A w) (hb : Below w.heap.size w w') : EnvC A w' := ⟨h.errs.below hb, Below.cell_same hb h.handle⟩
def ten (A : Nat → Addr) : Array Value := #[errP (A 1), errP (A 2), errP (A 3), errP (A 4), errP (A 5), errP (A 6), errP (A 7), errP (A 8), errP (A 9), errP (A 10)]
where errP (a : Addr) : Value := .iface 371 (.pointer (some a))
end Go.Proofs.Pw

namespace Go.Proofs.Pw
open Go.RowKit
end Go.Proofs.Pw

namespace Go.Proofs.Pw
open Go.RowKit
open Go.Lib hiding intOf
end Go.Proofs.Pw
