/- Pk: walks and plain laws, joined: IdxPaths PkgAll PkgWho. Conditions: at each theorem. -/
import Derived.Sort.Walk0
import Derived.Test.YtkfnhchlfojomaaGreatDoorPfa
import Derived.Test.YtkfnhchlfojomaaGreatDoorPfb
import Derived.Test.YtkfnhchlfojomaaGreatDoorPfc
import Derived.Test.YtkfnhchlfojomaaGreatDoorPfd
import Derived.Test.YtkfnhchlfojomaaGreatDoorPfe
import Derived.Test.YtkfnhchlfojomaaGreatDoorPff
import Derived.Test.YtkfnhchlfojomaaGreatDoorPfg
import Derived.Test.YtkfnhchlfojomaaGreatDoorPfh
import Derived.Test.YtkfnhchlfojomaaGreatDoorPfi
import Derived.Test.YtkfnhchlfojomaaGreatDoorPfj
import Derived.Test.YtkfnhchlfojomaaGreatDoorPfk
import Derived.Test.YtkfnhchlfojomaaGreatDoorPfl
import Derived.Test.YtkfnhchlfojomaaGreatDoorPfm
import Derived.Test.YtkfnhchlfojomaaGreatDoorPfn
import Derived.Test.YtkfnhchlfojomaaGreatDoorPfo
import Derived.Test.YtkfnhchlfojomaaGreatDoorPfp
import Derived.Test.YtkfnhchlfojomaaGreatDoorPfq
import Derived.Test.YtkfnhchlfojomaaGreatDoorPfr
import Derived.Test.YtkfnhchlfojomaaGreatDoorPfs
import Derived.Test.YtkfnhchlfojomaaGreatDoorPft
import Derived.Test.YtkfnhchlfojomaaGreatDoorPfu
import Derived.Test.YtkfnhchlfojomaaGreatDoorPfv
import Derived.Test.YtkfnhchlfojomaaGreatDoorPfw
import Derived.Test.YtkfnhchlfojomaaGreatDoorPfx
import Derived.Test.YtkfnhchlfojomaaGreatDoorPfy
import Derived.Test.YtkfnhchlfojomaaGreatDoorPfz
import Derived.Test.YtkfnhchlfojomaaGreatDoorPfza
import Derived.Test.YtkfnhchlfojomaaGreatDoorPfzb
import Derived.Test.YtkfnhchlfojomaaGreatDoorPfzc
import Derived.Test.YtkfnhchlfojomaaGreatDoorPfze
import Derived.Test.YtkfnhchlfojomaaGreatDoorPka
import Derived.Test.YtkfnhchlfojomaaGreatDoorPkb
import Derived.Test.YtkfnhchlfojomaaGreatDoorPkc
import Derived.Test.YtkfnhchlfojomaaGreatDoorPkd
import Derived.Test.YtkfnhchlfojomaaGreatDoorPke
import Derived.Test.YtkfnhchlfojomaaGreatDoorPkf

namespace Go.Proofs.Pw
open Go.RowKit Go.Sort
open Go.Lib hiding intOf
theorem str_le {a b : Str} : a ≤ b ↔ compareBytes a b ≤ 0 := by
  have h1 : b < a ↔ compareBytes b a < 0 := by
    have h2 := bytesLess_eq b a
    rw [bytesLess_iff] at h2
    exact ⟨fun h => of_decide_eq_true (by rw [h2]; exact decide_eq_true h), fun h => of_decide_eq_true (by rw [← h2]; exact decide_eq_true h)⟩
  have h3 := compareBytes_ord.anti b a
  show ¬ b < a ↔ _
  rw [h1]
  omega
theorem sorted_paths (l : List Str) : compactUpTo (l.mergeSort fun x y => decide (x ≤ y)).toArray (l.mergeSort fun x y => decide (x ≤ y)).toArray.size = pathsL l := by
  have hp := List.pairwise_mergeSort (le := fun x y : Str => decide (x ≤ y)) (fun a b c h1 h2 => decide_eq_true (str_le.2 (compareBytes_ord.tr a b c (str_le.1 (of_decide_eq_true h1)) (str_le.1 (of_decide_eq_true h2))))) (fun a b => by
    rw [Bool.or_eq_true, decide_eq_true_iff, decide_eq_true_iff, str_le, str_le]
    have := compareBytes_ord.anti a b
    omega) l
  have hm := fun x => List.mem_mergeSort (le := fun x y : Str => decide (x ≤ y)) (l := l) (a := x)
  generalize (l.mergeSort fun x y => decide (x ≤ y)) = m at hp hm ⊢
  have hg : ∀ i (h : i < m.length), m.toArray[i]! = m[i] := fun i h => by
    rw [getElem!_pos _ i (by simpa using h)]; simp
  refine rises_ext compareBytes_ord (compact_rises compareBytes_ord _ (fun i j hij hj => ?_) (fun i j _ _ e => compareBytes_zero e)) (pathsL_rises l) fun x => ?_
  · have hj' : j < m.length := by simpa using hj
    rw [hg i (by omega), hg j hj']
    exact str_le.1 (of_decide_eq_true (List.pairwise_iff_getElem.1 hp i j (by omega) hj' hij))
  · rw [compact_mem, pathsL_mem, ← hm]
    constructor
    · rintro ⟨i, hi, rfl⟩
      have hi' : i < m.length := by simpa using hi
      rw [hg i hi']
      exact List.getElem_mem hi'
    · intro hx
      obtain ⟨i, hi, e⟩ := List.mem_iff_getElem.1 hx
      exact ⟨i, by simpa using hi, by rw [hg i hi]; exact e⟩
theorem own_holds {w : World} {base e : Nat} {v : Value} {L : List ByteArray} (h : w.ownsRow base e 1 v L.length (strVs L)) : (v = .slice none 0 0 ∧ L = []) ∨ ∃ g c, v = .slice (some ⟨g, 0, none⟩) L.length c ∧ base ≤ g ∧ g < w.heap.size ∧ L.length ≤ c ∧ c ≤ 9223372036854775807 ∧ Holds encStr w g 0 (strTs L).toArray := by
  rcases h.2 with ⟨rfl, h0⟩ | ⟨g, cap, cur, rfl, hb, hg, hn, hm, hs, ht⟩
  · exact .inl ⟨rfl, List.eq_nil_of_length_eq_zero h0⟩
  · refine .inr ⟨g, cap, rfl, hb, (Array.getElem?_eq_some_iff.1 hg).1, hn, by unfold maxLen at hm; exact hm, fun j hj => ?_⟩
    have hj' : j < L.length := by simpa [strTs_length] using hj
    rw [Nat.zero_add]
    have he : (strTs L).toArray[j]! = (L.getD j ByteArray.empty).data.toList := by
      rw [getElem!_pos _ j hj]
      have := strTs_get hj'
      rw [List.getElem?_eq_getElem (by rw [strTs_length]; exact hj')] at this
      simpa using this
    rw [he]
    show _ = some (Value.string ⟨(L.getD j ByteArray.empty).data.toList.toArray⟩) ∧ _
    rw [bytes_back]
    constructor
    · rw [cell_of_row w g j cur e (0, 0) hg]
      have h1 : (strVs L)[j]? = some (.string (L.getD j ByteArray.empty)) := by
        simp [strVs, List.getD_eq_getElem?_getD, List.getElem?_eq_getElem hj']
      rw [← ht, List.getElem?_take, if_pos (by omega)] at h1
      simpa using h1
    · simp [World.frozen?, hg]
theorem below_sortS {B : Nat} {w0 w : World} (h : Below B w0 w) (hB : B ≤ w0.heap.size) {blk : Nat} (hb : B ≤ blk) (off m : Nat) (d : Array Str) (os : Array Obj) : Below B w0 (grow (putRow encStr (Sort.ahead w m) blk off d) os) := by
  have hBs := h.size
  refine h.trans ⟨rfl, rfl, rfl, ?_, fun k hk => ?_⟩
  · simp [grow, putRow, mapBlock, Sort.ahead]
  · simp only [grow, putRow, mapBlock, Sort.ahead]
    by_cases hk2 : k < w.heap.size
    · rw [Array.getElem?_append_left (by simpa using hk2), Array.getElem?_modify, if_neg (by omega)]
    · exact absurd (Nat.lt_of_lt_of_le hk (Nat.le_trans hB hBs)) hk2
set_option maxHeartbeats 4000000 in
set_option maxRecDepth 100000 in
theorem idxPaths_in (a : Option Addr) (n cap : Nat) (P V : Nat → ByteArray) (R : Nat → List Md) (K : Nat → List Str) (Bk : Nat → Bool) (Rv Kv : Nat → Value) (w : World) (h : EntsIn w a n cap P V R K Bk Rv Kv) (hs : ShortI (enF n P V R K Bk)) :
    Calls Tryz.prog 46 #[.slice a n cap] w fun e w' => (∃ v, e = .returned v ∧ StrsAt w' v (pathsL ((enF n P V R K Bk).map (·.md.1)))) ∧ Below w.heap.size w w' := by
  obtain ⟨i0, hi, hz0, hz1, hz2⟩ := info_parts Tryz.infoString
  have hn : n ≤ 1000000 := by have := hs.len; rwa [enF_length] at this
  rw [enF_paths]
  have H := Lib.hid h
  have hsn := Tryz.slices_Sort_string_none
  have hce := Tryz.slices_Compact_string_empty
  replace hsn := Lib.hid hsn
  replace hce := Lib.hid hce
  clear h hs
  go_enter Tryz.func46, Tryz.ntmps46
  go_wp2_with fail
  go_loopw [3, 8] (fun o i wr => ∃ (k : Nat) (L : List ByteArray), k ≤ n ∧ i = .int .i64 k ∧ Hid (wr.ownsRow w.heap.size 9 1 o L.length (strVs L)) ∧ L.length ≤ k ∧ Hid (strTs L = (lstF n P).take k) ∧ Below w.heap.size w wr) (fun _ i _ => n - (intOf i).toNat)
  case atStart => exact ⟨0, [], Nat.zero_le _, rfl, Lib.hid (World.ownsRow_nil _ _ _ _), Nat.le_refl _, Lib.hid rfl, Below.refl _ _⟩
  case round =>
    obtain ⟨k, L, hk, rfl, hO, hLk, hT, hBr⟩ := hrel
    by_cases hlt : k < n
    · obtain ⟨ao, no, co, rfl⟩ := own_form hO.out
      have hkn : (k : Int) < (n : Int) := by omega
      obtain ⟨b1, o1, ea, hcell⟩ := H.out.at_ k hlt
      obtain ⟨c0, c1, c2, c3, c4⟩ := hcell.below hBr
      obtain ⟨a1, n1, s1, a2, n2, s2, e1, e2⟩ := H.out.forms hlt
      rw [e1] at c2
      rw [e2] at c3
      subst ea
      have hba := below_alloc wr (.cells #[.string (P k), .string (V k), .slice a1 n1 s1, .slice a2 n2 s2, .bool (Bk k)] 37)
      have y0 : (wr.alloc (.cells #[.string (P k), .string (V k), .slice a1 n1 s1, .slice a2 n2 s2, .bool (Bk k)] 37)).cell? ⟨wr.heap.size, 0, none⟩ = some (.string (P k)) := by simp
      have hO2 := hO.out.below hba
      have hB2 := below_step hBr hba
      obtain ⟨w2, hW⟩ : ∃ W, wr.alloc (.cells #[.string (P k), .string (V k), .slice a1 n1 s1, .slice a2 n2 s2, .bool (Bk k)] 37) = W := ⟨_, rfl⟩
      rw [hW] at y0 hO2 hB2
      replace hO2 := Lib.hid hO2
      have HN : Hid (strTs (L ++ [P k]) = (lstF n P).take (k + 1)) := Lib.hid (by
        rw [List.take_add_one, lstF_get n P k hlt, strTs_snoc, hT.out]; rfl)
      clear hba hcell e1 e2 hT hO
      go_wp2_with (at_builtin; refine wpList_append_own _ rfl _ _ 35 rfl w.heap.size 9 i0 (.string ⟨#[]⟩) 1 16 Tryz.underlying35 hi hz0 hz1 hz2 rfl (by decide) _ _ _ rfl (hO2.out.alloc _) ⟨w2.heap.size, 0, none⟩ 1 1 [.string (P k)] rfl rfl (cell_one_new _ _ _) (fun x hx => by simp at hx; subst hx; rfl) (by unfold maxLen; omega) (by omega) (by have := hB2.size; simp; omega) ?_; intro o' w4 hown4 hgrow4 _)
      go_roundw
      case rel =>
        refine ⟨k + 1, L ++ [P k], by omega, by go_num, Lib.hid ?_, by simp; omega, HN, ?_⟩
        · rw [List.length_append, List.length_singleton, ← strVs_snoc]; exact hown4
        · exact (hB2.alloc hB2.size _).grown hgrow4 (by have := hB2.size; simp; omega) (fun q hq => (hO2.out.lt q hq).1)
      case measure => simp [intOf]; omega
    · have hkn : ¬ (k : Int) < (n : Int) := by omega
      have hTL : strTs L = lstF n P := by rw [hT.out, List.take_of_length_le (by rw [lstF_length]; omega)]
      have HTL := Lib.hid hTL
      rcases own_holds hO.out with ⟨rfl, rfl⟩ | ⟨g, c, rfl, hg0, hgl, hnc, hcm, hH⟩
      · clear hT hTL hO hlt
        go_wp2_with fail
        refine (hsn.out none 0 _).mono ?_
        rintro e w' ⟨rfl, rfl⟩
        go_wp2_with fail
        refine (hce.out none 0 _).mono ?_
        rintro e w' ⟨rfl, rfl⟩
        go_wp2_with fail
        go_ret
        rw [← HTL.out]
        exact ⟨⟨_, rfl, StrsAt.nil _⟩, hBr⟩
      · have hso := Tryz.slices_Sort_string g 0 c (strTs L) wr hH hgl (by rw [strTs_length]; omega)
        rw [strTs_length] at hso
        have hd := sorted_paths (strTs L)
        have hdl : ((strTs L).mergeSort fun x y => decide (x ≤ y)).toArray.size = L.length := by rw [List.size_toArray, List.length_mergeSort, strTs_length]
        generalize ((strTs L).mergeSort fun x y => decide (x ≤ y)).toArray = d at hso hd hdl
        have HD := Lib.hid hd
        have HH := Lib.hid hH
        replace hso := Lib.hid hso
        clear hT hTL hO hlt hd hH
        go_wp2_with fail
        refine hso.out.mono ?_
        rintro e w5 ⟨rfl, q, os, hw5⟩
        have hH2 : Holds encStr (putRow encStr (Sort.ahead wr q) g 0 d) g 0 d := holds_putRow encStr _ g 0 (strTs L).toArray d (fun j hj => HH.out j hj) (by rw [hdl, List.size_toArray, strTs_length])
        have hH5 : Holds encStr w5 g 0 d := by
          rw [hw5]
          exact holds_grow encStr _ os g 0 d (by simpa [putRow, mapBlock, Sort.ahead] using hgl) hH2
        have hB5 : Below w.heap.size w w5 := by
          rw [hw5]
          exact below_sortS hBr (Nat.le_refl _) hg0 0 q d os
        have hco := Tryz.slices_Compact_string_arr g 0 c d w5 hH5 (by omega) (by omega)
        rw [HD.out, hdl] at hco
        have hvl : (pathsL (strTs L)).length ≤ L.length := by
          rw [← HD.out, ← hdl]
          exact compactUpTo_length_le _
        replace hco := Lib.hid hco
        clear hso hw5 hH2
        go_wp2_with fail
        refine hco.out.mono ?_
        rintro e w6 ⟨rfl, q6, rfl⟩
        go_wp2_with fail
        go_ret
        rw [← HTL.out]
        refine ⟨⟨_, rfl, ?_⟩, below_putRow (below_drewN hB5 q6) hg0 0 _⟩
        refine strsAt_holds (l := pathsL (strTs L)) (holds_take (m := List.replicate (L.length - (pathsL (strTs L)).length) []) ?_) (by omega) hcm
        have hH6 : Holds encStr (Sort.ahead w5 q6) g 0 d := fun j hj => hH5 j hj
        exact holds_putRow encStr (Sort.ahead w5 q6) g 0 _ _ hH6 (by simp [hdl]; omega)
end Go.Proofs.Pw

namespace Go.Proofs.Pw
open Go.RowKit Go.Sort
open Go.Lib hiding intOf
theorem allP_map (l : List En) (sel : List Md) : (sel.map (entOf l)).flatMap packsP = allP l sel := by
  unfold allP
  rw [List.flatMap_map]
theorem strsAt_cells {w : World} {v : Value} {l : List Str} (h : StrsAt w v l) : ∃ a n c L, v = .slice a n c ∧ l = lstF n L ∧ ∀ W, Below w.heap.size w W → ∀ j, j < n → ∃ b o, a = some ⟨b, o, none⟩ ∧ W.cell? ⟨b, o + j, none⟩ = some (.string (L j)) := by
  obtain ⟨a, n, c, L, e1, e2, _, _, h5⟩ := h
  exact ⟨a, n, c, L, e1, e2, fun W hW j hj => let ⟨b, o, e, c0⟩ := h5 j hj; ⟨b, o, e, Below.cell_some hW c0⟩⟩
theorem row_off {w : World} {base s m bx : Nat} {e t : TypeId} {u : Value} {xs : List Value} {c : Array Value} (h : w.ownsRow base e s u m xs) (hb : w.heap[bx]? = some (.cells c t (0, 0))) (hne : e ≠ t) : some bx ≠ u.ownBlock := fun h1 => by
  rcases h.2 with ⟨rfl, _⟩ | ⟨g, cap, cur, rfl, _, hg, _⟩
  · cases h1
  · have h2 : bx = g := Option.some.inj h1
    rw [h2, hg] at hb
    injection hb with hb
    injection hb with _ h3 _
    exact hne h3
theorem blk_kept {w w' : World} {row : Option Nat} {bx : Nat} {o : Obj} (hg : w.grownBy w' row) (hb : w.heap[bx]? = some o) (hne : some bx ≠ row) : w'.heap[bx]? = some o :=
  (hg.block bx (Array.getElem?_eq_some_iff.1 hb).1 hne).trans hb
theorem blk_alloc {w : World} {bx : Nat} {o o2 : Obj} (hb : w.heap[bx]? = some o) : (w.alloc o2).heap[bx]? = some o :=
  ((World.grownBy_alloc w o2 none).block bx (Array.getElem?_eq_some_iff.1 hb).1 (fun h => by cases h)).trans hb
set_option maxHeartbeats 16000000 in
set_option maxRecDepth 100000 in
theorem pkgAll_in (ks : List Nat) (A : Nat → Addr) (hks : IdxKs ks) (a : Option Addr) (n cap : Nat) (P V : Nat → ByteArray) (R : Nat → List Md) (K : Nat → List Str) (B : Nat → Bool) (Rv Kv : Nat → Value) (sv : Value) (sel : List Md) (l : List En) (hle : enF n P V R K B = l) (w : World) (hE : EnvP ks A w) (h : EntsIn w a n cap P V R K B Rv Kv) (hs : ShortI l) (hr : ModsAt w sv sel) (hl : sel.length ≤ 1000000) :
    Calls Tryz.prog 41 #[.slice a n cap, sv] w fun e w' => (∃ v ev, e = .returned (.tuple #[v, ev]) ∧ StrsAt w' v (allK l sel) ∧ FaultAt A w' ev (allErr l sel)) ∧ Below w.heap.size w w' := by
  obtain ⟨i0, hi, hz0, hz1, hz2⟩ := info_parts Tryz.infoString
  obtain ⟨a2, m, cap2, _, _, rfl, -⟩ := id hr
  have hn : n ≤ 1000000 := by have := hs.len; rw [← hle, enF_length] at this; exact this
  have hck := idxCheck_in ks A hks a n cap P V R K B Rv Kv w hE h (by rw [hle]; exact hs)
  have hen := fun (W : World) (hb : Below w.heap.size w W) => pkgEntries_in ks A hks a n cap P V R K B Rv Kv (.slice a2 m cap2) sel W (hE.below hb) (h.below hb) hn (hr.below hb) hl
  simp only [hle] at hck hen
  have HSH := Lib.hid hs
  have HOE : Hid (allErr l sel = orE (idxErr l) (rootsErr l sel)) := Lib.hid rfl
  have HOM : Hid (allK l sel = if (allErr l sel).1 = 0 then pathsL (allP l sel) else []) := Lib.hid rfl
  have hsn := Tryz.slices_Sort_string_none
  have hce := Tryz.slices_Compact_string_empty
  replace hck := Lib.hid hck
  replace hen := Lib.hid hen
  replace hsn := Lib.hid hsn
  replace hce := Lib.hid hce
  clear h hr hs hE hle
  go_enter Tryz.func41, Tryz.ntmps41
  go_wp2_with fail
  refine hck.out.mono ?_
  rintro e w2 ⟨⟨ev, rfl, hf⟩, hB⟩
  clear hck
  rcases fault_form hf with ⟨h0, rfl⟩ | ⟨h0, ty, qq, rfl⟩
  · have HF1 : Hid (allErr l sel = rootsErr l sel) := Lib.hid (by rw [HOE.out]; unfold orE; rw [if_neg (by simp [h0])])
    clear hf h0
    go_wp2_with fail
    refine (hen.out _ hB).mono ?_
    rintro e w4 ⟨⟨v4, ev4, rfl, hf4, ho4, hn4⟩, hb⟩
    replace hB := below_step hB hb
    clear hb hen
    rcases fault_form hf4 with ⟨h5, rfl⟩ | ⟨h5, ty, qq, rfl⟩
    · obtain ⟨ea, en, ec, P2, V2, R2, K2, B2, Rv2, Kv2, rfl, hEq, hin⟩ := ho4 h5
      have HIN := Lib.hid hin
      have HEQ := Lib.hid hEq
      have HSK : Hid (∀ e ∈ enF en P2 V2 R2 K2 B2, e.packs.length ≤ 1000000 ∧ e.md.1.length ≤ 1000000 ∧ ∀ x ∈ e.packs, x.length ≤ 1000000) := Lib.hid (fun e he => by
        rw [← hEq] at he
        obtain ⟨m, hm, rfl⟩ := List.mem_map.1 he
        have he2 := (entOf_md (rootsErr_zero.1 h5 m hm)).2
        exact ⟨(HSH.out.packs _ he2).1, (HSH.out.mds _ he2).1, (HSH.out.packs _ he2).2⟩)
      have HF2 : Hid ((allErr l sel).1 = 0 ∧ FaultAt A w4 .nilIface (allErr l sel)) := Lib.hid (by rw [HF1.out]; exact ⟨h5, hf4⟩)
      have hen6 : en ≤ 1000000 := by
        have := congrArg List.length hEq
        rw [enF_length, List.length_map] at this
        omega
      clear hin hEq hf4 ho4 hn4 h5
      go_wp2_with fail
      go_loopw [9, 30] (fun o i wr => ∃ (k : Nat) (T : List ByteArray), k ≤ en ∧ i = .int .i64 k ∧ Hid (wr.ownsRow w4.heap.size 9 1 o T.length (strVs T)) ∧ T.length ≤ k * 1000000 ∧ Hid (strTs T = ((enF en P2 V2 R2 K2 B2).take k).flatMap packsP) ∧ Below w4.heap.size w4 wr) (fun _ i _ => en - (intOf i).toNat)
      case atStart => exact ⟨0, [], Nat.zero_le _, rfl, Lib.hid (World.ownsRow_nil _ _ _ _), Nat.le_refl _, Lib.hid rfl, Below.refl _ _⟩
      case round =>
        obtain ⟨k, T, hk, rfl, hO, hLk, hT, hBr⟩ := hrel
        by_cases hlt : k < en
        · obtain ⟨ao, no, co, rfl⟩ := own_form hO.out
          have hkn : (k : Int) < (en : Int) := by omega
          obtain ⟨b1, o1, ea', hcell⟩ := HIN.out.at_ k hlt
          obtain ⟨a1, n1, s1, _, _, _, e1, _⟩ := HIN.out.forms2 hlt
          obtain ⟨a2', n2, s2, L2, e2, eK, hcK⟩ := strsAt_cells (HIN.out.packs k hlt)
          rw [e1, e2] at hcell
          obtain ⟨c0, c1, c2, c3, c4⟩ := hcell.below hBr
          subst ea'
          have hsk := HSK.out (enAt (enF en P2 V2 R2 K2 B2) k) (enAt_mem (by rw [enF_length]; exact hlt))
          rw [enAt_enF hlt] at hsk
          have hn2 : n2 ≤ 1000000 := by
            have hsk2 : (K2 k).length ≤ 1000000 := hsk.1
            rwa [eK, lstF_length] at hsk2
          have hpz : (P2 k).size ≤ 1000000 := by rw [size_eq]; exact hsk.2.1
          have HLZ : Hid (∀ j, j < n2 → (L2 j).size ≤ 1000000) := Lib.hid (fun j hj => by
            have h1 : ∀ x ∈ K2 k, x.length ≤ 1000000 := hsk.2.2
            rw [size_eq]
            exact h1 _ (by rw [eK]; exact lstF_mem'.2 ⟨j, hj, rfl⟩))
          clear hsk
          have hba := below_alloc wr (.cells #[.string (P2 k), .string (V2 k), .slice a1 n1 s1, .slice a2' n2 s2, .bool (B2 k)] 37)
          have hTk : ((enF en P2 V2 R2 K2 B2).take (k + 1)).flatMap packsP = strTs T ++ (lstF n2 L2).map (packP (P2 k).data.toList) := by
            rw [List.take_add_one, enF_get _ _ _ _ _ _ k hlt, List.flatMap_append, hT.out]
            congr 1
            show packsP _ ++ [] = _
            rw [List.append_nil]
            show (K2 k).map _ = _
            rw [eK]
          have y0 : (wr.alloc (.cells #[.string (P2 k), .string (V2 k), .slice a1 n1 s1, .slice a2' n2 s2, .bool (B2 k)] 37)).cell? ⟨wr.heap.size, 0, none⟩ = some (.string (P2 k)) := by simp
          have y3 : (wr.alloc (.cells #[.string (P2 k), .string (V2 k), .slice a1 n1 s1, .slice a2' n2 s2, .bool (B2 k)] 37)).cell? ⟨wr.heap.size, 3, none⟩ = some (.slice a2' n2 s2) := by simp
          have hO2 := Lib.hid (hO.out.below hba)
          have hB2 := below_step hBr hba
          have hbx : wr.heap.size < (wr.alloc (.cells #[.string (P2 k), .string (V2 k), .slice a1 n1 s1, .slice a2' n2 s2, .bool (B2 k)] 37)).heap.size := by simp
          obtain ⟨wb, hW⟩ : ∃ W, wr.alloc (.cells #[.string (P2 k), .string (V2 k), .slice a1 n1 s1, .slice a2' n2 s2, .bool (B2 k)] 37) = W := ⟨_, rfl⟩
          rw [hW] at y0 y3 hO2 hB2 hbx
          have HBX := Lib.hid (Go.Deep.blk_alloc_new wr (.cells #[.string (P2 k), .string (V2 k), .slice a1 n1 s1, .slice a2' n2 s2, .bool (B2 k)] 37))
          rw [hW] at HBX
          have HTT := Lib.hid hT.out
          have HTK := Lib.hid hTk
          replace hcK := Lib.hid hcK
          clear hba hcell e1 e2 hO hT hTk y0 eK
          go_wp2_with fail
          clear hW c0 c1 c2 c3 c4 y3
          generalize P2 k = p at *
          generalize wr.heap.size = bx at *
          generalize hwq : wr = wq at *
          clear hwq
          go_loopw [9, 37] (fun o i wr => ∃ (j : Nat) (T2 : List ByteArray), j ≤ n2 ∧ i = .int .i64 j ∧ Hid (wr.ownsRow w4.heap.size 9 1 o T2.length (strVs T2)) ∧ T2.length ≤ k * 1000000 + j ∧ Hid (strTs T2 = strTs T ++ ((lstF n2 L2).take j).map (packP p.data.toList)) ∧ Hid (wr.heap[bx]? = some (.cells #[.string p, .string (V2 k), .slice a1 n1 s1, .slice a2' n2 s2, .bool (B2 k)] 37 (0, 0))) ∧ Below w4.heap.size w4 wr) (fun _ i _ => n2 - (intOf i).toNat)
          case atStart => exact ⟨0, T, Nat.zero_le _, rfl, hO2, (by rw [Nat.add_zero]; exact hLk), Lib.hid (by rw [List.take_zero, List.map_nil, List.append_nil]), HBX, hB2⟩
          case round =>
            obtain ⟨j, T2, hj, rfl, hO7, hL7, hT7, BX, hBi⟩ := hrel
            obtain ⟨ao2, no2, co2, rfl⟩ := own_form hO7.out
            have y0 : wr.cell? ⟨bx, 0, none⟩ = some (.string p) := by rw [cell_of_row wr _ 0 _ _ (0, 0) BX.out]; rfl
            by_cases hlj : j < n2
            · have hkj : (j : Int) < (n2 : Int) := by omega
              obtain ⟨b3, o3, ea3, d0⟩ := hcK.out wr hBi j hlj
              subst ea3
              have hTj : ((lstF n2 L2).take (j + 1)).map (packP p.data.toList) = ((lstF n2 L2).take j).map (packP p.data.toList) ++ [packP p.data.toList (L2 j).data.toList] := by
                rw [List.take_add_one, lstF_get n2 L2 j hlj, List.map_append]; rfl
              have hxz := HLZ.out j hlj
              generalize L2 j = x at d0 hTj hxz
              by_cases hd : x.data.toList = [46]
              · have q1 : (x.toList == [46]) = true := by rw [toList_data, hd]; rfl
                have HN : Hid (strTs (T2 ++ [p]) = strTs T ++ ((lstF n2 L2).take (j + 1)).map (packP p.data.toList)) := Lib.hid (by
                  rw [hTj, strTs_snoc, hT7.out, List.append_assoc]
                  unfold packP
                  rw [if_pos hd])
                clear hTj hT7 hd
                go_wp2_with (at_builtin; refine wpList_append_own _ rfl _ _ 35 rfl w4.heap.size 9 i0 (.string ⟨#[]⟩) 1 16 Tryz.underlying35 hi hz0 hz1 hz2 rfl (by decide) _ _ _ rfl (hO7.out.alloc _) ⟨wr.heap.size, 0, none⟩ 1 1 [.string (p)] rfl rfl (cell_one_new _ _ _) (fun x hx => by simp at hx; subst hx; rfl) (by unfold maxLen; omega) (by omega) (by have := hBi.size; simp; omega) ?_; intro o' w8 hown4 hgrow4 _)
                go_roundw
                case rel =>
                  refine ⟨j + 1, T2 ++ [p], by omega, by go_num, Lib.hid ?_, by simp; omega, HN, Lib.hid (blk_kept hgrow4 (blk_alloc BX.out) (row_off hO7.out BX.out (by decide))), ?_⟩
                  · rw [List.length_append, List.length_singleton, ← strVs_snoc]; exact hown4
                  · exact (hBi.alloc hBi.size _).grown hgrow4 (by have := hBi.size; simp; omega) (fun q hq => (hO7.out.lt q hq).1)
                case measure => simp [intOf]; omega
              · have q1 : (x.toList == [46]) = false := by rw [toList_data]; exact beq_eq_false_iff_ne.2 hd
                have HN : Hid (strTs (T2 ++ [p ++ ⟨#[47]⟩ ++ x]) = strTs T ++ ((lstF n2 L2).take (j + 1)).map (packP p.data.toList)) := Lib.hid (by
                  rw [hTj, strTs_snoc, hT7.out, List.append_assoc, app_byP, app_byP]
                  congr 2
                  unfold packP
                  rw [if_neg hd]
                  simp)
                clear hTj hT7 hd
                go_wp2_with (at_builtin; refine wpList_append_own _ rfl _ _ 35 rfl w4.heap.size 9 i0 (.string ⟨#[]⟩) 1 16 Tryz.underlying35 hi hz0 hz1 hz2 rfl (by decide) _ _ _ rfl (hO7.out.alloc _) ⟨wr.heap.size, 0, none⟩ 1 1 [.string (p ++ ⟨#[47]⟩ ++ x)] rfl rfl (cell_one_new _ _ _) (fun x hx => by simp at hx; subst hx; rfl) (by unfold maxLen; omega) (by omega) (by have := hBi.size; simp; omega) ?_; intro o' w8 hown4 hgrow4 _)
                go_roundw
                case rel =>
                  refine ⟨j + 1, T2 ++ [p ++ ⟨#[47]⟩ ++ x], by omega, by go_num, Lib.hid ?_, by simp; omega, HN, Lib.hid (blk_kept hgrow4 (blk_alloc BX.out) (row_off hO7.out BX.out (by decide))), ?_⟩
                  · rw [List.length_append, List.length_singleton, ← strVs_snoc]; exact hown4
                  · exact (hBi.alloc hBi.size _).grown hgrow4 (by have := hBi.size; simp; omega) (fun q hq => (hO7.out.lt q hq).1)
                case measure => simp [intOf]; omega
            · obtain rfl : n2 = j := by omega
              have hkj : ¬ (n2 : Int) < (n2 : Int) := by omega
              have HN : Hid (strTs T2 = ((enF en P2 V2 R2 K2 B2).take (k + 1)).flatMap packsP) := Lib.hid (by
                rw [hT7.out, HTK.out, HTT.out, List.take_of_length_le (l := lstF n2 L2) (by rw [lstF_length]; exact Nat.le_refl _)])
              clear hT7 y0 BX
              go_wp2_with fail
              go_roundw
              case rel => exact ⟨k + 1, T2, by omega, by go_num, hO7, by omega, HN, hBi⟩
              case measure => simp [intOf]; omega
        · obtain rfl : k = en := by omega
          have hmd : strTs T = allP l sel := by
            rw [hT.out, List.take_of_length_le (by rw [enF_length]; exact Nat.le_refl _), ← HEQ.out]
            exact allP_map l sel
          have hkn : ¬ (k : Int) < (k : Int) := by omega
          have HM : Hid (allK l sel = pathsL (strTs T)) := Lib.hid (by rw [HOM.out, if_pos HF2.out.1, hmd])
          have HFA := Lib.hid (HF2.out.2.below hBr)
          have hLm : T.length ≤ 1000000000000 := by omega
          rcases own_holds hO.out with ⟨rfl, rfl⟩ | ⟨g, c, rfl, hg0, hgl, hnc, hcm, hH⟩
          · clear hT hmd hO hlt
            go_wp2_with fail
            refine (hsn.out none 0 _).mono ?_
            rintro e w' ⟨rfl, rfl⟩
            go_wp2_with fail
            refine (hce.out none 0 _).mono ?_
            rintro e w' ⟨rfl, rfl⟩
            go_wp2_with fail
            go_ret2
            rw [HM.out]
            exact ⟨⟨_, _, rfl, StrsAt.nil _, HFA.out⟩, below_step hB hBr⟩
          · have hso := Tryz.slices_Sort_string g 0 c (strTs T) wr hH hgl (by rw [strTs_length]; omega)
            rw [strTs_length] at hso
            have hd := sorted_paths (strTs T)
            have hdl : ((strTs T).mergeSort fun x y => decide (x ≤ y)).toArray.size = T.length := by rw [List.size_toArray, List.length_mergeSort, strTs_length]
            generalize ((strTs T).mergeSort fun x y => decide (x ≤ y)).toArray = d at hso hd hdl
            have HD := Lib.hid hd
            have HH := Lib.hid hH
            replace hso := Lib.hid hso
            clear hT hmd hO hlt hd hH
            go_wp2_with fail
            refine hso.out.mono ?_
            rintro e w5 ⟨rfl, q, os, hw5⟩
            have hH2 : Holds encStr (putRow encStr (Sort.ahead wr q) g 0 d) g 0 d := holds_putRow encStr _ g 0 (strTs T).toArray d (fun j hj => HH.out j hj) (by rw [hdl, List.size_toArray, strTs_length])
            have hH5 : Holds encStr w5 g 0 d := by
              rw [hw5]
              exact holds_grow encStr _ os g 0 d (by simpa [putRow, mapBlock, Sort.ahead] using hgl) hH2
            have hB5 : Below w4.heap.size w4 w5 := by
              rw [hw5]
              exact below_sortS hBr (Nat.le_refl _) hg0 0 q d os
            have hco := Tryz.slices_Compact_string_arr g 0 c d w5 hH5 (by omega) (by omega)
            rw [HD.out, hdl] at hco
            have hvl : (pathsL (strTs T)).length ≤ T.length := by
              rw [← HD.out, ← hdl]
              exact compactUpTo_length_le _
            have HF4 := Lib.hid HF2.out.2
            replace hco := Lib.hid hco
            clear hso hw5 hH2
            go_wp2_with fail
            refine hco.out.mono ?_
            rintro e w6 ⟨rfl, q6, rfl⟩
            go_wp2_with fail
            go_ret2
            rw [HM.out]
            refine ⟨⟨_, _, rfl, ?_, HF4.out.below (below_putRow (below_drewN hB5 q6) hg0 0 _)⟩, below_step hB (below_putRow (below_drewN hB5 q6) hg0 0 _)⟩
            refine strsAt_holds (l := pathsL (strTs T)) (holds_take (m := List.replicate (T.length - (pathsL (strTs T)).length) []) ?_) (by omega) hcm
            have hH6 : Holds encStr (Sort.ahead w5 q6) g 0 d := fun j hj => hH5 j hj
            exact holds_putRow encStr (Sort.ahead w5 q6) g 0 _ _ hH6 (by simp [hdl]; omega)
    · have HF2 : Hid (allK l sel = [] ∧ FaultAt A w4 (.iface ty (.pointer qq)) (allErr l sel)) := Lib.hid ⟨by rw [HOM.out, HF1.out, if_neg h5], by rw [HF1.out]; exact hf4⟩
      obtain rfl := hn4 h5
      clear hf4 ho4 hn4 h5
      go_wp2_with fail
      go_ret2
      rw [HF2.out.1]
      exact ⟨⟨_, _, rfl, StrsAt.nil _, HF2.out.2⟩, hB⟩
  · have HF : Hid (allErr l sel = idxErr l) := Lib.hid (by rw [HOE.out]; unfold orE; rw [if_pos h0])
    have HM : Hid (allK l sel = []) := Lib.hid (by rw [HOM.out, HF.out, if_neg h0])
    have HFA := Lib.hid hf
    clear hf h0
    go_wp2_with fail
    go_ret2
    rw [HM.out, HF.out]
    exact ⟨⟨_, _, rfl, StrsAt.nil _, HFA.out⟩, hB⟩
end Go.Proofs.Pw

namespace Go.Proofs.Pw
open Go.RowKit Go.Sort
open Go.Lib hiding intOf
set_option maxHeartbeats 16000000 in
set_option maxRecDepth 100000 in
theorem pkgWho_in (ks : List Nat) (A : Nat → Addr) (hks : IdxKs ks) (a : Option Addr) (n cap : Nat) (P V : Nat → ByteArray) (R : Nat → List Md) (K : Nat → List Str) (B : Nat → Bool) (Rv Kv : Nat → Value) (q : ByteArray) (l : List En) (hle : enF n P V R K B = l) (w : World) (hE : EnvP ks A w) (h : EntsIn w a n cap P V R K B Rv Kv) (hs : ShortI l) :
    Calls Tryz.prog 44 #[.slice a n cap, .string q] w fun e w' => (∃ v ev, e = .returned (.tuple #[v, ev]) ∧ ModsAt w' v (whoK l q.data.toList) ∧ FaultAt A w' ev (idxErr l)) ∧ Below w.heap.size w w' := by
  obtain ⟨i0, hi, hz0, hz1, hz2⟩ := info_parts Tryz.infoMod
  have hn : n ≤ 1000000 := by have := hs.len; rw [← hle, enF_length] at this; exact this
  have hck := idxCheck_in ks A hks a n cap P V R K B Rv Kv w hE h (by rw [hle]; exact hs)
  have hpa := fun (W : World) (hb : Below w.heap.size w W) => idxPaths_in a n cap P V R K B Rv Kv W (h.below hb) (by rw [hle]; exact hs)
  have hla := fun (p : ByteArray) (W : World) (hb : Below w.heap.size w W) => idxLatest_in ks A a n cap P V R K B Rv Kv p W (hE.below hb) (h.below hb) (by rw [hle]; exact hs)
  have hfi := fun (p v : ByteArray) (W : World) (hb : Below w.heap.size w W) => idxFind_in a n cap P V R K B Rv Kv p v W (h.below hb) hn
  have H := Lib.hid h
  have HAT : Hid (∀ j, j < n → enAt l j = ⟨((P j).data.toList, (V j).data.toList), R j, K j, B j⟩) := Lib.hid (fun j hj => by rw [← hle, enAt_enF hj])
  have HSK : Hid (∀ j, j < n → (K j).length ≤ 1000000 ∧ (P j).size ≤ 1000000) := Lib.hid (fun j hj => by rw [← hle] at hs; exact ⟨(hs.at_ hj).2.2.2.2.1, (hs.at_ hj).2.1⟩)
  have HLN : Hid (l.length = n) := Lib.hid (by rw [← hle, enF_length])
  have HPL : Hid ((pathsL (l.map (·.md.1))).length ≤ 1000000) := Lib.hid (by
    have h1 := insFold_lenP (l.map (·.md.1))
    rw [List.length_map] at h1
    exact Nat.le_trans h1 hs.len)
  have HOM : Hid (whoK l q.data.toList = if (idxErr l).1 = 0 then (whoL l q.data.toList).reverse else []) := Lib.hid rfl
  simp only [hle] at hck hpa hla hfi
  replace hck := Lib.hid hck
  replace hpa := Lib.hid hpa
  replace hla := Lib.hid hla
  replace hfi := Lib.hid hfi
  clear h hs hE hle
  go_enter Tryz.func44, Tryz.ntmps44
  go_wp2_with fail
  refine hck.out.mono ?_
  rintro e w2 ⟨⟨ev, rfl, hf⟩, hB⟩
  clear hck
  rcases fault_form hf with ⟨h0, rfl⟩ | ⟨h0, ty, qq, rfl⟩
  · have HR := Lib.hid (rightI_of h0)
    have HF1 : Hid (whoK l q.data.toList = (whoL l q.data.toList).reverse) := Lib.hid (by rw [HOM.out, if_pos h0])
    have HFA := Lib.hid hf
    clear hf h0
    go_wp2_with fail
    refine (hpa.out _ hB).mono ?_
    rintro e w4 ⟨⟨v4, rfl, hs4⟩, hb⟩
    have HFA4 := Lib.hid (HFA.out.below hb)
    replace hB := below_step hB hb
    obtain ⟨a5, m5, c5, L5, rfl, eL, hc5⟩ := strsAt_cells hs4
    have HEL := Lib.hid eL
    have hm5 : m5 ≤ 1000000 := by have := HPL.out; rwa [eL, lstF_length] at this
    replace hc5 := Lib.hid hc5
    clear hs4 hb hpa HFA eL
    go_wp2_with fail
    go_loopw [7, 19] (fun o i wr => ∃ (k : Nat) (L : List BM), k ≤ m5 ∧ i = .int .i64 k ∧ Hid (wr.ownsRow w4.heap.size 29 2 o L.length (mdVs L)) ∧ L.length ≤ k ∧ Hid (mdTs L = (((lstF m5 L5).take k).map fun s => ((s, latestL l s) : Md)).filter (selHas l q.data.toList)) ∧ Below w4.heap.size w4 wr) (fun _ i _ => m5 - (intOf i).toNat)
    case atStart => exact ⟨0, [], Nat.zero_le _, rfl, Lib.hid (World.ownsRow_nil _ _ _ _), Nat.le_refl _, Lib.hid rfl, Below.refl _ _⟩
    case round =>
      obtain ⟨k, L, hk, rfl, hO, hLk, hT, hBr⟩ := hrel
      obtain ⟨ao, no, co, rfl⟩ := own_form hO.out
      have hBw := below_step hB hBr
      by_cases hlt : k < m5
      · have hkn : (k : Int) < (m5 : Int) := by omega
        obtain ⟨b1, o1, ea', c0⟩ := hc5.out wr hBr k hlt
        subst ea'
        have hTk : (((lstF m5 L5).take (k + 1)).map fun s => ((s, latestL l s) : Md)).filter (selHas l q.data.toList) = mdTs L ++ (if selHas l q.data.toList ((L5 k).data.toList, latestL l (L5 k).data.toList) then [((L5 k).data.toList, latestL l (L5 k).data.toList)] else []) := by
          rw [List.take_add_one, lstF_get m5 L5 k hlt, List.map_append, List.filter_append, hT.out]
          congr 1
          show List.filter _ [_] = _
          rw [List.filter_cons, List.filter_nil]
        have hmem : (L5 k).data.toList ∈ pathsL (l.map (·.md.1)) := by rw [HEL.out]; exact lstF_mem'.2 ⟨k, hlt, rfl⟩
        obtain ⟨e0, he0, h1⟩ := List.mem_map.1 ((pathsL_mem _ _).1 hmem)
        have hlat := latest_in HR.out he0 rfl
        rw [h1] at hlat
        have hnf : ¬ findE l ((L5 k).data.toList, latestL l (L5 k).data.toList) < 0 := fun h2 => by
          obtain ⟨e, he, h3⟩ := hlat
          exact findE_lt.1 h2 e he h3
        obtain ⟨x, ex, hx, _⟩ := findE_nat hnf
        rw [HLN.out] at hx
        have hsel : selHas l q.data.toList ((L5 k).data.toList, latestL l (L5 k).data.toList) = hasK ⟨((P x).data.toList, (V x).data.toList), R x, K x, B x⟩ q.data.toList := by
          unfold selHas entOf
          rw [ex, Int.toNat_natCast, HAT.out x hx]
        rw [hsel] at hTk
        obtain ⟨lb, hlb⟩ : ∃ y : ByteArray, y = ⟨(latestL l (L5 k).data.toList).toArray⟩ := ⟨_, rfl⟩
        have hlb2 : lb.data.toList = latestL l (L5 k).data.toList := by rw [hlb]
        have hl1 := hla.out (L5 k) wr hBw
        rw [← hlb] at hl1
        have hf1 := fun W hb => hfi.out (L5 k) lb W hb
        rw [hlb2, ex] at hf1
        rw [← hlb2] at hTk
        clear hmem he0 h1 hlat hnf ex hsel hlb hlb2
        obtain ⟨a1, n1, s1, aK, nK, cK, e1, e2⟩ := H.out.forms2 hx
        generalize L5 k = pb at *
        have hxn : ((x : Nat) : Int) < (n : Int) := by omega
        replace hl1 := Lib.hid hl1
        replace hf1 := Lib.hid hf1
        go_wp2_with fail
        refine hl1.out.mono ?_
        rintro e w5 ⟨rfl, hb⟩
        have hba := below_alloc w5 (.cells #[.string pb, .string lb] 29)
        obtain ⟨y0, y1, _⟩ := box2_alloc w5 (.string pb) (.string lb) 29
        have hO2 := Lib.hid (hO.out.below (below_step hb hba))
        have hB2 := below_step hBr (below_step hb hba)
        clear hO hb hba hl1 c0
        go_wp2_with fail
        generalize hW6 : w5.alloc (.cells #[.string pb, .string lb] 29) = w6 at *
        generalize w5.heap.size = bx at *
        clear hW6
        refine (hf1.out w6 (below_step hB hB2)).mono ?_
        rintro e w7 ⟨rfl, hb⟩
        replace hO2 := Lib.hid (hO2.out.below hb)
        replace hB2 := below_step hB2 hb
        replace y0 := Below.cell_some hb y0
        replace y1 := Below.cell_some hb y1
        obtain ⟨b3, o3, ea3, hcell⟩ := (H.out.below (below_step hB hB2)).at_ x hx
        have hpk := (H.out.below (below_step hB hB2)).packs x hx
        rw [e1, e2] at hcell
        rw [e2] at hpk
        obtain ⟨d0, d1, d2, d3, d4⟩ := hcell
        subst ea3
        have hhas := pkgHas_calls (P x) (V x) a1 n1 s1 (.slice aK nK cK) (B x) (R x) (K x) q w7 hpk (HSK.out x hx).1 (HSK.out x hx).2
        generalize hasK ⟨((P x).data.toList, (V x).data.toList), R x, K x, B x⟩ q.data.toList = X at hhas hTk
        replace hhas := Lib.hid hhas
        clear hb hf1 hpk e1 e2
        go_wp2_with fail
        refine hhas.out.mono ?_
        rintro e w8 ⟨rfl, hb⟩
        replace hO2 := Lib.hid (hO2.out.below hb)
        replace hB2 := below_step hB2 hb
        replace y0 := Below.cell_some hb y0
        replace y1 := Below.cell_some hb y1
        clear hb hhas d0 d1 d2 d3 d4
        cases X with
        | true =>
          have HN : Hid (mdTs (L ++ [(pb, lb)]) = (((lstF m5 L5).take (k + 1)).map fun s => ((s, latestL l s) : Md)).filter (selHas l q.data.toList)) := Lib.hid (by rw [hTk, mdTs_snocP]; rfl)
          clear hTk hT
          go_wp2_with (at_builtin; refine wpList_append_own _ rfl _ _ 23 rfl w4.heap.size 29 i0 (.agg #[.string ⟨#[]⟩, .string ⟨#[]⟩]) 2 32 Tryz.underlying23 hi hz0 hz1 hz2 rfl (by decide) _ _ _ rfl (hO2.out.alloc _) ⟨w8.heap.size, 0, none⟩ 1 1 [.string pb, .string lb] rfl rfl (cell_two_new _ _ _ _) (by intro u hu; simp at hu; rcases hu with rfl | rfl <;> rfl) (by unfold maxLen; omega) (by omega) (by have := hB2.size; simp; omega) ?_; intro o' w9 hown4 hgrow4 _)
          go_roundw
          case rel =>
            refine ⟨k + 1, L ++ [(pb, lb)], by omega, by go_num, Lib.hid ?_, by simp; omega, HN, ?_⟩
            · rw [List.length_append, List.length_singleton, ← mdVs_snoc]
              exact hown4
            · exact (hB2.alloc hB2.size _).grown hgrow4 (by have := hB2.size; simp; omega) (fun q hq => (hO2.out.lt q hq).1)
          case measure => simp [intOf]; omega
        | false =>
          have HN : Hid (mdTs L = (((lstF m5 L5).take (k + 1)).map fun s => ((s, latestL l s) : Md)).filter (selHas l q.data.toList)) := Lib.hid (by rw [hTk]; simp)
          clear hTk hT
          go_wp2_with fail
          go_roundw
          case rel => exact ⟨k + 1, L, by omega, by go_num, hO2, by omega, HN, hB2⟩
          case measure => simp [intOf]; omega
      · obtain rfl : k = m5 := by omega
        have hmd : mdTs L = whoL l q.data.toList := by
          rw [hT.out, List.take_of_length_le (by rw [lstF_length]; exact Nat.le_refl _), ← HEL.out]
          rfl
        have hkn : ¬ (k : Int) < (k : Int) := by omega
        have hl5 : L.length ≤ 5 := by
          have := whoL_len (p := q.data.toList) HR.out
          rwa [← hmd, mdTs_length] at this
        have hso := sortStable_calls w4 wr w4.heap.size _ L hBr (Nat.le_refl _) hO.out (by omega)
        have HST : Hid (stableL L = (whoL l q.data.toList).reverse) := Lib.hid (by
          obtain ⟨_, h1, h2⟩ := stable_perm L
          rw [hmd] at h1
          exact sorted_down HR.out h1 (h2.imp fun h => by unfold lenDown; omega))
        replace hso := Lib.hid hso
        clear hmd hT hO hlt
        go_wp2_with fail
        refine hso.out.mono ?_
        rintro e w7 ⟨rfl, hma, hb7⟩
        rw [HST.out] at hma
        have hB7 := hB.trans (hb7.mono hB.size)
        replace hma := Lib.hid hma
        go_wp2_with fail
        go_ret2
        rw [HF1.out]
        exact ⟨⟨_, _, rfl, hma.out, HFA4.out.below hb7⟩, hB7⟩
  · have HF1 : Hid (whoK l q.data.toList = []) := Lib.hid (by rw [HOM.out, if_neg h0])
    have HFA := Lib.hid hf
    clear hf h0
    go_wp2_with fail
    go_ret2
    rw [HF1.out]
    exact ⟨⟨_, _, rfl, ModsAt.nil _, HFA.out⟩, hB⟩
end Go.Proofs.Pw
