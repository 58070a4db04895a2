/- Pf: walks and plain laws, joined: Fresh SlDelK. Conditions: at each theorem. -/
import Derived.Test.YtkfnhchlfojomaaGreatDoorPfs
import Derived.Test.YtkfnhchlfojomaaGreatDoorPft
import Derived.Test.YtkfnhchlfojomaaGreatDoorPfq
import Derived.Deep.AppendLies
import Derived.Deep.RegionLaw

namespace Go.Proofs.Pw
open Go.RowKit Go.Sort
open Go.Lib hiding intOf
def FreshS (B : Nat) (w : World) (v : Value) (l : List Str) : Prop :=
  (v = .slice none 0 0 ∧ l = []) ∨ ∃ g c, v = .slice (some ⟨g, 0, none⟩) l.length c ∧ B ≤ g ∧ g < w.heap.size ∧ l.length ≤ c ∧ c ≤ 9223372036854775807 ∧ Holds encStr w g 0 l.toArray
theorem FreshS.strs {B : Nat} {w : World} {v : Value} {l : List Str} (h : FreshS B w v l) : StrsAt w v l := by
  rcases h with ⟨rfl, rfl⟩ | ⟨g, c, rfl, _, _, h1, h2, h3⟩
  · exact StrsAt.nil w
  · exact strsAt_holds h3 h1 h2
theorem FreshS.mono {B B' : Nat} {w : World} {v : Value} {l : List Str} (h : FreshS B w v l) (hb : B' ≤ B) : FreshS B' w v l := by
  rcases h with h | ⟨g, c, h0, h1, r⟩
  · exact .inl h
  · exact .inr ⟨g, c, h0, by omega, r⟩
theorem FreshS.below {B : Nat} {w w' : World} {v : Value} {l : List Str} (h : FreshS B w v l) (hb : Below w.heap.size w w') : FreshS B w' v l := by
  rcases h with h | ⟨g, c, h0, h1, h2, h3, h4, h5⟩
  · exact .inl h
  · exact .inr ⟨g, c, h0, h1, Nat.lt_of_lt_of_le h2 hb.size, h3, h4, fun j hj => ⟨Below.cell_some hb (h5 j hj).1, (hb.frozen (p := ⟨g, 0 + j, none⟩) h2).trans (h5 j hj).2⟩⟩
set_option maxHeartbeats 1000000 in
set_option maxRecDepth 100000 in
theorem verSortF_calls (ks : List Nat) (A : Nat → Addr) (v : Value) (l : List Str) (w : World) (hE : EnvP ks A w) (hS : StrsAt w v l) (hn : l.length ≤ 1000000) (hl : ∀ x ∈ l, x.length ≤ 1000000000) :
    Calls Tryz.prog 80 #[v] w fun e w' => (∃ v', e = .returned v' ∧ FreshS w.heap.size w' v' (vsort l)) ∧ Below w.heap.size w w' := by
  obtain ⟨a, n, cap, L, rfl, rfl, hnc, hcap, hc⟩ := hS
  rw [lstF_length] at hn
  have hcl := cloneS_calls a n cap L w (by omega) hc
  have hsn := AnyF.slices_SortFunc_none (P := Tryz.prog) (ρ := laysSortSR) { laysSortS with }
  have hce := Tryz.slices_Compact_string_empty
  have HL := Lib.hid hl
  replace hcl := Lib.hid hcl
  replace hsn := Lib.hid hsn
  replace hce := Lib.hid hce
  clear hc hl
  go_enter Tryz.func80, Tryz.ntmps80
  go_wp2_with fail
  refine hcl.out.mono ?_
  rintro e w1 ⟨h, hb1⟩
  rcases h with ⟨rfl, rfl⟩ | ⟨g, c, rfl, h1, h2, h3, h4, h5⟩
  · go_wp2_with fail
    refine (deleteFunc_nil _ 0 _).mono ?_
    rintro e w' ⟨rfl, rfl⟩
    go_wp2_with fail
    refine (hsn.out none 0 _ _).mono ?_
    rintro e w' ⟨rfl, rfl⟩
    go_wp2_with fail
    refine (hce.out none 0 _).mono ?_
    rintro e w' ⟨rfl, rfl⟩
    go_wp2_with fail
    go_ret
    exact ⟨⟨_, rfl, .inl ⟨rfl, rfl⟩⟩, hb1⟩
  · have hdz : (lstF n L).toArray.size = n := by rw [List.size_toArray, lstF_length]
    have hT : TestsB 141 #[] (fun s => !decide (verErr s = 0)) (lstF n L).toArray.toList w.heap.size w1 := by
      intro W hB s hs
      obtain ⟨j, hj, rfl⟩ := lstF_mem'.1 (by simpa using hs)
      have := verSort1_calls ks A (L j) W (hE.below (hb1.trans hB)) (by rw [size_eq]; exact HL.out _ (lstF_mem'.2 ⟨j, hj, rfl⟩))
      rw [← bytes_back (L j)] at this
      exact this
    have hD := deleteFunc_calls 141 #[] Tryz.enters_sort1 (fun s => !decide (verErr s = 0)) g 0 c w.heap.size (lstF n L).toArray w1 (by rw [hdz]; omega) (by rw [hdz]; exact h3) h1 h2 h5 hT
    rw [hdz] at hD
    have hfe : ((lstF n L).toArray.toList.filter fun x => !(!decide (verErr x = 0))) = (lstF n L).filter fun x => decide (verErr x = 0) := by
      congr 1; funext x; simp
    simp only [hfe] at hD
    obtain ⟨m, hm⟩ := map_sub (P := OkV) ((lstF n L).filter fun x => decide (verErr x = 0)) (fun x hx => ⟨by have := (List.mem_filter.1 hx).2; simpa using this, HL.out x (List.mem_filter.1 hx).1⟩)
    have hml : ((lstF n L).filter fun x => decide (verErr x = 0)).length = m.length := by rw [← hm, List.length_map]
    have hmn : m.length ≤ n := by
      have := List.length_filter_le (fun x => decide (verErr x = 0)) (lstF n L)
      rw [lstF_length, hml] at this
      exact this
    have hma : m.toArray.map (·.1) = ((lstF n L).filter fun x => decide (verErr x = 0)).toArray := by rw [← hm]; simp
    rw [hml, ← hma] at hD
    have hmem : ∀ x : RV, x ∈ m ↔ x.1 ∈ lstF n L := by
      intro x
      constructor
      · intro hx
        have : x.1 ∈ m.map (·.1) := List.mem_map.2 ⟨x, hx, rfl⟩
        rw [hm] at this
        exact (List.mem_filter.1 this).1
      · intro hx
        have : x.1 ∈ m.map (·.1) := by rw [hm]; exact List.mem_filter.2 ⟨hx, by simpa using x.2.1⟩
        obtain ⟨y, hy, e⟩ := List.mem_map.1 this
        have : y = x := Subtype.ext e
        rw [← this]; exact hy
    have HM := Lib.hid hmem
    replace hD := Lib.hid hD
    clear hT hfe hm hma hmem hcl
    go_wp2_with fail
    refine hD.out.mono ?_
    rintro e w2 ⟨rfl, hb2, h6⟩
    have hb02 := hb1.trans hb2
    have hso := sortV_calls ks A w w2 hE g c m.toArray hb02 h1 (Nat.lt_of_lt_of_le h2 hb2.size) (holds_rv.2 h6) (by simp; omega)
    rw [List.size_toArray] at hso
    replace hso := Lib.hid hso
    clear hD h6
    go_wp2_with fail
    refine hso.out.mono ?_
    rintro e w3 ⟨rfl, d', hd1, hd2, hd3, hd4, hd5, hb3⟩
    have hdm : (d'.map (·.1)).size = m.length := by rw [Array.size_map, hd1]
    have hH3 := holds_rv.1 hd4
    have hco := Tryz.slices_Compact_string_arr g 0 c (d'.map (·.1)) w3 hH3 (by rw [hdm]; omega) (by rw [hdm]; omega)
    have hv := vsort_of (l := lstF n L) (d := d') (fun x => by rw [hd2 x]; exact HM.out x) HL.out hd3
    rw [hv, hdm] at hco
    have hvl : (vsort (lstF n L)).length ≤ m.length := by
      rw [← hv, ← hdm]
      exact compactUpTo_length_le _
    replace hco := Lib.hid hco
    clear hso hv hd2 hd3 hd4 hsn hce
    go_wp2_with fail
    refine hco.out.mono ?_
    rintro e w4 ⟨rfl, q, rfl⟩
    go_wp2_with fail
    go_ret
    refine ⟨⟨_, rfl, .inr ⟨g, c, rfl, h1, by simp [putRow, mapBlock, Sort.ahead]; omega, by omega, h4, holds_take (m := List.replicate (m.length - (vsort (lstF n L)).length) []) ?_⟩⟩, below_putRow (below_drewN hb3 q) h1 0 _⟩
    have hH4 : Holds encStr (Sort.ahead w3 q) g 0 (d'.map (·.1)) := fun j hj => hH3 j hj
    exact holds_putRow encStr (Sort.ahead w3 q) g 0 _ _ hH4 (by simp [hd1]; omega)
set_option maxHeartbeats 4000000 in
set_option maxRecDepth 100000 in
theorem idxVersionsF_in (ks : List Nat) (A : Nat → Addr) (a : Option Addr) (n cap : Nat) (P V : Nat → ByteArray) (R : Nat → List Md) (K : Nat → List Str) (Bk : Nat → Bool) (Rv Kv : Nat → Value) (p : ByteArray) (w : World) (hE : EnvP ks A w) (h : EntsIn w a n cap P V R K Bk Rv Kv) (hs : ShortI (enF n P V R K Bk)) :
    Calls Tryz.prog 30 #[.slice a n cap, .string p] w fun e w' => (∃ v, e = .returned v ∧ FreshS w.heap.size w' v (vsort (versL (enF n P V R K Bk) p.data.toList))) ∧ Below w.heap.size w w' := by
  obtain ⟨i0, hi, hz0, hz1, hz2⟩ := info_parts Tryz.infoString
  have hn : n ≤ 1000000 := by have := hs.len; rwa [enF_length] at this
  have H := Lib.hid h
  have HE := Lib.hid hE
  have HSZ := Lib.hid (versL_size (p := p.data.toList) hs)
  clear h hs hE
  go_enter Tryz.func30, Tryz.ntmps30
  go_wp2_with fail
  go_loopw [5, 10] (fun o i wr => ∃ (k : Nat) (L : List ByteArray), k ≤ n ∧ i = .int .i64 k ∧ Hid (wr.ownsRow w.heap.size 9 1 o L.length (strVs L)) ∧ L.length ≤ k ∧ Hid (strTs L = versL ((enF n P V R K Bk).take k) p.data.toList) ∧ Below w.heap.size w wr) (fun _ i _ => n - (intOf i).toNat)
  case atStart => exact ⟨0, [], Nat.zero_le _, rfl, Lib.hid (World.ownsRow_nil _ _ _ _), Nat.le_refl _, Lib.hid rfl, Below.refl _ _⟩
  case round =>
    obtain ⟨k, L, hk, rfl, hO, hLk, hT, hBr⟩ := hrel
    obtain ⟨ao, no, co, rfl⟩ := own_form hO.out
    by_cases hlt : k < n
    · have hkn : (k : Int) < (n : Int) := by omega
      obtain ⟨b1, o1, ea, hcell⟩ := H.out.at_ k hlt
      obtain ⟨c0, c1, c2, c3, c4⟩ := hcell.below hBr
      obtain ⟨a1, n1, s1, a2, n2, s2, e1, e2⟩ := H.out.forms hlt
      rw [e1] at c2
      rw [e2] at c3
      subst ea
      have hba := below_alloc wr (.cells #[.string (P k), .string (V k), .slice a1 n1 s1, .slice a2 n2 s2, .bool (Bk k)] 37)
      have y0 : (wr.alloc (.cells #[.string (P k), .string (V k), .slice a1 n1 s1, .slice a2 n2 s2, .bool (Bk k)] 37)).cell? ⟨wr.heap.size, 0, none⟩ = some (.string (P k)) := by simp
      have y1 : (wr.alloc (.cells #[.string (P k), .string (V k), .slice a1 n1 s1, .slice a2 n2 s2, .bool (Bk k)] 37)).cell? ⟨wr.heap.size, 1, none⟩ = some (.string (V k)) := by simp
      have hO2 := hO.out.below hba
      have hB2 := below_step hBr hba
      obtain ⟨w2, hW⟩ : ∃ W, wr.alloc (.cells #[.string (P k), .string (V k), .slice a1 n1 s1, .slice a2 n2 s2, .bool (Bk k)] 37) = W := ⟨_, rfl⟩
      rw [hW] at y0 y1 hO2 hB2
      replace hO2 := Lib.hid hO2
      clear hba
      have hTk : versL ((enF n P V R K Bk).take (k + 1)) p.data.toList = versL ((enF n P V R K Bk).take k) p.data.toList ++ (if (P k).data.toList = p.data.toList then [(V k).data.toList] else []) := by
        rw [enF_take_succ hlt, versL_snoc]
      by_cases hpe : (P k).data.toList = p.data.toList
      · have hp0 := bytes_eq.1 hpe
        have hp1 : ((P k).toList == p.toList) = true := by rw [hp0]; simp
        have HN : Hid (strTs (L ++ [V k]) = versL ((enF n P V R K Bk).take (k + 1)) p.data.toList) := Lib.hid (by rw [hTk, if_pos hpe, strTs_snoc, hT.out])
        clear hcell e1 e2 hT hTk hpe hp0 hO
        go_wp2_with (at_builtin; refine wpList_append_own _ rfl _ _ 35 rfl w.heap.size 9 i0 (.string ⟨#[]⟩) 1 16 Tryz.underlying35 hi hz0 hz1 hz2 rfl (by decide) _ _ _ rfl (hO2.out.alloc _) ⟨w2.heap.size, 0, none⟩ 1 1 [.string (V k)] rfl rfl (cell_one_new _ _ _) (fun x hx => by simp at hx; subst hx; rfl) (by unfold maxLen; omega) (by omega) (by have := hB2.size; simp; omega) ?_; intro o' w4 hown4 hgrow4 _)
        go_roundw
        case rel =>
          refine ⟨k + 1, L ++ [V k], by omega, by go_num, Lib.hid ?_, by simp; omega, HN, ?_⟩
          · rw [List.length_append, List.length_singleton, ← strVs_snoc]; exact hown4
          · exact (hB2.alloc hB2.size _).grown hgrow4 (by have := hB2.size; simp; omega) (fun q hq => (hO2.out.lt q hq).1)
        case measure => simp [intOf]; omega
      · have hp1 : ((P k).toList == p.toList) = false := by rw [toList_data, toList_data]; exact beq_eq_false_iff_ne.2 hpe
        have HN : Hid (strTs L = versL ((enF n P V R K Bk).take (k + 1)) p.data.toList) := Lib.hid (by rw [hTk, if_neg hpe, List.append_nil, hT.out])
        clear hcell e1 e2 hT hTk hpe hO
        go_wp2_with fail
        go_roundw
        case rel => exact ⟨k + 1, L, by omega, by go_num, hO2, by omega, HN, hB2⟩
        case measure => simp [intOf]; omega
    · have hT2 : strTs L = versL (enF n P V R K Bk) p.data.toList := by rw [hT.out, show k = n by omega, enF_take_all]
      have hSo := strsAt_own hO.out
      rw [hT2] at hSo
      have hso := verSortF_calls ks A _ _ wr (HE.out.below hBr) hSo HSZ.out.1 (fun x hx => by have := HSZ.out.2 x hx; omega)
      have hnk : ¬ (k : Int) < (n : Int) := by omega
      replace hso := Lib.hid hso
      clear hT hT2 hSo hO hlt
      go_wp2_with fail
      refine hso.out.mono ?_
      rintro e w5 ⟨⟨v5, rfl, hv5⟩, hb⟩
      go_wp2_with fail
      go_ret
      exact ⟨⟨_, rfl, hv5.mono hBr.size⟩, below_step hBr hb⟩
end Go.Proofs.Pw

namespace Go.Proofs.Pw
open Go.RowKit Go.Sort
open Go.Lib hiding intOf
structure Kept (blk : Nat) (w W : World) : Prop where
  os : W.os = w.os
  tape : W.tape = w.tape
  output : W.output = w.output
  size : w.heap.size ≤ W.heap.size
  all : ∀ k, k < w.heap.size → k ≠ blk → W.heap[k]? = w.heap[k]?
theorem Kept.of (blk : Nat) {w W : World} (h : Below w.heap.size w W) : Kept blk w W := ⟨h.os, h.tape, h.output, h.size, fun k hk _ => h.block k hk⟩
theorem Kept.below {blk B : Nat} {w W : World} (h : Kept blk w W) (h1 : B ≤ blk) (h2 : B ≤ w.heap.size) : Below B w W := ⟨h.os, h.tape, h.output, h.size, fun k hk => h.all k (by omega) (by omega)⟩
theorem Kept.step {blk : Nat} {w W W' : World} (h : Kept blk w W) (g : Below W.heap.size W W') : Kept blk w W' :=
  ⟨g.os.trans h.os, g.tape.trans h.tape, g.output.trans h.output, Nat.le_trans h.size g.size, fun k hk hn => (g.block k (Nat.lt_of_lt_of_le hk h.size)).trans (h.all k hk hn)⟩
theorem Kept.trans {blk : Nat} {w W W' : World} (h : Kept blk w W) (g : Kept blk W W') : Kept blk w W' :=
  ⟨g.os.trans h.os, g.tape.trans h.tape, g.output.trans h.output, Nat.le_trans h.size g.size, fun k hk hn => (g.all k (Nat.lt_of_lt_of_le hk h.size) hn).trans (h.all k hk hn)⟩
theorem Kept.set {blk : Nat} {w W : World} (h : Kept blk w W) (j : Nat) (v : Value) : Kept blk w (W.setCell ⟨blk, j, none⟩ v) :=
  h.trans ⟨rfl, rfl, rfl, by simp [World.setCell], fun k _ hn => Below.heap_setCell _ _ _ _ hn⟩
theorem Kept.put {blk : Nat} {w W : World} (h : Kept blk w W) (off : Nat) (d : Array Str) : Kept blk w (putRow encStr W blk off d) :=
  h.trans ⟨rfl, rfl, rfl, by simp [putRow, mapBlock], fun k _ hn => by
    simp only [putRow, mapBlock, Array.getElem?_modify]
    rw [if_neg (fun e => hn e.symm)]⟩
theorem Kept.cell {blk : Nat} {w W : World} (h : Kept blk w W) {a : Addr} {v : Value} (hc : w.cell? a = some v) (hn : a.block ≠ blk) : W.cell? a = some v := by
  have h1 := h.all a.block (World.block_lt_of_cell? w a hc) hn
  rw [← hc]
  exact World.cell?_of_block h1
def TestsK (g : Nat) (lb : Array Value) (p : Str → Bool) (l : List Str) (blk : Nat) (w : World) : Prop :=
  ∀ W, Kept blk w W → ∀ s ∈ l, Calls Tryz.prog g (#[encStr s] ++ lb) W fun e w'' => e = .returned (.bool (p s)) ∧ Below W.heap.size W w''
set_option maxHeartbeats 400000 in
theorem indexFuncK_calls (g : Nat) (lb : Array Value) (eg : ∀ args w, (callFunc g args).run Tryz.prog w = .ok (.enter g args) w) (p : Str → Bool) (blk off cap : Nat) (d : Array Str) (w : World) (hn : d.size ≤ 4000000001)
    (_hblk : blk < w.heap.size) (hH : Holds encStr w blk off d) (hT : TestsK g lb p d.toList blk w) :
    Calls Tryz.prog 149 #[.slice (some ⟨blk, off, none⟩) d.size cap, .func (.func g) #[] lb] w fun e w' => e = .returned (.int .i64 (findI p d.toList)) ∧ Below w.heap.size w w' := by
  replace hH := Lib.hid hH
  replace hT := Lib.hid hT
  go_enter Tryz.func149, Tryz.ntmps149
  go_wp2_with fail
  go_loopw [8] (fun i wr => ∃ k : Nat, k ≤ d.size ∧ i = .int .i64 k ∧ Below w.heap.size w wr ∧ Hid (∀ j, j < k → p d[j]! = false)) (fun i _ => d.size - (intOf i).toNat)
  case atStart => exact ⟨0, by omega, rfl, Below.refl _ _, Lib.hid (fun j hj => absurd hj (Nat.not_lt_zero _))⟩
  case round =>
    obtain ⟨k, hk, rfl, hb, HA⟩ := hrel
    by_cases hlt : k < d.size
    · have hck := Below.cell_some hb (hH.out k hlt).1
      have hcall := hT.out wr (Kept.of _ hb) _ (mem_arr hlt).1
      have HF := Lib.hid (mem_arr hlt).2
      generalize hs : d[k]! = s at hck hcall HF
      have HS := Lib.hid hs
      clear hs
      cases hq : p s with
      | true =>
        rw [hq] at hcall
        have HR : Hid (findI p d.toList = k) := Lib.hid (findI_hit HF.out hq (fun j y hj hy => by
          have := (mem_arr (d := d) (j := j) (by omega)).2
          rw [hy] at this
          injection this with this
          rw [this]
          exact HA.out j hj))
        clear hq
        go_wp2_with (go_at_fn g; refine hcall.mono ?_; rintro e w' ⟨rfl, hb2⟩)
        go_ret
        rw [HR.out]
        exact ⟨rfl, below_step hb hb2⟩
      | false =>
        rw [hq] at hcall
        have HQ := Lib.hid hq
        clear hq
        go_wp2_with (go_at_fn g; refine hcall.mono ?_; rintro e w' ⟨rfl, hb2⟩)
        go_roundw
        case rel =>
          refine ⟨k + 1, by omega, by go_num, below_step hb hb2, Lib.hid (fun j hj => ?_)⟩
          by_cases e : j = k
          · subst e; rw [HS.out]; exact HQ.out
          · exact HA.out j (by omega)
        case measure => simp [intOf]; omega
    · obtain rfl : k = d.size := by omega
      have HR : Hid (findI p d.toList = -1) := Lib.hid (findI_none (fun j y hy => by
        have hj : j < d.size := by have := (List.getElem?_eq_some_iff.1 hy).1; simpa using this
        have := (mem_arr (d := d) hj).2
        rw [hy] at this
        injection this with this
        rw [this]
        exact HA.out j hj))
      go_wp2_with fail
      go_ret
      rw [HR.out]
      exact ⟨rfl, hb⟩
set_option maxHeartbeats 2000000 in
set_option maxRecDepth 100000 in
theorem deleteFuncK_calls (g : Nat) (lb : Array Value) (eg : ∀ args w, (callFunc g args).run Tryz.prog w = .ok (.enter g args) w) (p : Str → Bool) (blk off cap : Nat) (d : Array Str) (w : World) (hn : d.size ≤ 4000000001) (hcap : d.size ≤ cap)
    (hblk : blk < w.heap.size) (hH : Holds encStr w blk off d) (hT : TestsK g lb p d.toList blk w) :
    Calls Tryz.prog 86 #[.slice (some ⟨blk, off, none⟩) d.size cap, .func (.func g) #[] lb] w fun e w' =>
      e = .returned (.slice (some ⟨blk, off, none⟩) (d.toList.filter fun x => !p x).length cap) ∧ Kept blk w w' ∧ Holds encStr w' blk off (d.toList.filter fun x => !p x).toArray := by
  have hIF := indexFuncK_calls g lb eg p blk off cap d w hn hblk hH hT
  have hfil : (d.toList.filter fun x => !p x) = keptUpTo (fun j => !p d[j]!) d d.size := (keptUpTo_filter (fun x => !p x) d).symm
  obtain ⟨kp, HK⟩ : ∃ kp : Nat → Bool, Hid (kp = fun j => !p d[j]!) := ⟨_, Lib.hid rfl⟩
  rw [hfil, ← HK.out]
  clear hfil
  rcases findI_cases p d with ⟨e1, hall⟩ | ⟨k0, hk0, e1, ht, hall⟩
  · rw [e1] at hIF
    have e3 : keptUpTo kp d d.size = d.toList := by
      rw [keptUpTo_all kp d _ (fun j hj => by rw [HK.out]; show (!p d[j]!) = true; rw [hall j hj]; rfl)]
      apply List.ext_getElem?
      intro i
      by_cases hi : i < d.size
      · rw [(mem_arr hi).2]; simp [hi]
      · rw [List.getElem?_eq_none (by simp; omega), List.getElem?_eq_none (by simp; omega)]
    have E3 := Lib.hid e3
    replace hH := Lib.hid hH
    replace hT := Lib.hid hT
    clear hall e1 e3
    go_enter Tryz.func86, Tryz.ntmps86
    go_wp2_with fail
    refine hIF.mono ?_
    rintro e w1 ⟨rfl, hb1⟩
    go_wp2_with fail
    go_ret
    rw [E3.out]
    exact ⟨by simp, Kept.of _ hb1, by simpa using holds_below hH.out hb1 hblk⟩
  · rw [e1] at hIF
    have hI0 : KeptInv kp d (k0 + 1) k0 d := KeptInv.start (fun j hj => by rw [HK.out]; show (!p d[j]!) = true; rw [hall j hj]; rfl) (by rw [HK.out]; show (!p d[k0]!) = false; rw [ht]; rfl)
    have hne1 : ((k0 : Int) == -1) = false := beq_eq_false_iff_ne.2 (by omega)
    have zr := Tryz.zeroValue9
    replace hH := Lib.hid hH
    replace hT := Lib.hid hT
    replace hI0 := Lib.hid hI0
    clear hall e1 ht
    go_enter Tryz.func86, Tryz.ntmps86
    go_wp2_with fail
    refine hIF.mono ?_
    rintro e w1 ⟨rfl, hb1⟩
    go_wp2_with fail
    go_loopg [5, 6, 7] d.size (fun gg s5 s6 _ wr => ∃ (i j : Nat) (dk : Array Str), s5 = .int .i64 i ∧ s6 = .int .i64 j ∧ j ≤ d.size ∧ d.size - j ≤ gg ∧ Kept blk w wr ∧ Hid (Holds encStr wr blk off dk) ∧ Hid (KeptInv kp d j i dk))
    case atStart => exact ⟨k0, k0 + 1, d, rfl, by go_num, by omega, by omega, Kept.of _ hb1, Lib.hid (holds_below hH.out hb1 hblk), hI0⟩
    case round =>
      obtain ⟨i, j, dk, rfl, rfl, hjd, hgg, hB, hHk, hI⟩ := hrel
      have hij := hI.out.lt
      have hds := hI.out.size
      have hblkr : blk < wr.heap.size := Nat.lt_of_lt_of_le hblk hB.size
      by_cases hlt : j < d.size
      · have hltz : (j : Int) < (d.size : Int) := by omega
        obtain ⟨cj, _⟩ := hHk.out j (by omega)
        rw [hI.out.high j (by omega)] at cj
        have hcall := hT.out wr hB _ (mem_arr hlt).1
        have hfut : Hid (∀ w', Below wr.heap.size wr w' → w'.cell? ⟨blk, off + i, none⟩ = some (encStr dk[i]!) ∧ w'.frozen? ⟨blk, off + i, none⟩ = false) := Lib.hid (fun w' hb => (holds_below hHk.out hb hblkr) i (by omega))
        generalize hu : d[j]! = u at cj hcall
        have HU := Lib.hid hu
        generalize dk[i]! = old at hfut
        clear hu
        cases hq : p u with
        | false =>
          rw [hq] at hcall
          have HQ := Lib.hid hq
          have HDS := Lib.hid hds
          clear hq hds
          go_wp2_with (go_at_fn g; refine hcall.mono ?_; rintro e w' ⟨rfl, hb2⟩; obtain ⟨ci, fi⟩ := hfut.out w' hb2)
          go_roundg (d.size - (j + 1))
          case measure => omega
          case rel =>
            refine ⟨i + 1, j + 1, dk.setIfInBounds i u, by go_num, by go_num, by omega, Nat.le_refl _, ?_, Lib.hid ?_, Lib.hid ?_⟩
            · exact (hB.step hb2).set _ _
            · exact holds_setCell (holds_below hHk.out hb2 hblkr) (by have := HDS.out; omega) u
            · have := hI.out.keep hlt (by rw [HK.out]; show (!p d[j]!) = true; rw [HU.out, HQ.out]; rfl)
              rwa [HU.out] at this
        | true =>
          rw [hq] at hcall
          have HQ := Lib.hid hq
          clear hq hds hfut
          go_wp2_with (go_at_fn g; refine hcall.mono ?_; rintro e w' ⟨rfl, hb2⟩)
          go_roundg (d.size - (j + 1))
          case measure => omega
          case rel => exact ⟨i, j + 1, dk, rfl, by go_num, by omega, Nat.le_refl _, hB.step hb2, Lib.hid (holds_below hHk.out hb2 hblkr), Lib.hid (hI.out.skip (by rw [HK.out]; show (!p d[j]!) = false; rw [HU.out, HQ.out]; rfl))⟩
      · obtain rfl : j = d.size := by omega
        have hltz : ¬ (d.size : Int) < (d.size : Int) := by omega
        have hcl : ∀ ty, (Builtin.clear_ #[35] ty #[.slice (some ⟨blk, off + i, none⟩) (d.size - i) (cap - i)]).run Tryz.prog wr = .ok (.tuple #[]) (wr.setCells blk (off + i) (List.replicate (d.size - i) (encStr []))) :=
          fun ty => Lib.run_clear_slice wr _ _ ty _ Tryz.underlying35 zr rfl rfl blk (off + i) _ _ (by omega) (fun t ht => by rw [show off + i + t = off + (i + t) by omega, (hHk.out (i + t) (by omega)).1]; rfl) (fun t ht => by rw [show off + i + t = off + (i + t) by omega]; exact (hHk.out (i + t) (by omega)).2)
        have HDS := Lib.hid hds
        clear hds
        go_wp2_with fail
        go_ret
        have hI := hI.out
        have hrow : wr.setCells blk (off + i) (List.replicate (d.size - i) (encStr [])) = putRow encStr wr blk off (keptUpTo kp d d.size ++ List.replicate (d.size - i) []).toArray := by
          rw [← hI.done [], ← putRow_setCells encStr wr blk off _ dk i (by simp; have := HDS.out; omega), putRow_self encStr wr blk off dk hHk.out, List.map_replicate]
        refine ⟨by rw [hI.len]; rfl, ?_, ?_⟩
        · show Kept blk w (wr.setCells blk (off + i) (List.replicate (d.size - i) (encStr [])))
          rw [hrow]
          exact hB.put _ _
        · show Holds encStr (wr.setCells blk (off + i) (List.replicate (d.size - i) (encStr []))) blk off _
          rw [hrow]
          apply holds_take (m := List.replicate (d.size - i) [])
          exact holds_putRow encStr wr blk off dk _ hHk.out (by simp [hI.len]; have := HDS.out; omega)
end Go.Proofs.Pw
