/- Ge: walks and plain laws, joined: Fresh SlDelK Query3 Picked GotMath. Conditions: at each theorem. -/
import Derived.Test.YtmnojbbcaboagaaGreatDoorGem
import Derived.Test.YtmnojbbcaboagaaGreatDoorGeu
import Derived.Test.YtmnojbbcaboagaaGreatDoorGej
import Derived.Deep.AppendLies
import Derived.Deep.RegionLaw
import Derived.Test.YtmnojbbcaboagaaGreatDoorGet
import Derived.Test.YtmnojbbcaboagaaGreatDoorGep
import Derived.Deep.RegionHeld2
import Derived.Test.YtmnojbbcaboagaaGreatDoorGezc

namespace Go.Proofs.Pw
open Go.RowKit Go.Sort
open Go.Lib hiding intOf
def FreshS (B : Nat) (w : World) (v : Value) (l : List Str) : Prop :=
  (v = .slice none 0 0 ∧ l = []) ∨ ∃ g c, v = .slice (some ⟨g, 0, none⟩) l.length c ∧ B ≤ g ∧ g < w.heap.size ∧ l.length ≤ c ∧ c ≤ 9223372036854775807 ∧ Holds encStr w g 0 l.toArray
theorem FreshS.strs {B : Nat} {w : World} {v : Value} {l : List Str} (h : FreshS B w v l) : StrsAt w v l := by
  rcases h with ⟨rfl, rfl⟩ | ⟨g, c, rfl, _, _, h1, h2, h3⟩
  · exact StrsAt.nil w
  · exact strsAt_holds h3 h1 h2
theorem FreshS.mono {B B' : Nat} {w : World} {v : Value} {l : List Str} (h : FreshS B w v l) (hb : B' ≤ B) : FreshS B' w v l := by
  rcases h with h | ⟨g, c, h0, h1, r⟩
  · exact .inl h
  · exact .inr ⟨g, c, h0, by omega, r⟩
theorem FreshS.below {B : Nat} {w w' : World} {v : Value} {l : List Str} (h : FreshS B w v l) (hb : Below w.heap.size w w') : FreshS B w' v l := by
  rcases h with h | ⟨g, c, h0, h1, h2, h3, h4, h5⟩
  · exact .inl h
  · exact .inr ⟨g, c, h0, h1, Nat.lt_of_lt_of_le h2 hb.size, h3, h4, fun j hj => ⟨Below.cell_some hb (h5 j hj).1, (hb.frozen (p := ⟨g, 0 + j, none⟩) h2).trans (h5 j hj).2⟩⟩
set_option maxHeartbeats 1000000 in
set_option maxRecDepth 100000 in
theorem verSortF_calls (ks : List Nat) (A : Nat → Addr) (v : Value) (l : List Str) (w : World) (hE : EnvP ks A w) (hS : StrsAt w v l) (hn : l.length ≤ 1000000) (hl : ∀ x ∈ l, x.length ≤ 1000000000) :
    Calls Tryz.prog 201 #[v] w fun e w' => (∃ v', e = .returned v' ∧ FreshS w.heap.size w' v' (vsort l)) ∧ Below w.heap.size w w' := by
  obtain ⟨a, n, cap, L, rfl, rfl, hnc, hcap, hc⟩ := hS
  rw [lstF_length] at hn
  have hcl := cloneS_calls a n cap L w (by omega) hc
  have hsn := AnyF.slices_SortFunc_none (P := Tryz.prog) (ρ := laysSortSR) { laysSortS with }
  have hce := Tryz.slices_Compact_string_empty
  have HL := Lib.hid hl
  replace hcl := Lib.hid hcl
  replace hsn := Lib.hid hsn
  replace hce := Lib.hid hce
  clear hc hl
  go_enter Tryz.func201, Tryz.ntmps201
  go_wp2_with fail
  refine hcl.out.mono ?_
  rintro e w1 ⟨h, hb1⟩
  rcases h with ⟨rfl, rfl⟩ | ⟨g, c, rfl, h1, h2, h3, h4, h5⟩
  · go_wp2_with fail
    refine (deleteFunc_nil _ 0 _).mono ?_
    rintro e w' ⟨rfl, rfl⟩
    go_wp2_with fail
    refine (hsn.out none 0 _ _).mono ?_
    rintro e w' ⟨rfl, rfl⟩
    go_wp2_with fail
    refine (hce.out none 0 _).mono ?_
    rintro e w' ⟨rfl, rfl⟩
    go_wp2_with fail
    go_ret
    exact ⟨⟨_, rfl, .inl ⟨rfl, rfl⟩⟩, hb1⟩
  · have hdz : (lstF n L).toArray.size = n := by rw [List.size_toArray, lstF_length]
    have hT : TestsB 252 #[] (fun s => !decide (verErr s = 0)) (lstF n L).toArray.toList w.heap.size w1 := by
      intro W hB s hs
      obtain ⟨j, hj, rfl⟩ := lstF_mem'.1 (by simpa using hs)
      have := verSort1_calls ks A (L j) W (hE.below (hb1.trans hB)) (by rw [size_eq]; exact HL.out _ (lstF_mem'.2 ⟨j, hj, rfl⟩))
      rw [← bytes_back (L j)] at this
      exact this
    have hD := deleteFunc_calls 252 #[] Tryz.enters_sort1 (fun s => !decide (verErr s = 0)) g 0 c w.heap.size (lstF n L).toArray w1 (by rw [hdz]; omega) (by rw [hdz]; exact h3) h1 h2 h5 hT
    rw [hdz] at hD
    have hfe : ((lstF n L).toArray.toList.filter fun x => !(!decide (verErr x = 0))) = (lstF n L).filter fun x => decide (verErr x = 0) := by
      congr 1; funext x; simp
    simp only [hfe] at hD
    obtain ⟨m, hm⟩ := map_sub (P := OkV) ((lstF n L).filter fun x => decide (verErr x = 0)) (fun x hx => ⟨by have := (List.mem_filter.1 hx).2; simpa using this, HL.out x (List.mem_filter.1 hx).1⟩)
    have hml : ((lstF n L).filter fun x => decide (verErr x = 0)).length = m.length := by rw [← hm, List.length_map]
    have hmn : m.length ≤ n := by
      have := List.length_filter_le (fun x => decide (verErr x = 0)) (lstF n L)
      rw [lstF_length, hml] at this
      exact this
    have hma : m.toArray.map (·.1) = ((lstF n L).filter fun x => decide (verErr x = 0)).toArray := by rw [← hm]; simp
    rw [hml, ← hma] at hD
    have hmem : ∀ x : RV, x ∈ m ↔ x.1 ∈ lstF n L := by
      intro x
      constructor
      · intro hx
        have : x.1 ∈ m.map (·.1) := List.mem_map.2 ⟨x, hx, rfl⟩
        rw [hm] at this
        exact (List.mem_filter.1 this).1
      · intro hx
        have : x.1 ∈ m.map (·.1) := by rw [hm]; exact List.mem_filter.2 ⟨hx, by simpa using x.2.1⟩
        obtain ⟨y, hy, e⟩ := List.mem_map.1 this
        have : y = x := Subtype.ext e
        rw [← this]; exact hy
    have HM := Lib.hid hmem
    replace hD := Lib.hid hD
    clear hT hfe hm hma hmem hcl
    go_wp2_with fail
    refine hD.out.mono ?_
    rintro e w2 ⟨rfl, hb2, h6⟩
    have hb02 := hb1.trans hb2
    have hso := sortV_calls ks A w w2 hE g c m.toArray hb02 h1 (Nat.lt_of_lt_of_le h2 hb2.size) (holds_rv.2 h6) (by simp; omega)
    rw [List.size_toArray] at hso
    replace hso := Lib.hid hso
    clear hD h6
    go_wp2_with fail
    refine hso.out.mono ?_
    rintro e w3 ⟨rfl, d', hd1, hd2, hd3, hd4, hd5, hb3⟩
    have hdm : (d'.map (·.1)).size = m.length := by rw [Array.size_map, hd1]
    have hH3 := holds_rv.1 hd4
    have hco := Tryz.slices_Compact_string_arr g 0 c (d'.map (·.1)) w3 hH3 (by rw [hdm]; omega) (by rw [hdm]; omega)
    have hv := vsort_of (l := lstF n L) (d := d') (fun x => by rw [hd2 x]; exact HM.out x) HL.out hd3
    rw [hv, hdm] at hco
    have hvl : (vsort (lstF n L)).length ≤ m.length := by
      rw [← hv, ← hdm]
      exact compactUpTo_length_le _
    replace hco := Lib.hid hco
    clear hso hv hd2 hd3 hd4 hsn hce
    go_wp2_with fail
    refine hco.out.mono ?_
    rintro e w4 ⟨rfl, q, rfl⟩
    go_wp2_with fail
    go_ret
    refine ⟨⟨_, rfl, .inr ⟨g, c, rfl, h1, by simp [putRow, mapBlock, Sort.ahead]; omega, by omega, h4, holds_take (m := List.replicate (m.length - (vsort (lstF n L)).length) []) ?_⟩⟩, below_putRow (below_drewN hb3 q) h1 0 _⟩
    have hH4 : Holds encStr (Sort.ahead w3 q) g 0 (d'.map (·.1)) := fun j hj => hH3 j hj
    exact holds_putRow encStr (Sort.ahead w3 q) g 0 _ _ hH4 (by simp [hd1]; omega)
set_option maxHeartbeats 4000000 in
set_option maxRecDepth 100000 in
theorem idxVersionsF_in (ks : List Nat) (A : Nat → Addr) (a : Option Addr) (n cap : Nat) (P V : Nat → ByteArray) (R : Nat → List Md) (K : Nat → List Str) (Bk : Nat → Bool) (Rv Kv : Nat → Value) (p : ByteArray) (w : World) (hE : EnvP ks A w) (h : EntsIn w a n cap P V R K Bk Rv Kv) (hs : ShortI (enF n P V R K Bk)) :
    Calls Tryz.prog 134 #[.slice a n cap, .string p] w fun e w' => (∃ v, e = .returned v ∧ FreshS w.heap.size w' v (vsort (versL (enF n P V R K Bk) p.data.toList))) ∧ Below w.heap.size w w' := by
  obtain ⟨i0, hi, hz0, hz1, hz2⟩ := info_parts Tryz.infoString
  have hn : n ≤ 1000000 := by have := hs.len; rwa [enF_length] at this
  have H := Lib.hid h
  have HE := Lib.hid hE
  have HSZ := Lib.hid (versL_size (p := p.data.toList) hs)
  clear h hs hE
  go_enter Tryz.func134, Tryz.ntmps134
  go_wp2_with fail
  go_loopw [5, 10] (fun o i wr => ∃ (k : Nat) (L : List ByteArray), k ≤ n ∧ i = .int .i64 k ∧ Hid (wr.ownsRow w.heap.size 9 1 o L.length (strVs L)) ∧ L.length ≤ k ∧ Hid (strTs L = versL ((enF n P V R K Bk).take k) p.data.toList) ∧ Below w.heap.size w wr) (fun _ i _ => n - (intOf i).toNat)
  case atStart => exact ⟨0, [], Nat.zero_le _, rfl, Lib.hid (World.ownsRow_nil _ _ _ _), Nat.le_refl _, Lib.hid rfl, Below.refl _ _⟩
  case round =>
    obtain ⟨k, L, hk, rfl, hO, hLk, hT, hBr⟩ := hrel
    obtain ⟨ao, no, co, rfl⟩ := own_form hO.out
    by_cases hlt : k < n
    · have hkn : (k : Int) < (n : Int) := by omega
      obtain ⟨b1, o1, ea, hcell⟩ := H.out.at_ k hlt
      obtain ⟨c0, c1, c2, c3, c4⟩ := hcell.below hBr
      obtain ⟨a1, n1, s1, a2, n2, s2, e1, e2⟩ := H.out.forms hlt
      rw [e1] at c2
      rw [e2] at c3
      subst ea
      have hba := below_alloc wr (.cells #[.string (P k), .string (V k), .slice a1 n1 s1, .slice a2 n2 s2, .bool (Bk k)] 62)
      have y0 : (wr.alloc (.cells #[.string (P k), .string (V k), .slice a1 n1 s1, .slice a2 n2 s2, .bool (Bk k)] 62)).cell? ⟨wr.heap.size, 0, none⟩ = some (.string (P k)) := by simp
      have y1 : (wr.alloc (.cells #[.string (P k), .string (V k), .slice a1 n1 s1, .slice a2 n2 s2, .bool (Bk k)] 62)).cell? ⟨wr.heap.size, 1, none⟩ = some (.string (V k)) := by simp
      have hO2 := hO.out.below hba
      have hB2 := below_step hBr hba
      obtain ⟨w2, hW⟩ : ∃ W, wr.alloc (.cells #[.string (P k), .string (V k), .slice a1 n1 s1, .slice a2 n2 s2, .bool (Bk k)] 62) = W := ⟨_, rfl⟩
      rw [hW] at y0 y1 hO2 hB2
      replace hO2 := Lib.hid hO2
      clear hba
      have hTk : versL ((enF n P V R K Bk).take (k + 1)) p.data.toList = versL ((enF n P V R K Bk).take k) p.data.toList ++ (if (P k).data.toList = p.data.toList then [(V k).data.toList] else []) := by
        rw [enF_take_succ hlt, versL_snoc]
      by_cases hpe : (P k).data.toList = p.data.toList
      · have hp0 := bytes_eq.1 hpe
        have hp1 : ((P k).toList == p.toList) = true := by rw [hp0]; simp
        have HN : Hid (strTs (L ++ [V k]) = versL ((enF n P V R K Bk).take (k + 1)) p.data.toList) := Lib.hid (by rw [hTk, if_pos hpe, strTs_snoc, hT.out])
        clear hcell e1 e2 hT hTk hpe hp0 hO
        go_wp2_with (at_builtin; refine wpList_append_own _ rfl _ _ 26 rfl w.heap.size 9 i0 (.string ⟨#[]⟩) 1 16 Tryz.underlying26 hi hz0 hz1 hz2 rfl (by decide) _ _ _ rfl (hO2.out.alloc _) ⟨w2.heap.size, 0, none⟩ 1 1 [.string (V k)] rfl rfl (cell_one_new _ _ _) (fun x hx => by simp at hx; subst hx; rfl) (by unfold maxLen; omega) (by omega) (by have := hB2.size; simp; omega) ?_; intro o' w4 hown4 hgrow4 _)
        go_roundw
        case rel =>
          refine ⟨k + 1, L ++ [V k], by omega, by go_num, Lib.hid ?_, by simp; omega, HN, ?_⟩
          · rw [List.length_append, List.length_singleton, ← strVs_snoc]; exact hown4
          · exact (hB2.alloc hB2.size _).grown hgrow4 (by have := hB2.size; simp; omega) (fun q hq => (hO2.out.lt q hq).1)
        case measure => simp [intOf]; omega
      · have hp1 : ((P k).toList == p.toList) = false := by rw [toList_data, toList_data]; exact beq_eq_false_iff_ne.2 hpe
        have HN : Hid (strTs L = versL ((enF n P V R K Bk).take (k + 1)) p.data.toList) := Lib.hid (by rw [hTk, if_neg hpe, List.append_nil, hT.out])
        clear hcell e1 e2 hT hTk hpe hO
        go_wp2_with fail
        go_roundw
        case rel => exact ⟨k + 1, L, by omega, by go_num, hO2, by omega, HN, hB2⟩
        case measure => simp [intOf]; omega
    · have hT2 : strTs L = versL (enF n P V R K Bk) p.data.toList := by rw [hT.out, show k = n by omega, enF_take_all]
      have hSo := strsAt_own hO.out
      rw [hT2] at hSo
      have hso := verSortF_calls ks A _ _ wr (HE.out.below hBr) hSo HSZ.out.1 (fun x hx => by have := HSZ.out.2 x hx; omega)
      have hnk : ¬ (k : Int) < (n : Int) := by omega
      replace hso := Lib.hid hso
      clear hT hT2 hSo hO hlt
      go_wp2_with fail
      refine hso.out.mono ?_
      rintro e w5 ⟨⟨v5, rfl, hv5⟩, hb⟩
      go_wp2_with fail
      go_ret
      exact ⟨⟨_, rfl, hv5.mono hBr.size⟩, below_step hBr hb⟩
end Go.Proofs.Pw

namespace Go.Proofs.Pw
open Go.RowKit Go.Sort
open Go.Lib hiding intOf
structure Kept (blk : Nat) (w W : World) : Prop where
  os : W.os = w.os
  tape : W.tape = w.tape
  output : W.output = w.output
  size : w.heap.size ≤ W.heap.size
  all : ∀ k, k < w.heap.size → k ≠ blk → W.heap[k]? = w.heap[k]?
theorem Kept.of (blk : Nat) {w W : World} (h : Below w.heap.size w W) : Kept blk w W := ⟨h.os, h.tape, h.output, h.size, fun k hk _ => h.block k hk⟩
theorem Kept.below {blk B : Nat} {w W : World} (h : Kept blk w W) (h1 : B ≤ blk) (h2 : B ≤ w.heap.size) : Below B w W := ⟨h.os, h.tape, h.output, h.size, fun k hk => h.all k (by omega) (by omega)⟩
theorem Kept.step {blk : Nat} {w W W' : World} (h : Kept blk w W) (g : Below W.heap.size W W') : Kept blk w W' :=
  ⟨g.os.trans h.os, g.tape.trans h.tape, g.output.trans h.output, Nat.le_trans h.size g.size, fun k hk hn => (g.block k (Nat.lt_of_lt_of_le hk h.size)).trans (h.all k hk hn)⟩
theorem Kept.trans {blk : Nat} {w W W' : World} (h : Kept blk w W) (g : Kept blk W W') : Kept blk w W' :=
  ⟨g.os.trans h.os, g.tape.trans h.tape, g.output.trans h.output, Nat.le_trans h.size g.size, fun k hk hn => (g.all k (Nat.lt_of_lt_of_le hk h.size) hn).trans (h.all k hk hn)⟩
theorem Kept.set {blk : Nat} {w W : World} (h : Kept blk w W) (j : Nat) (v : Value) : Kept blk w (W.setCell ⟨blk, j, none⟩ v) :=
  h.trans ⟨rfl, rfl, rfl, by simp [World.setCell], fun k _ hn => Below.heap_setCell _ _ _ _ hn⟩
theorem Kept.put {blk : Nat} {w W : World} (h : Kept blk w W) (off : Nat) (d : Array Str) : Kept blk w (putRow encStr W blk off d) :=
  h.trans ⟨rfl, rfl, rfl, by simp [putRow, mapBlock], fun k _ hn => by
    simp only [putRow, mapBlock, Array.getElem?_modify]
    rw [if_neg (fun e => hn e.symm)]⟩
theorem Kept.cell {blk : Nat} {w W : World} (h : Kept blk w W) {a : Addr} {v : Value} (hc : w.cell? a = some v) (hn : a.block ≠ blk) : W.cell? a = some v := by
  have h1 := h.all a.block (World.block_lt_of_cell? w a hc) hn
  rw [← hc]
  exact World.cell?_of_block h1
def TestsK (g : Nat) (lb : Array Value) (p : Str → Bool) (l : List Str) (blk : Nat) (w : World) : Prop :=
  ∀ W, Kept blk w W → ∀ s ∈ l, Calls Tryz.prog g (#[encStr s] ++ lb) W fun e w'' => e = .returned (.bool (p s)) ∧ Below W.heap.size W w''
set_option maxHeartbeats 400000 in
theorem indexFuncK_calls (g : Nat) (lb : Array Value) (eg : ∀ args w, (callFunc g args).run Tryz.prog w = .ok (.enter g args) w) (p : Str → Bool) (blk off cap : Nat) (d : Array Str) (w : World) (hn : d.size ≤ 4000000001)
    (_hblk : blk < w.heap.size) (hH : Holds encStr w blk off d) (hT : TestsK g lb p d.toList blk w) :
    Calls Tryz.prog 149 #[.slice (some ⟨blk, off, none⟩) d.size cap, .func (.func g) #[] lb] w fun e w' => e = .returned (.int .i64 (findI p d.toList)) ∧ Below w.heap.size w w' := by
  replace hH := Lib.hid hH
  replace hT := Lib.hid hT
  go_enter Tryz.func149, Tryz.ntmps149
  go_wp2_with fail
  go_loopw [8] (fun i wr => ∃ k : Nat, k ≤ d.size ∧ i = .int .i64 k ∧ Below w.heap.size w wr ∧ Hid (∀ j, j < k → p d[j]! = false)) (fun i _ => d.size - (intOf i).toNat)
  case atStart => exact ⟨0, by omega, rfl, Below.refl _ _, Lib.hid (fun j hj => absurd hj (Nat.not_lt_zero _))⟩
  case round =>
    obtain ⟨k, hk, rfl, hb, HA⟩ := hrel
    by_cases hlt : k < d.size
    · have hck := Below.cell_some hb (hH.out k hlt).1
      have hcall := hT.out wr (Kept.of _ hb) _ (mem_arr hlt).1
      have HF := Lib.hid (mem_arr hlt).2
      generalize hs : d[k]! = s at hck hcall HF
      have HS := Lib.hid hs
      clear hs
      cases hq : p s with
      | true =>
        rw [hq] at hcall
        have HR : Hid (findI p d.toList = k) := Lib.hid (findI_hit HF.out hq (fun j y hj hy => by
          have := (mem_arr (d := d) (j := j) (by omega)).2
          rw [hy] at this
          injection this with this
          rw [this]
          exact HA.out j hj))
        clear hq
        go_wp2_with (go_at_fn g; refine hcall.mono ?_; rintro e w' ⟨rfl, hb2⟩)
        go_ret
        rw [HR.out]
        exact ⟨rfl, below_step hb hb2⟩
      | false =>
        rw [hq] at hcall
        have HQ := Lib.hid hq
        clear hq
        go_wp2_with (go_at_fn g; refine hcall.mono ?_; rintro e w' ⟨rfl, hb2⟩)
        go_roundw
        case rel =>
          refine ⟨k + 1, by omega, by go_num, below_step hb hb2, Lib.hid (fun j hj => ?_)⟩
          by_cases e : j = k
          · subst e; rw [HS.out]; exact HQ.out
          · exact HA.out j (by omega)
        case measure => simp [intOf]; omega
    · obtain rfl : k = d.size := by omega
      have HR : Hid (findI p d.toList = -1) := Lib.hid (findI_none (fun j y hy => by
        have hj : j < d.size := by have := (List.getElem?_eq_some_iff.1 hy).1; simpa using this
        have := (mem_arr (d := d) hj).2
        rw [hy] at this
        injection this with this
        rw [this]
        exact HA.out j hj))
      go_wp2_with fail
      go_ret
      rw [HR.out]
      exact ⟨rfl, hb⟩
set_option maxHeartbeats 2000000 in
set_option maxRecDepth 100000 in
theorem deleteFuncK_calls (g : Nat) (lb : Array Value) (eg : ∀ args w, (callFunc g args).run Tryz.prog w = .ok (.enter g args) w) (p : Str → Bool) (blk off cap : Nat) (d : Array Str) (w : World) (hn : d.size ≤ 4000000001) (hcap : d.size ≤ cap)
    (hblk : blk < w.heap.size) (hH : Holds encStr w blk off d) (hT : TestsK g lb p d.toList blk w) :
    Calls Tryz.prog 139 #[.slice (some ⟨blk, off, none⟩) d.size cap, .func (.func g) #[] lb] w fun e w' =>
      e = .returned (.slice (some ⟨blk, off, none⟩) (d.toList.filter fun x => !p x).length cap) ∧ Kept blk w w' ∧ Holds encStr w' blk off (d.toList.filter fun x => !p x).toArray := by
  have hIF := indexFuncK_calls g lb eg p blk off cap d w hn hblk hH hT
  have hfil : (d.toList.filter fun x => !p x) = keptUpTo (fun j => !p d[j]!) d d.size := (keptUpTo_filter (fun x => !p x) d).symm
  obtain ⟨kp, HK⟩ : ∃ kp : Nat → Bool, Hid (kp = fun j => !p d[j]!) := ⟨_, Lib.hid rfl⟩
  rw [hfil, ← HK.out]
  clear hfil
  rcases findI_cases p d with ⟨e1, hall⟩ | ⟨k0, hk0, e1, ht, hall⟩
  · rw [e1] at hIF
    have e3 : keptUpTo kp d d.size = d.toList := by
      rw [keptUpTo_all kp d _ (fun j hj => by rw [HK.out]; show (!p d[j]!) = true; rw [hall j hj]; rfl)]
      apply List.ext_getElem?
      intro i
      by_cases hi : i < d.size
      · rw [(mem_arr hi).2]; simp [hi]
      · rw [List.getElem?_eq_none (by simp; omega), List.getElem?_eq_none (by simp; omega)]
    have E3 := Lib.hid e3
    replace hH := Lib.hid hH
    replace hT := Lib.hid hT
    clear hall e1 e3
    go_enter Tryz.func139, Tryz.ntmps139
    go_wp2_with fail
    refine hIF.mono ?_
    rintro e w1 ⟨rfl, hb1⟩
    go_wp2_with fail
    go_ret
    rw [E3.out]
    exact ⟨by simp, Kept.of _ hb1, by simpa using holds_below hH.out hb1 hblk⟩
  · rw [e1] at hIF
    have hI0 : KeptInv kp d (k0 + 1) k0 d := KeptInv.start (fun j hj => by rw [HK.out]; show (!p d[j]!) = true; rw [hall j hj]; rfl) (by rw [HK.out]; show (!p d[k0]!) = false; rw [ht]; rfl)
    have hne1 : ((k0 : Int) == -1) = false := beq_eq_false_iff_ne.2 (by omega)
    have zr := Tryz.zeroValue9
    replace hH := Lib.hid hH
    replace hT := Lib.hid hT
    replace hI0 := Lib.hid hI0
    clear hall e1 ht
    go_enter Tryz.func139, Tryz.ntmps139
    go_wp2_with fail
    refine hIF.mono ?_
    rintro e w1 ⟨rfl, hb1⟩
    go_wp2_with fail
    go_loopg [5, 6, 7] d.size (fun gg s5 s6 _ wr => ∃ (i j : Nat) (dk : Array Str), s5 = .int .i64 i ∧ s6 = .int .i64 j ∧ j ≤ d.size ∧ d.size - j ≤ gg ∧ Kept blk w wr ∧ Hid (Holds encStr wr blk off dk) ∧ Hid (KeptInv kp d j i dk))
    case atStart => exact ⟨k0, k0 + 1, d, rfl, by go_num, by omega, by omega, Kept.of _ hb1, Lib.hid (holds_below hH.out hb1 hblk), hI0⟩
    case round =>
      obtain ⟨i, j, dk, rfl, rfl, hjd, hgg, hB, hHk, hI⟩ := hrel
      have hij := hI.out.lt
      have hds := hI.out.size
      have hblkr : blk < wr.heap.size := Nat.lt_of_lt_of_le hblk hB.size
      by_cases hlt : j < d.size
      · have hltz : (j : Int) < (d.size : Int) := by omega
        obtain ⟨cj, _⟩ := hHk.out j (by omega)
        rw [hI.out.high j (by omega)] at cj
        have hcall := hT.out wr hB _ (mem_arr hlt).1
        have hfut : Hid (∀ w', Below wr.heap.size wr w' → w'.cell? ⟨blk, off + i, none⟩ = some (encStr dk[i]!) ∧ w'.frozen? ⟨blk, off + i, none⟩ = false) := Lib.hid (fun w' hb => (holds_below hHk.out hb hblkr) i (by omega))
        generalize hu : d[j]! = u at cj hcall
        have HU := Lib.hid hu
        generalize dk[i]! = old at hfut
        clear hu
        cases hq : p u with
        | false =>
          rw [hq] at hcall
          have HQ := Lib.hid hq
          have HDS := Lib.hid hds
          clear hq hds
          go_wp2_with (go_at_fn g; refine hcall.mono ?_; rintro e w' ⟨rfl, hb2⟩; obtain ⟨ci, fi⟩ := hfut.out w' hb2)
          go_roundg (d.size - (j + 1))
          case measure => omega
          case rel =>
            refine ⟨i + 1, j + 1, dk.setIfInBounds i u, by go_num, by go_num, by omega, Nat.le_refl _, ?_, Lib.hid ?_, Lib.hid ?_⟩
            · exact (hB.step hb2).set _ _
            · exact holds_setCell (holds_below hHk.out hb2 hblkr) (by have := HDS.out; omega) u
            · have := hI.out.keep hlt (by rw [HK.out]; show (!p d[j]!) = true; rw [HU.out, HQ.out]; rfl)
              rwa [HU.out] at this
        | true =>
          rw [hq] at hcall
          have HQ := Lib.hid hq
          clear hq hds hfut
          go_wp2_with (go_at_fn g; refine hcall.mono ?_; rintro e w' ⟨rfl, hb2⟩)
          go_roundg (d.size - (j + 1))
          case measure => omega
          case rel => exact ⟨i, j + 1, dk, rfl, by go_num, by omega, Nat.le_refl _, hB.step hb2, Lib.hid (holds_below hHk.out hb2 hblkr), Lib.hid (hI.out.skip (by rw [HK.out]; show (!p d[j]!) = false; rw [HU.out, HQ.out]; rfl))⟩
      · obtain rfl : j = d.size := by omega
        have hltz : ¬ (d.size : Int) < (d.size : Int) := by omega
        have hcl : ∀ ty, (Builtin.clear_ #[26] ty #[.slice (some ⟨blk, off + i, none⟩) (d.size - i) (cap - i)]).run Tryz.prog wr = .ok (.tuple #[]) (wr.setCells blk (off + i) (List.replicate (d.size - i) (encStr []))) :=
          fun ty => Lib.run_clear_slice wr _ _ ty _ Tryz.underlying26 zr rfl rfl blk (off + i) _ _ (by omega) (fun t ht => by rw [show off + i + t = off + (i + t) by omega, (hHk.out (i + t) (by omega)).1]; rfl) (fun t ht => by rw [show off + i + t = off + (i + t) by omega]; exact (hHk.out (i + t) (by omega)).2)
        have HDS := Lib.hid hds
        clear hds
        go_wp2_with fail
        go_ret
        have hI := hI.out
        have hrow : wr.setCells blk (off + i) (List.replicate (d.size - i) (encStr [])) = putRow encStr wr blk off (keptUpTo kp d d.size ++ List.replicate (d.size - i) []).toArray := by
          rw [← hI.done [], ← putRow_setCells encStr wr blk off _ dk i (by simp; have := HDS.out; omega), putRow_self encStr wr blk off dk hHk.out, List.map_replicate]
        refine ⟨by rw [hI.len]; rfl, ?_, ?_⟩
        · show Kept blk w (wr.setCells blk (off + i) (List.replicate (d.size - i) (encStr [])))
          rw [hrow]
          exact hB.put _ _
        · show Holds encStr (wr.setCells blk (off + i) (List.replicate (d.size - i) (encStr []))) blk off _
          rw [hrow]
          apply holds_take (m := List.replicate (d.size - i) [])
          exact holds_putRow encStr wr blk off dk _ hHk.out (by simp [hI.len]; have := HDS.out; omega)
end Go.Proofs.Pw

namespace Go.Proofs.Pw
open Go.RowKit Go.Sort
open Go.Lib hiding intOf
theorem enters_pick1 : ∀ args w, (callFunc 140 args).run Tryz.prog w = .ok (.enter 140 args) w := Go.Proofs.enters_of Tryz.func140 (by kernel_rfl) rfl
theorem enters_pick2 : ∀ args w, (callFunc 143 args).run Tryz.prog w = .ok (.enter 143 args) w := Go.Proofs.enters_of Tryz.func143 (by kernel_rfl) rfl
set_option maxHeartbeats 1000000 in
set_option maxRecDepth 100000 in
theorem pick1_in (ks : List Nat) (A : Nat → Addr) (b1 b2 : Nat) (sign v s : ByteArray) (w : World) (hE : EnvP ks A w) (hv : v.size ≤ 1000000) (hs : s.size ≤ 1000000) (z1 : w.cell? ⟨b1, 0, none⟩ = some (.string sign)) (z2 : w.cell? ⟨b2, 0, none⟩ = some (.string v)) :
    Calls Tryz.prog 140 #[.string s, .pointer (some ⟨b1, 0, none⟩), .pointer (some ⟨b2, 0, none⟩)] w fun e w' => e = .returned (.bool (!withinF sign.data.toList v.data.toList s.data.toList)) ∧ Below w.heap.size w w' := by
  have hw := within_calls ks A sign v s w hE (by omega) (by omega)
  generalize withinF sign.data.toList v.data.toList s.data.toList = X at hw ⊢
  replace hw := Lib.hid hw
  clear hE
  go_enter Tryz.func140, Tryz.ntmps140
  go_wp2_with fail
  refine hw.out.mono ?_
  rintro e w1 ⟨rfl, hb⟩
  go_wp2_with fail
  go_ret
  exact ⟨rfl, hb⟩
set_option maxHeartbeats 1000000 in
set_option maxRecDepth 100000 in
theorem pick2_in (ks : List Nat) (A : Nat → Addr) (b1 : Nat) (q s : ByteArray) (w : World) (hE : EnvP ks A w) (hq : q.size ≤ 1000000) (hs : s.size ≤ 1000000) (z1 : w.cell? ⟨b1, 0, none⟩ = some (.string q)) :
    Calls Tryz.prog 143 #[.string s, .pointer (some ⟨b1, 0, none⟩)] w fun e w' => e = .returned (.bool (!verBegins s.data.toList q.data.toList)) ∧ Below w.heap.size w w' := by
  have hw := verBegins_calls ks A s q w hE (by omega) (by omega)
  generalize verBegins s.data.toList q.data.toList = X at hw ⊢
  replace hw := Lib.hid hw
  clear hE
  go_enter Tryz.func143, Tryz.ntmps143
  go_wp2_with fail
  refine hw.out.mono ?_
  rintro e w1 ⟨rfl, hb⟩
  go_wp2_with fail
  go_ret
  exact ⟨rfl, hb⟩
theorem delK_calls (g : Nat) (lb : Array Value) (eg : ∀ args w, (callFunc g args).run Tryz.prog w = .ok (.enter g args) w) (p : Str → Bool) (B : Nat) (v : Value) (l : List Str) (w : World) (hB : B ≤ w.heap.size) (hl : l.length ≤ 1000000) (h : FreshS B w v l) (hT : ∀ k c, v = .slice (some ⟨k, 0, none⟩) l.length c → TestsK g lb p l k w) :
    Calls Tryz.prog 139 #[v, .func (.func g) #[] lb] w fun e w' => (∃ v', e = .returned v' ∧ StrsAt w' v' (l.filter fun x => !p x)) ∧ Below B w w' ∧ ∀ (a : Addr) (u : Value), w.cell? a = some u → (∀ k c, v = .slice (some ⟨k, 0, none⟩) l.length c → a.block ≠ k) → w'.cell? a = some u := by
  rcases h with ⟨rfl, rfl⟩ | ⟨k, c, rfl, h1, h2, h3, h4, h5⟩
  · refine (deleteFunc_nil _ 0 _).mono ?_
    rintro e w' ⟨rfl, rfl⟩
    exact ⟨⟨_, rfl, StrsAt.nil _⟩, Below.refl _ _, fun _ _ h _ => h⟩
  · have hD := deleteFuncK_calls g lb eg p k 0 c l.toArray w (by simp; omega) (by simpa using h3) h2 h5 (by simpa using hT k c rfl)
    simp only [List.size_toArray] at hD
    refine hD.mono ?_
    rintro e w' ⟨rfl, hb, hH⟩
    exact ⟨⟨_, rfl, strsAt_holds hH (Nat.le_trans (List.length_filter_le _ _) h3) h4⟩, hb.below h1 hB, fun a u hc hn => hb.cell hc (hn k c rfl)⟩
theorem boundF_sign {q : Str} {b : Str × Str} (h : qBound q = some b) : b.1 = [60, 61] ∨ b.1 = [62, 61] ∨ b.1 = [60] ∨ b.1 = [62] := by
  unfold qBound signs boundF at h
  split at h
  · obtain rfl := Option.some.inj h; exact .inl rfl
  · unfold boundF at h
    split at h
    · obtain rfl := Option.some.inj h; exact .inr (.inl rfl)
    · unfold boundF at h
      split at h
      · obtain rfl := Option.some.inj h; exact .inr (.inr (.inl rfl))
      · unfold boundF at h
        split at h
        · obtain rfl := Option.some.inj h; exact .inr (.inr (.inr rfl))
        · cases h
theorem FaultAt.bare {A : Nat → Addr} {w : World} {c : Nat} : FaultAt A w (errV A c) (c, -1) := by
  by_cases h : c = 0
  · subst h; exact .inl ⟨rfl, rfl, rfl⟩
  · exact .inr (.inl ⟨h, rfl, rfl⟩)
theorem likedV_is (A : Nat → Addr) (o : Option Str) : likedV A o = .tuple #[.string ⟨(o.getD []).toArray⟩, errV A (if o.isNone then 5 else 0)] := by
  cases o <;> rfl
theorem containsQ_calls (v : Value) (q : ByteArray) (l : List Str) (w : World) (h : StrsAt w v l) (hl : l.length ≤ 1000000) :
    Calls Tryz.prog 142 #[v, .string q] w fun e w' => e = .returned (.bool (decide (q.data.toList ∈ l))) ∧ w' = w := by
  obtain ⟨a, n, c, L, rfl, rfl, _, _, hc⟩ := h
  rw [lstF_length] at hl
  by_cases h0 : n = 0
  · subst h0
    refine (Tryz.slices_Contains_string_empty a c q w).mono ?_
    rintro e w' ⟨rfl, rfl⟩
    exact ⟨by rw [decide_eq_false (by simp [lstF])], rfl⟩
  · obtain ⟨b, o, rfl, _⟩ := hc 0 (by omega)
    have hzg : ∀ j, j < n → ((List.range n).map L)[j]? = some (L j) := fun j hj => by simp [hj]
    refine (Tryz.slices_Contains_string b o n c ((List.range n).map L) q w (by simp) (by omega) (fun j hj => by
      have hj' : j < n := by simpa using hj
      obtain ⟨b', o', e, h⟩ := hc j hj'
      injection e with e
      injection e with e1 e2 _
      rw [List.getD_eq_getElem?_getD, hzg j hj', e1, e2]
      exact h)).mono ?_
    rintro e w' ⟨rfl, rfl⟩
    refine ⟨?_, rfl⟩
    congr 2
    rw [Bool.eq_iff_iff, Lib.containsS_iff, decide_eq_true_iff, List.take_of_length_le (by simp), lstF_mem']
    constructor
    · intro hm
      obtain ⟨j, hj, e⟩ := List.mem_map.1 hm
      exact ⟨j, List.mem_range.1 hj, by rw [e]⟩
    · rintro ⟨j, hj, e⟩
      exact List.mem_map.2 ⟨j, List.mem_range.2 hj, bytes_eq.1 e⟩
end Go.Proofs.Pw

namespace Go.Proofs.Pw
open Go.RowKit Go.Sort
open Go.Lib hiding intOf
def sDot : ByteArray := ⟨#[46]⟩
def sX : ByteArray := ⟨#[120]⟩
def v020rc : ByteArray := ⟨#[118, 48, 46, 50, 46, 48, 45, 114, 99]⟩
def s3P (j : Nat) : ByteArray := if j < 2 then sA else sB
def s3V (j : Nat) : ByteArray := if j = 0 then v100 else if j = 1 then v110 else if j = 2 then v010 else v020rc
def s3R (j : Nat) : List Md := if j = 1 then [(sB.data.toList, v010.data.toList)] else []
def s3K (j : Nat) : List Str := if j = 0 then [sDot.data.toList, sX.data.toList] else if j = 1 then [sDot.data.toList] else []
def s3L : List En := enF 4 s3P s3V s3R s3K smB
theorem s3_short : ShortI s3L := by
  refine ⟨by decide +kernel, ?_, ?_, ?_⟩
  · decide +kernel
  · intro e he
    have : ∀ e ∈ s3L, e.reqs.length ≤ 1000000 ∧ ∀ m ∈ e.reqs, m.1.length ≤ 1000000 ∧ m.2.length ≤ 1000000 := by decide +kernel
    exact this e he
  · decide +kernel
def s3Rv (N j : Nat) : Value := if j = 1 then .slice (some ⟨N + 1, 0, none⟩) 1 1 else .slice none 0 0
def s3Kv (N j : Nat) : Value := if j = 0 then .slice (some ⟨N, 0, none⟩) 2 2 else if j = 1 then .slice (some ⟨N + 2, 0, none⟩) 1 1 else .slice none 0 0
def s3W0 (w : World) : World := ((w.alloc (.cells #[.string sDot, .string sX] 9)).alloc (.cells #[.string sB, .string v010] 47)).alloc (.cells #[.string sDot] 9)
def s3C (N : Nat) : List Value := [.string sA, .string v100, .slice none 0 0, .slice (some ⟨N, 0, none⟩) 2 2, .bool false, .string sA, .string v110, .slice (some ⟨N + 1, 0, none⟩) 1 1, .slice (some ⟨N + 2, 0, none⟩) 1 1, .bool false, .string sB, .string v010, .slice none 0 0, .slice none 0 0, .bool false, .string sB, .string v020rc, .slice none 0 0, .slice none 0 0, .bool false]
def s3W (w : World) : World := (s3W0 w).alloc (.cells (s3C w.heap.size).toArray 62)
theorem s3_size (w : World) : (s3W0 w).heap.size = w.heap.size + 3 := by unfold s3W0; simp
theorem s3W_below (w : World) : Below w.heap.size w (s3W w) := below_step (below_step (below_step (below_alloc w _) (below_alloc _ _)) (below_alloc _ _)) (below_alloc _ _)
theorem s3W_in (w : World) : EntsIn (s3W w) (some ⟨w.heap.size + 3, 0, none⟩) 4 4 s3P s3V s3R s3K smB (s3Rv w.heap.size) (s3Kv w.heap.size) := by
  have hc : ∀ (c : Nat) (u : Value), (s3C w.heap.size)[c]? = some u → (s3W w).cell? ⟨w.heap.size + 3, c, none⟩ = some u := fun c u h => new_cell (s3W0 w) (s3C w.heap.size) 62 (s3_size w) h
  have hb3 : Below (s3W0 w).heap.size (s3W0 w) (s3W w) := below_alloc _ _
  have hb2 := below_step (below_alloc ((w.alloc (.cells #[.string sDot, .string sX] 9)).alloc (.cells #[.string sB, .string v010] 47)) (.cells #[.string sDot] 9)) hb3
  have hb1 := below_step (below_alloc (w.alloc (.cells #[.string sDot, .string sX] 9)) (.cells #[.string sB, .string v010] 47)) hb2
  refine ⟨Nat.le_refl _, by decide, fun j hj => ⟨w.heap.size + 3, 0, rfl, ?_⟩, fun j hj => ?_, fun j hj => ?_⟩
  · match j, hj with
    | 0, _ => exact ⟨hc _ _ rfl, hc _ _ rfl, hc _ _ rfl, hc _ _ rfl, hc _ _ rfl⟩
    | 1, _ => exact ⟨hc _ _ rfl, hc _ _ rfl, hc _ _ rfl, hc _ _ rfl, hc _ _ rfl⟩
    | 2, _ => exact ⟨hc _ _ rfl, hc _ _ rfl, hc _ _ rfl, hc _ _ rfl, hc _ _ rfl⟩
    | 3, _ => exact ⟨hc _ _ rfl, hc _ _ rfl, hc _ _ rfl, hc _ _ rfl, hc _ _ rfl⟩
  · match j, hj with
    | 0, _ => exact ModsAt.nil _
    | 2, _ => exact ModsAt.nil _
    | 3, _ => exact ModsAt.nil _
    | 1, _ =>
      have h0 := Below.cell_some hb2 (new_cell (w.alloc (.cells #[.string sDot, .string sX] 9)) [.string sB, .string v010] 47 (World.size_alloc _ _) (c := 0) rfl)
      have h1 := Below.cell_some hb2 (new_cell (w.alloc (.cells #[.string sDot, .string sX] 9)) [.string sB, .string v010] 47 (World.size_alloc _ _) (c := 1) rfl)
      refine ⟨some ⟨w.heap.size + 1, 0, none⟩, 1, 1, fun _ => sB, fun _ => v010, rfl, rfl, Nat.le_refl _, by decide, fun i hi => ?_⟩
      obtain rfl : i = 0 := by omega
      exact ⟨w.heap.size + 1, 0, rfl, h0, h1⟩
  · match j, hj with
    | 2, _ => exact StrsAt.nil _
    | 3, _ => exact StrsAt.nil _
    | 0, _ =>
      have h0 := Below.cell_some hb1 (new_cell w [.string sDot, .string sX] 9 rfl (c := 0) rfl)
      have h1 := Below.cell_some hb1 (new_cell w [.string sDot, .string sX] 9 rfl (c := 1) rfl)
      refine ⟨some ⟨w.heap.size, 0, none⟩, 2, 2, fun i => if i = 0 then sDot else sX, rfl, rfl, Nat.le_refl _, by decide, fun i hi => ?_⟩
      have hi2 : i = 0 ∨ i = 1 := by omega
      rcases hi2 with rfl | rfl
      · exact ⟨w.heap.size, 0, rfl, h0⟩
      · exact ⟨w.heap.size, 0, rfl, h1⟩
    | 1, _ =>
      have h0 := Below.cell_some hb3 (new_cell ((w.alloc (.cells #[.string sDot, .string sX] 9)).alloc (.cells #[.string sB, .string v010] 47)) [.string sDot] 9 (N := w.heap.size + 2) (by simp) (c := 0) rfl)
      refine ⟨some ⟨w.heap.size + 2, 0, none⟩, 1, 1, fun _ => sDot, rfl, rfl, Nat.le_refl _, by decide, fun i hi => ?_⟩
      obtain rfl : i = 0 := by omega
      exact ⟨w.heap.size + 2, 0, rfl, h0⟩
set_option maxHeartbeats 2000000 in
set_option maxRecDepth 100000 in
theorem small3_calls (w : World) :
    Calls Tryz.prog 26 #[] w fun e w' => e = .returned (.slice (some ⟨w.heap.size + 3, 0, none⟩) 4 4) ∧ w' = s3W w := by
  go_enter Tryz.func26, Tryz.ntmps26
  go_wp2_with fail
  go_ret
  exact ⟨rfl, rfl⟩
end Go.Proofs.Pw

namespace Go.Proofs.Pw
open Go.Lib hiding intOf
def s3A0 : Md := (sA.data.toList, v100.data.toList)
def s3A1 : Md := (sA.data.toList, v110.data.toList)
def s3B : Md := (sB.data.toList, v010.data.toList)
def mainS : Str := [109, 97, 105, 110]
def s3F : Fl := ⟨mainS, [s3A0], []⟩
def s3Pin : List PinM := [⟨sA.data.toList, v110.data.toList, false⟩]
theorem s3_right {l : List Md} (h : (startErr s3L l).1 = 0) : RightG s3L l := rightG_of h
theorem s3_build {roots X : List Md} (h0 : (startErr s3L roots).1 = 0) (hX : Rises modCmp X) (hr : ∀ m ∈ roots, m ∈ X) (hc : ∀ e ∈ s3L, e.md ∈ X → ∀ r ∈ e.reqs, r ∈ X) (hm : ∀ m ∈ X, Reached s3L roots m) : buildL s3L roots = greatest X := by
  unfold buildL
  rw [← (s3_right h0).is hX (fun m => ⟨hm m, fun h => reached_closed hr hc h⟩)]
theorem s3_build0 : buildL s3L [s3A0] = [s3A0] := by
  rw [s3_build (X := [s3A0]) (by decide +kernel) (by simp [Rises]) (fun m hm => hm) (by decide +kernel) (fun m hm => .root hm)]
  decide +kernel
theorem s3_reachB {roots : List Md} (h : s3A1 ∈ roots) : Reached s3L roots s3B := by
  have he : ∃ e ∈ s3L, e.md = s3A1 ∧ s3B ∈ e.reqs := by decide +kernel
  obtain ⟨e, he, h1, h2⟩ := he
  exact .step he (by rw [h1]; exact .root h) h2
theorem s3_build2 : buildL s3L [s3A0, s3A1] = [s3A1, s3B] := by
  rw [s3_build (X := [s3A0, s3A1, s3B]) (by decide +kernel) (by unfold Rises; decide +kernel) (by decide +kernel) (by decide +kernel) (fun m hm => by
    simp only [List.mem_cons, List.not_mem_nil, or_false] at hm
    rcases hm with rfl | rfl | rfl
    · exact .root (by simp)
    · exact .root (by simp)
    · exact s3_reachB (by simp))]
  decide +kernel
theorem s3_build1 : buildL s3L [s3A1] = [s3A1, s3B] := by
  rw [s3_build (X := [s3A1, s3B]) (by decide +kernel) (by unfold Rises; decide +kernel) (by decide +kernel) (by decide +kernel) (fun m hm => by
    simp only [List.mem_cons, List.not_mem_nil, or_false] at hm
    rcases hm with rfl | rfl
    · exact .root (by simp)
    · exact s3_reachB (by simp))]
  decide +kernel
theorem s3_buildB : buildL s3L [s3B] = [s3B] := by
  rw [s3_build (X := [s3B]) (by decide +kernel) (by simp [Rises]) (fun m hm => hm) (by decide +kernel) (fun m hm => .root hm)]
  decide +kernel
theorem s3_err2 : (startErr s3L [s3A0, s3A1]).1 = 0 := by decide +kernel
theorem s3_again : buildL s3L [s3A1, s3B] = [s3A1, s3B] := by
  have := build_again (s3_right s3_err2)
  rwa [s3_build2] at this
theorem s3_errX : startErr s3L [s3A1, s3B] = (0, -1) := by decide +kernel
theorem s3_trim : trimErr s3L [s3A1, s3B] = (0, -1) ∧ trimR s3L [s3A1, s3B] = [s3A1] := by
  refine ⟨?_, ?_⟩
  · unfold trimErr
    rw [if_neg (by rw [s3_errX]; decide), if_pos s3_again]
  · unfold trimR
    rw [if_pos ⟨by rw [s3_errX], s3_again⟩]
    show trimF s3L [s3A1, s3B] (0 + 1 + 1) [s3A1, s3B] 0 = [s3A1]
    have e0 : ([s3A1, s3B] : List Md).eraseIdx 0 = [s3B] := rfl
    have e1 : ([s3A1, s3B] : List Md).eraseIdx (0 + 1) = [s3A1] := rfl
    rw [trimF, if_pos (by decide), e0, s3_buildB, if_neg (by decide +kernel), trimF, if_pos (by decide), e1, if_pos s3_build1]
    rfl
theorem s3_caps : capsL s3Pin = [s3A1] := by decide +kernel
theorem s3_to : toT s3L [s3A1] [s3A0] = [s3A0] := by
  have hG : RightG s3L [s3A0] := s3_right (by decide +kernel)
  refine toT_same hG (by simp [Rises]) (fun m hm => good_of_reach hG (fun x hx => ?_) hm)
  have h1 := reached_closed (T := [s3A0]) (fun m hm => hm) (by decide +kernel) (hG.mem.1 hx)
  rw [List.mem_singleton.1 h1]
  decide +kernel
theorem s3_got : getR s3L s3F [sA.data.toList] = ⟨(0, -1), ⟨mainS, [s3A1], []⟩, [s3A1, s3B]⟩ := by
  have hb : buildL s3L s3F.reqs = [s3A0] := s3_build0
  have h := GetOk.mk_ (l := s3L) (f := s3F) (args := [sA.data.toList]) (S := s3Pin) (sel := [s3A1, s3B]) (by decide +kernel) (by decide +kernel) (by rw [hb]; decide +kernel) (by rw [hb]; decide +kernel)
    (by
      rw [hb, s3_caps]
      unfold nextErr
      rw [orE_zero, s3_to]
      exact ⟨by decide +kernel, by decide +kernel⟩)
    (by
      rw [hb, s3_caps]
      unfold nextB
      rw [s3_to]
      exact s3_build2)
    (by rw [hb]; decide +kernel)
    (by
      unfold doneErr
      rw [if_neg (by decide +kernel), s3_trim.1, s3_trim.2]
      rfl)
  rw [h, s3_trim.2]
  rfl
end Go.Proofs.Pw
