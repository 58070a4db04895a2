/- Ph: walks and plain laws, joined: ModLaw FileMath VerSort IdxVers MvsMath MvsMath2 QSplitMath JoinMath HoldMath RefQuery. Conditions: at each theorem. -/
import Derived.Test.YtkfnhchlfojomaaGreatDoorShelf
import Derived.Shelf.SlSortCmp.Whole1
import Derived.Stop.IfaceNil
import Derived.Test.YtkfnhchlfojomaaGreatDoorPfa
import Derived.Test.YtkfnhchlfojomaaGreatDoorPfb
import Derived.Test.YtkfnhchlfojomaaGreatDoorPfc
import Derived.Test.YtkfnhchlfojomaaGreatDoorPfd
import Derived.Test.YtkfnhchlfojomaaGreatDoorPfe
import Derived.Test.YtkfnhchlfojomaaGreatDoorPff
import Derived.Test.YtkfnhchlfojomaaGreatDoorPfg
import Derived.Test.YtkfnhchlfojomaaGreatDoorPfh
import Derived.Test.YtkfnhchlfojomaaGreatDoorPfi
import Derived.Test.YtkfnhchlfojomaaGreatDoorPfj
import Derived.Test.YtkfnhchlfojomaaGreatDoorPfk
import Derived.Test.YtkfnhchlfojomaaGreatDoorPfl
import Derived.Test.YtkfnhchlfojomaaGreatDoorPfm
import Derived.Test.YtkfnhchlfojomaaGreatDoorPfn
import Derived.Test.YtkfnhchlfojomaaGreatDoorPfo
import Derived.Test.YtkfnhchlfojomaaGreatDoorPfp
import Derived.Test.YtkfnhchlfojomaaGreatDoorPfq
import Derived.Test.YtkfnhchlfojomaaGreatDoorPfr
import Derived.Test.YtkfnhchlfojomaaGreatDoorPfs
import Derived.Test.YtkfnhchlfojomaaGreatDoorPft
import Derived.Test.YtkfnhchlfojomaaGreatDoorPfu
import Derived.Test.YtkfnhchlfojomaaGreatDoorPfv
import Derived.Test.YtkfnhchlfojomaaGreatDoorPfw
import Derived.Test.YtkfnhchlfojomaaGreatDoorPfx
import Derived.Test.YtkfnhchlfojomaaGreatDoorPfy
import Derived.Test.YtkfnhchlfojomaaGreatDoorPfz
import Derived.Test.YtkfnhchlfojomaaGreatDoorPfza
import Derived.Test.YtkfnhchlfojomaaGreatDoorPfzb
import Derived.Test.YtkfnhchlfojomaaGreatDoorPfzc
import Derived.Test.YtkfnhchlfojomaaGreatDoorPfzd
import Derived.Test.YtkfnhchlfojomaaGreatDoorPfze
import Derived.Test.YtkfnhchlfojomaaGreatDoorPfzf
import Derived.Test.YtkfnhchlfojomaaGreatDoorPfzg

namespace Go.Proofs.Pw
open Go.Lib hiding intOf
theorem modErr_zero {p v : Str} (h : modErr p v = 0) : pathErr p = 0 ∧ verErr v = 0 := by
  unfold modErr at h
  by_cases h1 : pathErr p = 0
  · refine ⟨h1, ?_⟩
    by_cases h2 : verErr v = 0
    · exact h2
    · rw [if_neg (by rw [h1]; simp), if_pos h2] at h
      exact h
  · rw [if_pos h1] at h
    exact absurd h h1
theorem modCmp_zero {a b : Md} (ha : mdErr a = 0) (hb : mdErr b = 0) (h : modCmp a b = 0) : a = b := by
  obtain ⟨h1, h2⟩ := orI_eq.1 h
  exact Prod.ext (compareBytes_zero h1) ((verCmp_same (modErr_zero ha).2 (modErr_zero hb).2).1 h2)
end Go.Proofs.Pw

namespace Go.Proofs.Pw
open Go.Lib hiding intOf
theorem orE_zero {a b : Nat × Int} : (orE a b).1 = 0 ↔ a.1 = 0 ∧ b.1 = 0 := by
  unfold orE
  by_cases h : a.1 = 0
  · rw [if_neg (by simp [h])]; simp [h]
  · rw [if_pos h]; simp [h]
end Go.Proofs.Pw

namespace Go.Proofs.Pw
open Go.RowKit Go.Sort
open Go.Lib hiding intOf
set_option maxHeartbeats 1000000 in
set_option maxRecDepth 100000 in
theorem verSort_calls (ks : List Nat) (A : Nat → Addr) (v : Value) (l : List Str) (w : World) (hE : EnvP ks A w) (hS : StrsAt w v l) (hn : l.length ≤ 1000000) (hl : ∀ x ∈ l, x.length ≤ 1000000000) :
    Calls Tryz.prog 80 #[v] w fun e w' => (∃ v', e = .returned v' ∧ StrsAt w' v' (vsort l)) ∧ Below w.heap.size w w' := by
  obtain ⟨a, n, cap, L, rfl, rfl, hnc, hcap, hc⟩ := hS
  rw [lstF_length] at hn
  have hcl := cloneS_calls a n cap L w (by omega) hc
  have hsn := AnyF.slices_SortFunc_none (P := Tryz.prog) (ρ := laysSortSR) { laysSortS with }
  have hce := Tryz.slices_Compact_string_empty
  have HL := Lib.hid hl
  replace hcl := Lib.hid hcl
  replace hsn := Lib.hid hsn
  replace hce := Lib.hid hce
  clear hc hl
  go_enter Tryz.func80, Tryz.ntmps80
  go_wp2_with fail
  refine hcl.out.mono ?_
  rintro e w1 ⟨h, hb1⟩
  rcases h with ⟨rfl, rfl⟩ | ⟨g, c, rfl, h1, h2, h3, h4, h5⟩
  · go_wp2_with fail
    refine (deleteFunc_nil _ 0 _).mono ?_
    rintro e w' ⟨rfl, rfl⟩
    go_wp2_with fail
    refine (hsn.out none 0 _ _).mono ?_
    rintro e w' ⟨rfl, rfl⟩
    go_wp2_with fail
    refine (hce.out none 0 _).mono ?_
    rintro e w' ⟨rfl, rfl⟩
    go_wp2_with fail
    go_ret
    exact ⟨⟨_, rfl, StrsAt.nil _⟩, hb1⟩
  · have hdz : (lstF n L).toArray.size = n := by rw [List.size_toArray, lstF_length]
    have hT : TestsB 141 #[] (fun s => !decide (verErr s = 0)) (lstF n L).toArray.toList w.heap.size w1 := by
      intro W hB s hs
      obtain ⟨j, hj, rfl⟩ := lstF_mem'.1 (by simpa using hs)
      have := verSort1_calls ks A (L j) W (hE.below (hb1.trans hB)) (by rw [size_eq]; exact HL.out _ (lstF_mem'.2 ⟨j, hj, rfl⟩))
      rw [← bytes_back (L j)] at this
      exact this
    have hD := deleteFunc_calls 141 #[] Tryz.enters_sort1 (fun s => !decide (verErr s = 0)) g 0 c w.heap.size (lstF n L).toArray w1 (by rw [hdz]; omega) (by rw [hdz]; exact h3) h1 h2 h5 hT
    rw [hdz] at hD
    have hfe : ((lstF n L).toArray.toList.filter fun x => !(!decide (verErr x = 0))) = (lstF n L).filter fun x => decide (verErr x = 0) := by
      congr 1; funext x; simp
    simp only [hfe] at hD
    obtain ⟨m, hm⟩ := map_sub (P := OkV) ((lstF n L).filter fun x => decide (verErr x = 0)) (fun x hx => ⟨by have := (List.mem_filter.1 hx).2; simpa using this, HL.out x (List.mem_filter.1 hx).1⟩)
    have hml : ((lstF n L).filter fun x => decide (verErr x = 0)).length = m.length := by rw [← hm, List.length_map]
    have hmn : m.length ≤ n := by
      have := List.length_filter_le (fun x => decide (verErr x = 0)) (lstF n L)
      rw [lstF_length, hml] at this
      exact this
    have hma : m.toArray.map (·.1) = ((lstF n L).filter fun x => decide (verErr x = 0)).toArray := by rw [← hm]; simp
    rw [hml, ← hma] at hD
    have hmem : ∀ x : RV, x ∈ m ↔ x.1 ∈ lstF n L := by
      intro x
      constructor
      · intro hx
        have : x.1 ∈ m.map (·.1) := List.mem_map.2 ⟨x, hx, rfl⟩
        rw [hm] at this
        exact (List.mem_filter.1 this).1
      · intro hx
        have : x.1 ∈ m.map (·.1) := by rw [hm]; exact List.mem_filter.2 ⟨hx, by simpa using x.2.1⟩
        obtain ⟨y, hy, e⟩ := List.mem_map.1 this
        have : y = x := Subtype.ext e
        rw [← this]; exact hy
    have HM := Lib.hid hmem
    replace hD := Lib.hid hD
    clear hT hfe hm hma hmem hcl
    go_wp2_with fail
    refine hD.out.mono ?_
    rintro e w2 ⟨rfl, hb2, h6⟩
    have hb02 := hb1.trans hb2
    have hso := sortV_calls ks A w w2 hE g c m.toArray hb02 h1 (Nat.lt_of_lt_of_le h2 hb2.size) (holds_rv.2 h6) (by simp; omega)
    rw [List.size_toArray] at hso
    replace hso := Lib.hid hso
    clear hD h6
    go_wp2_with fail
    refine hso.out.mono ?_
    rintro e w3 ⟨rfl, d', hd1, hd2, hd3, hd4, hd5, hb3⟩
    have hdm : (d'.map (·.1)).size = m.length := by rw [Array.size_map, hd1]
    have hH3 := holds_rv.1 hd4
    have hco := Tryz.slices_Compact_string_arr g 0 c (d'.map (·.1)) w3 hH3 (by rw [hdm]; omega) (by rw [hdm]; omega)
    have hv := vsort_of (l := lstF n L) (d := d') (fun x => by rw [hd2 x]; exact HM.out x) HL.out hd3
    rw [hv, hdm] at hco
    have hvl : (vsort (lstF n L)).length ≤ m.length := by
      rw [← hv, ← hdm]
      exact compactUpTo_length_le _
    replace hco := Lib.hid hco
    clear hso hv hd2 hd3 hd4 hsn hce
    go_wp2_with fail
    refine hco.out.mono ?_
    rintro e w4 ⟨rfl, q, rfl⟩
    go_wp2_with fail
    go_ret
    refine ⟨⟨_, rfl, ?_⟩, below_putRow (below_drewN hb3 q) h1 0 _⟩
    refine strsAt_holds (holds_take (m := List.replicate (m.length - (vsort (lstF n L)).length) []) ?_) (by omega) h4
    have hH4 : Holds encStr (Sort.ahead w3 q) g 0 (d'.map (·.1)) := fun j hj => hH3 j hj
    exact holds_putRow encStr (Sort.ahead w3 q) g 0 _ _ hH4 (by simp [hd1]; omega)
end Go.Proofs.Pw

namespace Go.Proofs.Pw
open Go.RowKit
open Go.Lib hiding intOf
set_option maxHeartbeats 4000000 in
set_option maxRecDepth 100000 in
theorem idxVersions_in (ks : List Nat) (A : Nat → Addr) (a : Option Addr) (n cap : Nat) (P V : Nat → ByteArray) (R : Nat → List Md) (K : Nat → List Str) (Bk : Nat → Bool) (Rv Kv : Nat → Value) (p : ByteArray) (w : World) (hE : EnvP ks A w) (h : EntsIn w a n cap P V R K Bk Rv Kv) (hs : ShortI (enF n P V R K Bk)) :
    Calls Tryz.prog 30 #[.slice a n cap, .string p] w fun e w' => (∃ v, e = .returned v ∧ StrsAt w' v (vsort (versL (enF n P V R K Bk) p.data.toList))) ∧ Below w.heap.size w w' := by
  obtain ⟨i0, hi, hz0, hz1, hz2⟩ := info_parts Tryz.infoString
  have hn : n ≤ 1000000 := by have := hs.len; rwa [enF_length] at this
  have H := Lib.hid h
  have HE := Lib.hid hE
  have HSZ := Lib.hid (versL_size (p := p.data.toList) hs)
  clear h hs hE
  go_enter Tryz.func30, Tryz.ntmps30
  go_wp2_with fail
  go_loopw [5, 10] (fun o i wr => ∃ (k : Nat) (L : List ByteArray), k ≤ n ∧ i = .int .i64 k ∧ Hid (wr.ownsRow w.heap.size 9 1 o L.length (strVs L)) ∧ L.length ≤ k ∧ Hid (strTs L = versL ((enF n P V R K Bk).take k) p.data.toList) ∧ Below w.heap.size w wr) (fun _ i _ => n - (intOf i).toNat)
  case atStart => exact ⟨0, [], Nat.zero_le _, rfl, Lib.hid (World.ownsRow_nil _ _ _ _), Nat.le_refl _, Lib.hid rfl, Below.refl _ _⟩
  case round =>
    obtain ⟨k, L, hk, rfl, hO, hLk, hT, hBr⟩ := hrel
    obtain ⟨ao, no, co, rfl⟩ := own_form hO.out
    by_cases hlt : k < n
    · have hkn : (k : Int) < (n : Int) := by omega
      obtain ⟨b1, o1, ea, hcell⟩ := H.out.at_ k hlt
      obtain ⟨c0, c1, c2, c3, c4⟩ := hcell.below hBr
      obtain ⟨a1, n1, s1, a2, n2, s2, e1, e2⟩ := H.out.forms hlt
      rw [e1] at c2
      rw [e2] at c3
      subst ea
      have hba := below_alloc wr (.cells #[.string (P k), .string (V k), .slice a1 n1 s1, .slice a2 n2 s2, .bool (Bk k)] 37)
      have y0 : (wr.alloc (.cells #[.string (P k), .string (V k), .slice a1 n1 s1, .slice a2 n2 s2, .bool (Bk k)] 37)).cell? ⟨wr.heap.size, 0, none⟩ = some (.string (P k)) := by simp
      have y1 : (wr.alloc (.cells #[.string (P k), .string (V k), .slice a1 n1 s1, .slice a2 n2 s2, .bool (Bk k)] 37)).cell? ⟨wr.heap.size, 1, none⟩ = some (.string (V k)) := by simp
      have hO2 := hO.out.below hba
      have hB2 := below_step hBr hba
      obtain ⟨w2, hW⟩ : ∃ W, wr.alloc (.cells #[.string (P k), .string (V k), .slice a1 n1 s1, .slice a2 n2 s2, .bool (Bk k)] 37) = W := ⟨_, rfl⟩
      rw [hW] at y0 y1 hO2 hB2
      replace hO2 := Lib.hid hO2
      clear hba
      have hTk : versL ((enF n P V R K Bk).take (k + 1)) p.data.toList = versL ((enF n P V R K Bk).take k) p.data.toList ++ (if (P k).data.toList = p.data.toList then [(V k).data.toList] else []) := by
        rw [enF_take_succ hlt, versL_snoc]
      by_cases hpe : (P k).data.toList = p.data.toList
      · have hp0 := bytes_eq.1 hpe
        have hp1 : ((P k).toList == p.toList) = true := by rw [hp0]; simp
        have HN : Hid (strTs (L ++ [V k]) = versL ((enF n P V R K Bk).take (k + 1)) p.data.toList) := Lib.hid (by rw [hTk, if_pos hpe, strTs_snoc, hT.out])
        clear hcell e1 e2 hT hTk hpe hp0 hO
        go_wp2_with (at_builtin; refine wpList_append_own _ rfl _ _ 35 rfl w.heap.size 9 i0 (.string ⟨#[]⟩) 1 16 Tryz.underlying35 hi hz0 hz1 hz2 rfl (by decide) _ _ _ rfl (hO2.out.alloc _) ⟨w2.heap.size, 0, none⟩ 1 1 [.string (V k)] rfl rfl (cell_one_new _ _ _) (fun x hx => by simp at hx; subst hx; rfl) (by unfold maxLen; omega) (by omega) (by have := hB2.size; simp; omega) ?_; intro o' w4 hown4 hgrow4 _)
        go_roundw
        case rel =>
          refine ⟨k + 1, L ++ [V k], by omega, by go_num, Lib.hid ?_, by simp; omega, HN, ?_⟩
          · rw [List.length_append, List.length_singleton, ← strVs_snoc]; exact hown4
          · exact (hB2.alloc hB2.size _).grown hgrow4 (by have := hB2.size; simp; omega) (fun q hq => (hO2.out.lt q hq).1)
        case measure => simp [intOf]; omega
      · have hp1 : ((P k).toList == p.toList) = false := by rw [toList_data, toList_data]; exact beq_eq_false_iff_ne.2 hpe
        have HN : Hid (strTs L = versL ((enF n P V R K Bk).take (k + 1)) p.data.toList) := Lib.hid (by rw [hTk, if_neg hpe, List.append_nil, hT.out])
        clear hcell e1 e2 hT hTk hpe hO
        go_wp2_with fail
        go_roundw
        case rel => exact ⟨k + 1, L, by omega, by go_num, hO2, by omega, HN, hB2⟩
        case measure => simp [intOf]; omega
    · have hT2 : strTs L = versL (enF n P V R K Bk) p.data.toList := by rw [hT.out, show k = n by omega, enF_take_all]
      have hSo := strsAt_own hO.out
      rw [hT2] at hSo
      have hso := verSort_calls ks A _ _ wr (HE.out.below hBr) hSo HSZ.out.1 (fun x hx => by have := HSZ.out.2 x hx; omega)
      have hnk : ¬ (k : Int) < (n : Int) := by omega
      replace hso := Lib.hid hso
      clear hT hT2 hSo hO hlt
      go_wp2_with fail
      refine hso.out.mono ?_
      rintro e w5 ⟨⟨v5, rfl, hv5⟩, hb⟩
      go_wp2_with fail
      go_ret
      exact ⟨⟨_, rfl, hv5⟩, below_step hBr hb⟩
end Go.Proofs.Pw

namespace Go.Proofs.Pw
open Go.Lib hiding intOf
def grow1 (out : List Md) (m : Md) : List Md := if out.getLast?.map (·.1) = some m.1 then out.dropLast ++ [m] else out ++ [m]
def greatest (l : List Md) : List Md := l.foldl grow1 []
structure Great (l out : List Md) : Prop where
  rise : out.Pairwise fun a b => compareBytes a.1 b.1 < 0
  sub : ∀ m ∈ out, m ∈ l
  over : ∀ m ∈ l, ∃ x ∈ out, x.1 = m.1 ∧ verCmp m.2 x.2 ≤ 0
theorem Great.one {l out : List Md} (h : Great l out) {a b : Md} (ha : a ∈ out) (hb : b ∈ out) (e : a.1 = b.1) : a = b := RiseP.unique h.rise ha hb e
theorem Great.mem {l out : List Md} (h : Great l out) (hr : ∀ m ∈ l, mdErr m = 0) (m : Md) : m ∈ out ↔ m ∈ l ∧ ∀ x ∈ l, x.1 = m.1 → verCmp x.2 m.2 ≤ 0 := by
  constructor
  · intro hm
    refine ⟨h.sub m hm, fun x hx e => ?_⟩
    obtain ⟨z, hz, e1, e2⟩ := h.over x hx
    rw [h.one hz hm (e1.trans e)] at e2
    exact e2
  · rintro ⟨hm, h1⟩
    obtain ⟨z, hz, e1, e2⟩ := h.over m hm
    have h2 := h1 z (h.sub z hz) e1
    have h3 : verCmp m.2 z.2 = 0 := by
      have := verCmp_ord.anti z.2 m.2
      have := verCmp_ord.anti m.2 z.2
      omega
    have : m = z := modCmp_zero (hr m hm) (hr z (h.sub z hz)) (by unfold modCmp; rw [orI_eq, e1, compareBytes_self]; exact ⟨rfl, h3⟩)
    rw [this]; exact hz
def hasB (sel : List Md) (m : Md) : Bool := decide (0 ≤ findI (hasP m.1) sel) && !verLess (mdAt sel (findI (hasP m.1) sel).toNat).2 m.2
def underB (a b : List Md) : Bool := a.all (hasB b)
theorem hasB_iff {sel : List Md} {m : Md} : hasB sel m = true ↔ ∃ k : Nat, findI (hasP m.1) sel = k ∧ verLess (mdAt sel k).2 m.2 = false := by
  unfold hasB
  rw [Bool.and_eq_true, decide_eq_true_iff]
  constructor
  · rintro ⟨h1, h2⟩
    exact ⟨(findI (hasP m.1) sel).toNat, by omega, by simpa using h2⟩
  · rintro ⟨k, h1, h2⟩
    rw [h1]
    exact ⟨by omega, by simpa using h2⟩
theorem hasB_rise {sel : List Md} (h : RiseP sel) {m : Md} : hasB sel m = true ↔ ∃ x ∈ sel, x.1 = m.1 ∧ verLess x.2 m.2 = false := by
  rw [hasB_iff]
  constructor
  · rintro ⟨k, h1, h2⟩
    obtain ⟨x, hx, hp⟩ := findI_spec h1
    have hl := (List.getElem?_eq_some_iff.1 hx).1
    rw [mdAt_get hl] at hx
    rw [Option.some.inj hx] at h2
    exact ⟨x, by rw [← Option.some.inj hx]; exact mdAt_mem hl, of_decide_eq_true hp, h2⟩
  · rintro ⟨x, hx, e, h2⟩
    have h0 : ¬ findI (hasP m.1) sel < 0 := fun hn => by
      have := findI_eq_none.1 hn x hx
      unfold hasP at this
      rw [decide_eq_false_iff_not] at this
      exact this e
    refine ⟨(findI (hasP m.1) sel).toNat, by omega, ?_⟩
    obtain ⟨y, hy, hp⟩ := findI_spec (show findI (hasP m.1) sel = ((findI (hasP m.1) sel).toNat : Nat) by omega)
    have hl := (List.getElem?_eq_some_iff.1 hy).1
    have hym := List.mem_of_getElem? hy
    rw [mdAt_get hl] at hy
    rw [Option.some.inj hy, h.unique hym hx ((of_decide_eq_true hp).trans e.symm)]
    exact h2
end Go.Proofs.Pw

namespace Go.Proofs.Pw
open Go.Lib hiding intOf
theorem verLess_of_le {a b : Str} (h : verCmp b a ≤ 0) : verLess a b = false := by
  unfold verLess
  refine decide_eq_false (fun h1 => ?_)
  have := (verCmp_ord.anti a b).1 h1.2.2
  omega
theorem Great.under {l out : List Md} (h : Great l out) : underB l out = true := by
  unfold underB
  rw [List.all_eq_true]
  intro m hm
  obtain ⟨x, hx, e1, e2⟩ := h.over m hm
  rw [hasB_rise h.rise]
  exact ⟨x, hx, e1, verLess_of_le e2⟩
theorem RightG.sub {l : List En} {A B : List Md} (hB : RightG l B) (h : ∀ m ∈ A, Reached l B m) : RightG l A := ⟨hB.idx, fun m hm => hB.entry (h m hm)⟩
end Go.Proofs.Pw

namespace Go.Proofs.Pw
open Go.Lib hiding intOf
theorem ver_v {v : Str} (h : verErr v = 0) : ∃ r, v = 118 :: r := by
  have h1 := ((verErr_zero v).1 h).1
  cases v with
  | nil => simp [hasPrefix] at h1
  | cons c r =>
    simp [hasPrefix] at h1
    exact ⟨r, by rw [h1]⟩
theorem likedF_none {l : List En} {p : Str} {vs : List Str} {b : Bool} : (likedF l p vs b).isNone = decide (vs = []) := by
  unfold likedF
  by_cases h : vs = []
  · subst h
    rfl
  · rw [if_neg (likedL_ne h), decide_eq_false h]
    rfl
theorem bound_of {s v : Str} (hs : s ∈ signs) (hv : verErr v = 0) : qWord (s ++ v) = false ∧ qBound (s ++ v) = some (s, v) := by
  obtain ⟨r, rfl⟩ := ver_v hv
  unfold signs at hs
  simp only [List.mem_cons, List.mem_nil_iff, or_false] at hs
  rcases hs with rfl | rfl | rfl | rfl
  all_goals
    refine ⟨?_, ?_⟩
    · simp [qWord, wLatest, wUpgrade, wPatch, wNone]
    · simp [qBound, signs, boundF, hasPrefix, trimPrefix]
theorem pick_ver {l : List En} {p v now : Str} (h0 : (idxErr l).1 = 0) (hv : verErr v = 0) : qWord v = false ∧ ((pickErr l p v now).1 = 0 ↔ v ∈ vsort (versL l p)) ∧ ((pickErr l p v now).1 = 0 → pickS l p v now = v) := by
  have hw : qWord v = false := by
    obtain ⟨r, rfl⟩ := ver_v hv
    simp [qWord, wLatest, wUpgrade, wPatch, wNone]
  have hb : qBound v = none := by
    obtain ⟨r, rfl⟩ := ver_v hv
    simp [qBound, signs, boundF, hasPrefix]
  have hq : qErr v = 0 := by
    unfold qErr
    rw [hw, hb]
    simp [hv]
  have hpf : pickF l p v now = if v ∈ vsort (versL l p) then some v else none := by
    unfold pickF
    rw [hw, hb]
    simp [hv]
  have hpe : pickErr l p v now = orE (idxErr l) (if (pickF l p v now).isNone then (5, -1) else (0, -1)) := by
    unfold pickErr
    rw [if_neg (by rw [hq]; simp)]
  refine ⟨hw, ?_, fun h => ?_⟩
  · rw [hpe, orE_zero, hpf]
    by_cases hm : v ∈ vsort (versL l p)
    · rw [if_pos hm]; exact ⟨fun _ => hm, fun _ => ⟨h0, rfl⟩⟩
    · rw [if_neg hm]
      exact ⟨fun h => (by cases h.2), fun h => absurd h hm⟩
  · unfold pickS
    rw [if_pos h]
    rw [hpe, orE_zero, hpf] at h
    rw [hpf]
    by_cases hm : v ∈ vsort (versL l p)
    · rw [if_pos hm]; rfl
    · rw [if_neg hm] at h; cases h.2
end Go.Proofs.Pw

namespace Go.Proofs.Pw
open Go.Lib hiding intOf
theorem verMax_some (a b : Str) : verMax a b = [] ∨ verMax a b = a ∨ verMax a b = b := by
  unfold verMax
  split
  · exact .inl rfl
  · split
    · exact .inr (.inr rfl)
    · split
      · exact .inr (.inl rfl)
      · split
        · exact .inr (.inr rfl)
        · exact .inr (.inl rfl)
end Go.Proofs.Pw

namespace Go.Proofs.Pw
open Go.Lib hiding intOf
def holdW (v : Str) : Nat → Str
  | 0 => wLatest
  | 1 => wUpgrade
  | 2 => wPatch
  | 3 => [60] ++ v
  | 4 => [60, 61] ++ v
  | 5 => [62] ++ v
  | 6 => [62, 61] ++ v
  | _ => v
theorem likedF_mem {l : List En} {p : Str} {vs : List Str} {b : Bool} {s : Str} (h : likedF l p vs b = some s) : s ∈ vs := by
  unfold likedF at h
  split at h
  · cases h
  · rename_i h0
    obtain rfl := Option.some.inj h
    cases b with
    | false => exact likedL_sub (lastS_mem h0)
    | true =>
      refine likedL_sub (l := l) (p := p) ?_
      cases hL : likedL l p vs with
      | nil => exact absurd hL h0
      | cons x r => simp
theorem pickE_zero {l : List En} {p q now : Str} (h0 : (idxErr l).1 = 0) (hq : qErr q = 0) : (pickErr l p q now).1 = 0 ↔ ∃ s, pickF l p q now = some s := by
  unfold pickErr
  rw [if_neg (by rw [hq]; simp), orE_zero]
  cases pickF l p q now <;> simp [h0]
theorem pickS_some {l : List En} {p q now s : Str} (h : (pickErr l p q now).1 = 0) (hs : pickF l p q now = some s) : pickS l p q now = s := by
  unfold pickS
  rw [if_pos h, hs]
  rfl
theorem pickS_bad {l : List En} {p q now : Str} (h : (pickErr l p q now).1 ≠ 0) : pickS l p q now = [] := by
  unfold pickS
  rw [if_neg h]
theorem verLess_selfQ {v : Str} : verLess v v = false := verLess_of_le (by rw [verCmp_ord.self]; exact Int.le_refl _)
theorem verMax_not {a b : Str} : verLess (verMax a b) b = false := by
  by_cases ha : verErr a = 0
  · rw [verMax_g ha]
    cases h : verLess a b with
    | true => rw [if_pos rfl, verLess_selfQ]
    | false => rw [if_neg (by simp), h]
  · by_cases hb : verErr b = 0
    · rw [verMax_bg ha hb, verLess_selfQ]
    · unfold verLess
      exact decide_eq_false (fun h => hb h.2.1)
theorem pickF_latest (l : List En) (p now : Str) : pickF l p wLatest now = likedF l p (vsort (versL l p)) false := by
  unfold pickF namedF
  rw [if_pos (by decide), if_neg (by decide), if_neg (by decide)]
  simp [show wLatest ≠ wUpgrade from by decide]
theorem pickF_upgrade (l : List En) (p now : Str) : pickF l p wUpgrade now = (likedF l p (vsort (versL l p)) false).map fun s => verMax s now := by
  unfold pickF namedF
  rw [if_pos (by decide), if_neg (by decide), if_neg (by decide)]
  simp
theorem pickF_patch (l : List En) (p now : Str) : pickF l p wPatch now = patchF l p now (vsort (versL l p)) := by
  unfold pickF namedF
  rw [if_pos (by decide), if_neg (by decide), if_pos rfl]
theorem pickF_bound {l : List En} {p s v now : Str} (hs : s ∈ signs) (hv : verErr v = 0) : pickF l p (s ++ v) now = likedF l p ((vsort (versL l p)).filter fun x => !!withinF s v x) (decide (s.headD 0 = 62)) := by
  obtain ⟨h1, h2⟩ := bound_of hs hv
  unfold pickF
  rw [h1, h2]
  rfl
theorem qErr_bound {s v : Str} (hs : s ∈ signs) (hv : verErr v = 0) : qErr (s ++ v) = 0 := by
  obtain ⟨h1, h2⟩ := bound_of hs hv
  unfold qErr
  rw [h1, h2]
  exact hv
theorem pick_bounded {l : List En} {p s v now : Str} (h0 : (idxErr l).1 = 0) (hs : s ∈ signs) (hv : verErr v = 0) (he : (pickErr l p (s ++ v) now).1 = 0) : pickS l p (s ++ v) now ∈ vsort (versL l p) ∧ withinF s v (pickS l p (s ++ v) now) = true := by
  obtain ⟨x, hx⟩ := (pickE_zero h0 (qErr_bound hs hv)).1 he
  rw [pickS_some he hx]
  rw [pickF_bound hs hv] at hx
  have h2 := List.mem_filter.1 (likedF_mem hx)
  exact ⟨h2.1, by simpa using h2.2⟩
structure HoldP (VL : List Str) (v now : Str) (k e : Nat) (s : Str) : Prop where
  bad : e ≠ 0 → s = []
  all : e ≠ 0 → k < 2 → VL = []
  «in» : e = 0 → k ≠ 1 → s ∈ VL
  up : e = 0 → k = 1 → s = [] ∨ s = now ∨ s ∈ VL
  no : e = 0 → now ∈ VL → k = 1 ∨ k = 2 → verLess s now = false
  lt : e = 0 → k = 3 → verLess s v = true
  le : e = 0 → k = 4 → verLess v s = false
  gt : e = 0 → k = 5 → verLess v s = true
  ge : e = 0 → k = 6 → verLess s v = false
  eq : e = 0 → k = 7 → s = v
theorem patch_in {l : List En} {p now s : Str} (h : patchF l p now (vsort (versL l p)) = some s) : s ∈ vsort (versL l p) ∧ (now ∈ vsort (versL l p) → verLess s now = false) := by
  unfold patchF at h
  by_cases hn : verErr now = 0
  · rw [if_neg (by simp [hn])] at h
    have h2 := List.mem_filter.1 (likedF_mem h)
    refine ⟨h2.1, fun _ => ?_⟩
    have h3 := h2.2
    unfold patchOut at h3
    cases hl : verLess s now with
    | false => rfl
    | true => rw [hl] at h3; simp at h3
  · rw [if_pos hn] at h
    exact ⟨likedF_mem h, fun hm => absurd ((vsort_mem _ _).1 hm).2 hn⟩
theorem vsort_none {l : List En} {p now q : Str} {b : Bool} (h0 : (idxErr l).1 = 0) (hq : qErr q = 0) (hp : (pickF l p q now).isNone = (likedF l p (vsort (versL l p)) b).isNone) (he : (pickErr l p q now).1 ≠ 0) : vsort (versL l p) = [] := by
  have h1 : (pickF l p q now).isNone = true := by
    cases h : pickF l p q now with
    | none => rfl
    | some s => exact absurd ((pickE_zero h0 hq).2 ⟨s, h⟩) he
  rw [hp, likedF_none] at h1
  exact of_decide_eq_true h1
theorem hold_facts {l : List En} {p v now : Str} {k : Nat} (h0 : (idxErr l).1 = 0) (hk : k < 8) (hv : 2 < k → verErr v = 0) : HoldP (vsort (versL l p)) v now k (pickErr l p (holdW v k) now).1 (pickS l p (holdW v k) now) := by
  match k, hk with
  | 0, _ =>
    have hq : qErr wLatest = 0 := by decide
    show HoldP _ v now 0 (pickErr l p wLatest now).1 (pickS l p wLatest now)
    refine ⟨pickS_bad, fun he _ => vsort_none (b := false) h0 hq (by rw [pickF_latest]) he, fun he _ => ?_, by simp, by simp, by simp, by simp, by simp, by simp, by simp⟩
    obtain ⟨x, hx⟩ := (pickE_zero h0 hq).1 he
    rw [pickS_some he hx]
    rw [pickF_latest] at hx
    exact likedF_mem hx
  | 1, _ =>
    have hq : qErr wUpgrade = 0 := by decide
    show HoldP _ v now 1 (pickErr l p wUpgrade now).1 (pickS l p wUpgrade now)
    refine ⟨pickS_bad, fun he _ => vsort_none (b := false) h0 hq (by rw [pickF_upgrade]; cases likedF l p (vsort (versL l p)) false <;> rfl) he, by simp, fun he _ => ?_, fun he _ _ => ?_, by simp, by simp, by simp, by simp, by simp⟩
    all_goals
      obtain ⟨x, hx⟩ := (pickE_zero h0 hq).1 he
      rw [pickS_some he hx]
      rw [pickF_upgrade] at hx
      cases hL : likedF l p (vsort (versL l p)) false with
      | none => rw [hL] at hx; cases hx
      | some y =>
        rw [hL] at hx
        obtain rfl := Option.some.inj hx
        have hy := likedF_mem hL
        first
          | exact verMax_not
          | (rcases verMax_some y now with h | h | h
             · exact .inl h
             · exact .inr (.inr (by show verMax y now ∈ _; rw [h]; exact hy))
             · exact .inr (.inl h))
  | 2, _ =>
    have hq : qErr wPatch = 0 := by decide
    show HoldP _ v now 2 (pickErr l p wPatch now).1 (pickS l p wPatch now)
    refine ⟨pickS_bad, by simp, fun he _ => ?_, by simp, fun he hn _ => ?_, by simp, by simp, by simp, by simp, by simp⟩
    all_goals
      obtain ⟨x, hx⟩ := (pickE_zero h0 hq).1 he
      rw [pickS_some he hx]
      rw [pickF_patch] at hx
      first
        | exact (patch_in hx).1
        | exact (patch_in hx).2 hn
  | 3, _ =>
    have hb := fun he => pick_bounded (l := l) (p := p) (s := [60]) (v := v) (now := now) h0 (by decide) (hv (by decide)) he
    show HoldP _ v now 3 (pickErr l p ([60] ++ v) now).1 (pickS l p ([60] ++ v) now)
    exact ⟨pickS_bad, by simp, fun he _ => (hb he).1, by simp, by simp, fun he _ => (hb he).2, by simp, by simp, by simp, by simp⟩
  | 4, _ =>
    have hb := fun he => pick_bounded (l := l) (p := p) (s := [60, 61]) (v := v) (now := now) h0 (by decide) (hv (by decide)) he
    show HoldP _ v now 4 (pickErr l p ([60, 61] ++ v) now).1 (pickS l p ([60, 61] ++ v) now)
    refine ⟨pickS_bad, by simp, fun he _ => (hb he).1, by simp, by simp, by simp, fun he _ => ?_, by simp, by simp, by simp⟩
    have h2 : (!verLess v (pickS l p ([60, 61] ++ v) now)) = true := (hb he).2
    simpa using h2
  | 5, _ =>
    have hb := fun he => pick_bounded (l := l) (p := p) (s := [62]) (v := v) (now := now) h0 (by decide) (hv (by decide)) he
    show HoldP _ v now 5 (pickErr l p ([62] ++ v) now).1 (pickS l p ([62] ++ v) now)
    exact ⟨pickS_bad, by simp, fun he _ => (hb he).1, by simp, by simp, by simp, by simp, fun he _ => (hb he).2, by simp, by simp⟩
  | 6, _ =>
    have hb := fun he => pick_bounded (l := l) (p := p) (s := [62, 61]) (v := v) (now := now) h0 (by decide) (hv (by decide)) he
    show HoldP _ v now 6 (pickErr l p ([62, 61] ++ v) now).1 (pickS l p ([62, 61] ++ v) now)
    refine ⟨pickS_bad, by simp, fun he _ => (hb he).1, by simp, by simp, by simp, by simp, by simp, fun he _ => ?_, by simp⟩
    have h2 : (!verLess (pickS l p ([62, 61] ++ v) now) v) = true := (hb he).2
    simpa using h2
  | 7, _ =>
    obtain ⟨h1, h2, h3⟩ := pick_ver (l := l) (p := p) (v := v) (now := now) h0 (hv (by decide))
    show HoldP _ v now 7 (pickErr l p v now).1 (pickS l p v now)
    refine ⟨pickS_bad, by simp, fun he _ => ?_, by simp, by simp, by simp, by simp, by simp, by simp, fun he _ => h3 he⟩
    rw [h3 he]
    exact h2.1 he
theorem holdW_len (v : Str) (k : Nat) : (holdW v k).length ≤ v.length + 10 := by
  unfold holdW
  split <;> simp [wLatest, wUpgrade, wPatch] <;> omega
end Go.Proofs.Pw

namespace Go.Proofs.Pw
open Go.RowKit
open Go.Lib hiding intOf
set_option maxHeartbeats 1000000 in
set_option maxRecDepth 100000 in
theorem inTexts_calls (s : ByteArray) (v : Value) (l : List Str) (w : World) (h : StrsAt w v l) (hl : l.length ≤ 1000000) :
    Calls Tryz.prog 31 #[.string s, v] w fun e w' => e = .returned (.bool (decide (s.data.toList ∈ l))) ∧ Below w.heap.size w w' := by
  obtain ⟨a, n, cap, L, rfl, rfl, hnc, hcap, hc⟩ := h
  rw [lstF_length] at hl
  replace hc := Lib.hid hc
  go_enter Tryz.func31, Tryz.ntmps31
  go_wp2_with fail
  go_loopw [5] (fun i wr => ∃ k : Nat, k ≤ n ∧ i = .int .i64 k ∧ Below w.heap.size w wr ∧ Hid (∀ j, j < k → (L j).data.toList ≠ s.data.toList)) (fun i _ => n - (intOf i).toNat)
  case atStart => exact ⟨0, Nat.zero_le _, rfl, Below.refl _ _, Lib.hid (fun j hj => absurd hj (Nat.not_lt_zero _))⟩
  case round =>
    obtain ⟨k, hk, rfl, hB, HA⟩ := hrel
    by_cases hlt : k < n
    · have hkn : (k : Int) < (n : Int) := by omega
      obtain ⟨b1, o1, ea, c0⟩ := hc.out k hlt
      replace c0 := Below.cell_some hB c0
      subst ea
      have hwk := wrap_nat (k + 1) (by omega)
      by_cases he : (L k).data.toList = s.data.toList
      · have HF : Hid (decide (s.data.toList ∈ lstF n L) = true) := Lib.hid (decide_eq_true (lstF_mem'.2 ⟨k, hlt, he⟩))
        have q1 : ((L k).toList == s.toList) = true := by rw [toList_data, toList_data, he]; simp
        clear he hwk
        go_wp2_with fail
        go_ret
        rw [HF.out]
        exact ⟨rfl, hB⟩
      · have HN : Hid (∀ j, j < k + 1 → (L j).data.toList ≠ s.data.toList) := Lib.hid (fun j hj => by
          by_cases e : j = k
          · subst e; exact he
          · exact HA.out j (by omega))
        have q1 : ((L k).toList == s.toList) = false := by rw [toList_data, toList_data]; exact beq_eq_false_iff_ne.2 he
        clear he hwk
        go_wp2_with fail
        go_roundw
        case rel => exact ⟨k + 1, by omega, by go_num, hB, HN⟩
        case measure => simp [intOf]; omega
    · have HF : Hid (decide (s.data.toList ∈ lstF n L) = false) := Lib.hid (decide_eq_false (fun h => by
        obtain ⟨j, hj, e⟩ := lstF_mem'.1 h
        exact HA.out j (by omega) e))
      have hkn : ¬ (k : Int) < (n : Int) := by omega
      go_wp2_with fail
      go_ret
      rw [HF.out]
      exact ⟨rfl, hB⟩
end Go.Proofs.Pw
