/- St: walks and plain laws, joined: SumOf PkgEntries SumAll AppM SlModK SlIns SlDelM SlCat Great Mvs OnesMath SumLawMath. Conditions: at each theorem. -/
import Derived.Test.YtglhgbcebpeomaaGreatDoorSto
import Derived.Test.YtglhgbcebpeomaaGreatDoorStq
import Derived.Test.YtglhgbcebpeomaaGreatDoorStj
import Derived.Test.YtglhgbcebpeomaaGreatDoorStr
import Derived.Test.YtglhgbcebpeomaaGreatDoorStn
import Derived.Test.YtglhgbcebpeomaaGreatDoorStm
import Derived.Test.YtglhgbcebpeomaaGreatDoorStk
import Derived.Test.YtglhgbcebpeomaaGreatDoorStl
import Derived.Deep.RegionHeld2
import Derived.Deep.Upon
import Derived.Laws.CopyRow
import Derived.Laws.CopyOwn
import Derived.Lib.Overlaps
import Derived.Lib.AppendZerosOnto
import Derived.Lib.SliceRun
import Derived.Deep.RegionLaw
import Derived.Deep.AppendLies
import Derived.Shelf.RegionOpenPlain
import Derived.Shelf.Spec.SlicesGrow

namespace Go.Proofs.Pw
open Go.RowKit
open Go.Lib hiding intOf
theorem ent_alloc (w : World) (p v : ByteArray) (rv kv : Value) (bk : Bool) (t : TypeId) : EntC (w.alloc (.cells #[.string p, .string v, rv, kv, .bool bk] t)) w.heap.size 0 p v rv kv bk := ⟨by simp, by simp, by simp, by simp, by simp⟩
structure SumIn (R : List Md) (K : List Str) : Prop where
  r : R.length ≤ 10000
  rs : ∀ m ∈ R, m.1.length ≤ 1000000 ∧ m.2.length ≤ 1000000
  k : K.length ≤ 10000
  ks : ∀ s ∈ K, s.length ≤ 1000000
theorem SumIn.mt {R : List Md} {K : List Str} (h : SumIn R K) (k : Nat) : (mtLs (R.take k)).length ≤ 20000020000 := by
  have h1 := mtLs_len 1000000 (R.take k) fun m hm => h.rs m (List.mem_of_mem_take hm)
  have h2 : (R.take k).length ≤ 10000 := by rw [List.length_take]; have := h.r; omega
  have := Nat.mul_le_mul_right (2 * 1000000 + 2) h2
  omega
theorem SumIn.pk {R : List Md} {K : List Str} (h : SumIn R K) (k : Nat) : (pkLs (K.take k)).length ≤ 10000020000 := by
  have h1 := pkLs_len 1000000 (K.take k) fun m hm => h.ks m (List.mem_of_mem_take hm)
  have h2 : (K.take k).length ≤ 10000 := by rw [List.length_take]; have := h.k; omega
  have := Nat.mul_le_mul_right (1000000 + 2) h2
  omega
theorem mk_size (l : Str) : (⟨l.toArray⟩ : ByteArray).size = l.length := by rw [size_eq]
theorem mdF_at_len {n : Nat} {P V : Nat → ByteArray} {j : Nat} (h : ∀ m ∈ mdF n P V, m.1.length ≤ 1000000 ∧ m.2.length ≤ 1000000) (hj : j < n) : (P j).size ≤ 1000000 ∧ (V j).size ≤ 1000000 := by
  have := h _ (List.mem_of_getElem? (mdF_get n P V j hj))
  rw [size_eq, size_eq]; exact this
theorem lstF_at_len {n : Nat} {L : Nat → ByteArray} {j : Nat} (h : ∀ s ∈ lstF n L, s.length ≤ 1000000) (hj : j < n) : (L j).size ≤ 1000000 := by
  have := h _ (List.mem_of_getElem? (lstF_get n L j hj))
  rw [size_eq]; exact this
theorem mtF_succ {n : Nat} {P V : Nat → ByteArray} {k : Nat} (h : k < n) : mtLs ((mdF n P V).take (k + 1)) = mtLs ((mdF n P V).take k) ++ mtL ((P k).data.toList, (V k).data.toList) := by
  rw [mdF_take_succ n P V k h, mtLs_snoc]
theorem pkF_succ {n : Nat} {L : Nat → ByteArray} {k : Nat} (h : k < n) : pkLs ((lstF n L).take (k + 1)) = pkLs ((lstF n L).take k) ++ pkL (L k).data.toList := by
  rw [List.take_add_one, lstF_get n L k h]
  exact pkLs_snoc _ _
set_option maxHeartbeats 4000000 in
set_option maxRecDepth 100000 in
theorem sumsOf_calls (ks : List Nat) (A : Nat → Addr) (h4 : 4 ∈ ks) (p v : ByteArray) (rv kv : Value) (bk : Bool) (R : List Md) (K : List Str) (w : World) (hE : EnvP ks A w) (hr : ModsAt w rv R) (hk : StrsAt w kv K) (hp : p.size ≤ 1000000) (hv : v.size ≤ 1000000) (hs : SumIn R K) :
    Calls Tryz.prog 13 #[.agg #[.string p, .string v, rv, kv, .bool bk]] w fun e w' => e = .returned (.int .u32 (sumOf ⟨(p.data.toList, v.data.toList), R, K, bk⟩ : Nat)) ∧ Below w.heap.size w w' := by
  have hmt := fun p v W hW h1 h2 => modText_calls ks A h4 p v W hW h1 h2
  obtain ⟨a, n, cap, P, V, rfl, rfl, hn1, hn2, hc1⟩ := id hr
  obtain ⟨a2, m, cap2, L, rfl, rfl, hm1, hm2, hc2⟩ := id hk
  have hB := below_alloc w (.cells #[.string p, .string v, .slice a n cap, .slice a2 m cap2, .bool bk] 37)
  have hz := ent_alloc w p v (.slice a n cap) (.slice a2 m cap2) bk 37
  have hsz : (w.alloc (.cells #[.string p, .string v, .slice a n cap, .slice a2 m cap2, .bool bk] 37)).heap.size = w.heap.size + 1 := by simp
  obtain ⟨w1, hW⟩ : ∃ W, w.alloc (.cells #[.string p, .string v, .slice a n cap, .slice a2 m cap2, .bool bk] 37) = W := ⟨_, rfl⟩
  rw [hW] at hB hz hsz
  have HS := Lib.hid hs
  have HC1 := Lib.hid hc1
  have HC2 := Lib.hid hc2
  have hn := HS.out.r
  have hm := HS.out.k
  rw [mdF_length] at hn
  rw [lstF_length] at hm
  have HT := Lib.hid (show sumTxt ⟨(p.data.toList, v.data.toList), mdF n P V, lstF m L, bk⟩ = mtL (p.data.toList, v.data.toList) ++ mtLs (mdF n P V) ++ pkLs (lstF m L) ++ (if bk then [45] else []) from rfl)
  have HF := Lib.hid (show sumOf ⟨(p.data.toList, v.data.toList), mdF n P V, lstF m L, bk⟩ = crcF (sumTxt ⟨(p.data.toList, v.data.toList), mdF n P V, lstF m L, bk⟩) from rfl)
  obtain ⟨T, hT⟩ : ∃ T, sumTxt ⟨(p.data.toList, v.data.toList), mdF n P V, lstF m L, bk⟩ = T := ⟨_, rfl⟩
  obtain ⟨F, hF⟩ : ∃ F, sumOf ⟨(p.data.toList, v.data.toList), mdF n P V, lstF m L, bk⟩ = F := ⟨_, rfl⟩
  rw [hT] at HT HF
  rw [hF] at HF ⊢
  have hba0 := bAt_new w1
  have hBb := below_alloc w1 (.cells #[.pointer none, .slice none 0 0] 100)
  have hE1 := hE.below hB
  have HE := fun W (hb : Below w1.heap.size w1 W) => hE1.below hb
  have hx := hmt p v _ (HE _ hBb) (by omega) (by omega)
  have hl0 := mdText_len (p.data.toList, v.data.toList)
  rw [show mdText (p.data.toList, v.data.toList) = modText p.data.toList v.data.toList from rfl] at hl0
  simp only [← size_eq] at hl0
  have HM := Lib.hid (show mtL (p.data.toList, v.data.toList) = modText p.data.toList v.data.toList ++ [10] from rfl)
  generalize modText p.data.toList v.data.toList = t0 at hx hl0 HM
  replace hx := Lib.hid hx
  replace hmt := Lib.hid hmt
  replace HE := Lib.hid HE
  clear hE hE1 hr hk hs hc1 hc2 hT hF
  obtain ⟨z0, z1, _, _, _⟩ := hz.below hBb
  go_enter Tryz.func13, Tryz.ntmps13
  go_wp2_with fail
  clear hW z0 z1
  simp only [← hsz]
  clear hsz
  refine hx.out.mono ?_
  rintro e w2 ⟨rfl, hb2⟩
  have hB2 := below_step hBb hb2
  have hba := hba0.below hb2
  have hl1 : (⟨t0.toArray⟩ : ByteArray).size ≤ 2000001 := by rw [mk_size]; omega
  have hws := writeS_calls w1.heap.size w1.heap.size [] (⟨t0.toArray⟩ ++ ⟨#[10]⟩) w2 hba (by rw [app_size]; show 0 + (_ + 1) ≤ _; omega) hB2.size
  rw [show ([] : Str) ++ ((⟨t0.toArray⟩ : ByteArray) ++ ⟨#[10]⟩).data.toList = mtL (p.data.toList, v.data.toList) by rw [app_by, HM.out]; rfl] at hws
  have hl2 : (mtL (p.data.toList, v.data.toList)).length ≤ 2000002 := by rw [HM.out, List.length_append]; rw [mk_size] at hl1; simp; omega
  obtain ⟨pre, hpre⟩ : ∃ q, mtL (p.data.toList, v.data.toList) = q := ⟨_, rfl⟩
  have HPNE : Hid (pre ≠ []) := Lib.hid (by rw [← hpre, HM.out]; simp)
  rw [hpre] at hws hl2 HT
  replace hws := Lib.hid hws
  clear hx hba0 hBb hb2 hba HM hpre
  go_wp2_with fail
  refine hws.out.mono ?_
  rintro e w3 ⟨rfl, hba, hb3⟩
  replace hB2 := hB2.trans hb3
  have hz3 := hz.below hB2
  obtain ⟨c0, c1, c2, c3, c4⟩ := id hz3
  clear hws hb3 hl0 hl1
  go_wp2_with fail
  clear hz3 c0 c1 c2 c3 c4
  go_loopw [16] (fun i wr => ∃ k : Nat, k ≤ n ∧ i = .int .i64 k ∧ BAt w1.heap.size w1.heap.size (pre ++ mtLs ((mdF n P V).take k)) wr ∧ Below w1.heap.size w1 wr) (fun i _ => n - (intOf i).toNat)
  case atStart => exact ⟨0, Nat.zero_le _, rfl, by rw [List.take_zero]; simpa [mtLs] using hba, hB2⟩
  case round =>
    obtain ⟨k, hk, rfl, hbr, hBr⟩ := hrel
    by_cases hlt : k < n
    · have hki : (k : Int) < (n : Int) := by omega
      obtain ⟨b1, o1, ea, d0, d1⟩ := HC1.out k hlt
      have hps := mdF_at_len HS.out.rs hlt
      subst ea
      replace d0 := Below.cell_some hBr (Below.cell_some hB d0)
      replace d1 := Below.cell_some hBr (Below.cell_some hB d1)
      have hba2 := below_alloc wr (.cells #[.string (P k), .string (V k)] 29)
      have hz2 := box2_alloc wr (.string (P k)) (.string (V k)) 29
      have hBa := below_step hBr hba2
      have hx := hmt.out (P k) (V k) _ (HE.out _ hBa) (by omega) (by omega)
      have hl0 := mdText_len ((P k).data.toList, (V k).data.toList)
      rw [show mdText ((P k).data.toList, (V k).data.toList) = modText (P k).data.toList (V k).data.toList from rfl] at hl0
      simp only [← size_eq] at hl0
      have HM := Lib.hid (show mtL ((P k).data.toList, (V k).data.toList) = modText (P k).data.toList (V k).data.toList ++ [10] from rfl)
      generalize modText (P k).data.toList (V k).data.toList = t1 at hx hl0 HM
      have hbb := hbr.below hba2
      have hsl := HS.out.mt k
      have hsu : pre ++ mtLs ((mdF n P V).take (k + 1)) = pre ++ mtLs ((mdF n P V).take k) ++ mtL ((P k).data.toList, (V k).data.toList) := by
        rw [mtF_succ hlt, List.append_assoc]
      have HSU := Lib.hid hsu
      replace hx := Lib.hid hx
      obtain ⟨y0, y1, _⟩ := id hz2
      clear hsu hba hbr hz2
      go_wp2_with fail
      refine hx.out.mono ?_
      rintro e w4 ⟨rfl, hb4⟩
      have hB4 := below_step hBa hb4
      have hba4 := hbb.below hb4
      have hl1 : (⟨t1.toArray⟩ : ByteArray).size ≤ 2000001 := by rw [mk_size]; omega
      have hws := writeS_calls w1.heap.size w1.heap.size (pre ++ mtLs ((mdF n P V).take k)) (⟨t1.toArray⟩ ++ ⟨#[10]⟩) w4 hba4 (by rw [app_size, List.length_append]; show _ + (_ + 1) ≤ _; omega) hB4.size
      rw [show pre ++ mtLs ((mdF n P V).take k) ++ ((⟨t1.toArray⟩ : ByteArray) ++ ⟨#[10]⟩).data.toList = pre ++ mtLs ((mdF n P V).take (k + 1)) by rw [HSU.out, app_by, HM.out]] at hws
      have hq1 : ¬ 9223372036854775807 < t1.length + 1 := by rw [mk_size] at hl1; omega
      replace hws := Lib.hid hws
      clear hx hbb hba4 hb4 hl0 hba2 hBa y0 y1 hsl
      go_wp2_with fail
      refine hws.out.mono ?_
      rintro e w5 ⟨rfl, hba, hb5⟩
      clear d0 d1 hws
      go_wp2_with fail
      go_roundw
      case rel => exact ⟨k + 1, by omega, by go_num, hba, hB4.trans hb5⟩
      case measure => simp [intOf]; omega
    · obtain rfl : k = n := by omega
      rw [mdF_take_all] at hbr
      have hki : ¬ (k : Int) < (k : Int) := by omega
      have hsl := HS.out.mt k
      rw [mdF_take_all] at hsl
      generalize mtLs (mdF k P V) = Rt at hbr HT hsl
      obtain ⟨c0, c1, c2, c3, c4⟩ := hz.below hBr
      clear hba hB2 hlt hk
      go_wp2_with fail
      clear c0 c1 c2 c3 c4
      have hB6 := hBr
      have hba6 := hbr
      clear hBr hbr
      go_loopw [28] (fun i wr => ∃ j : Nat, j ≤ m ∧ i = .int .i64 j ∧ BAt w1.heap.size w1.heap.size (pre ++ Rt ++ pkLs ((lstF m L).take j)) wr ∧ Below w1.heap.size w1 wr) (fun i _ => m - (intOf i).toNat)
      case atStart => exact ⟨0, Nat.zero_le _, rfl, by rw [List.take_zero]; simpa [pkLs] using hba6, hB6⟩
      case round =>
        obtain ⟨j, hj, rfl, hbr, hBr⟩ := hrel
        by_cases hlt : j < m
        · have hki : (j : Int) < (m : Int) := by omega
          obtain ⟨b1, o1, ea, d0⟩ := HC2.out j hlt
          have hps := lstF_at_len HS.out.ks hlt
          subst ea
          replace d0 := Below.cell_some hBr (Below.cell_some hB d0)
          have hsp := HS.out.pk j
          have hsu : pre ++ Rt ++ pkLs ((lstF m L).take (j + 1)) = pre ++ Rt ++ pkLs ((lstF m L).take j) ++ pkL (L j).data.toList := by
            rw [pkF_succ hlt, ← List.append_assoc]
          have hws := writeS_calls w1.heap.size w1.heap.size (pre ++ Rt ++ pkLs ((lstF m L).take j)) (⟨#[47]⟩ ++ L j ++ ⟨#[10]⟩) wr hbr (by rw [app_size, app_size, List.length_append, List.length_append]; show _ + (1 + _ + 1) ≤ _; omega) hBr.size
          rw [show pre ++ Rt ++ pkLs ((lstF m L).take j) ++ ((⟨#[47]⟩ : ByteArray) ++ L j ++ ⟨#[10]⟩).data.toList = pre ++ Rt ++ pkLs ((lstF m L).take (j + 1)) by rw [hsu, app_by, app_by]; rfl] at hws
          have hq1 : ¬ 9223372036854775807 < 1 + (L j).size := by omega
          have hq2 : ¬ 9223372036854775807 < 1 + (L j).size + 1 := by omega
          replace hws := Lib.hid hws
          clear hba6 hbr hsp hsu hsl
          go_wp2_with fail
          refine hws.out.mono ?_
          rintro e w5 ⟨rfl, hba, hb5⟩
          clear d0 hws
          go_wp2_with fail
          go_roundw
          case rel => exact ⟨j + 1, by omega, by go_num, hba, hBr.trans hb5⟩
          case measure => simp [intOf]; omega
        · obtain rfl : j = m := by omega
          have hki : ¬ (j : Int) < (j : Int) := by omega
          have hsp := HS.out.pk j
          rw [List.take_of_length_le (by rw [lstF_length]; exact Nat.le_refl _)] at hbr hsp
          generalize pkLs (lstF j L) = Kt at hbr HT hsp
          obtain ⟨c0, c1, c2, c3, c4⟩ := hz.below hBr
          clear hba6 hB6 hlt hj
          cases bk with
          | true =>
            have hws := writeS_calls w1.heap.size w1.heap.size (pre ++ Rt ++ Kt) ⟨#[45]⟩ wr hbr (by rw [List.length_append, List.length_append]; show _ + 1 ≤ _; omega) hBr.size
            rw [show pre ++ Rt ++ Kt ++ (⟨#[45]⟩ : ByteArray).data.toList = T by rw [HT.out]; rfl] at hws
            have hTl : T.length ≤ 4000000000000 := by rw [HT.out]; simp only [List.length_append, if_true]; simp; omega
            have HTN : Hid (T ≠ []) := Lib.hid (by rw [HT.out]; intro h; simp at h)
            replace hws := Lib.hid hws
            clear hbr hsp hsl HT
            go_wp2_with fail
            refine hws.out.mono ?_
            rintro e w5 ⟨rfl, hba, hb5⟩
            have hst := stringB_calls w1.heap.size w1.heap.size T w5 hba HTN.out
            replace hBr := hBr.trans hb5
            replace hst := Lib.hid hst
            clear hba hb5 hws c0 c1 c2 c3 c4
            go_wp2_with fail
            refine hst.out.mono ?_
            rintro e w6 ⟨rfl, hb6⟩
            have hcr := crc_calls ⟨T.toArray⟩ w6 (by rw [mk_size]; exact hTl)
            rw [show crcF (⟨T.toArray⟩ : ByteArray).data.toList = F from HF.out.symm] at hcr
            replace hBr := hBr.trans hb6
            replace hcr := Lib.hid hcr
            clear hst hb6
            go_wp2_with fail
            refine hcr.out.mono ?_
            rintro e w' ⟨rfl, rfl⟩
            go_wp2_with fail
            go_ret
            exact ⟨rfl, below_step hB hBr⟩
          | false =>
            have hTe : pre ++ Rt ++ Kt = T := by rw [HT.out]; simp
            rw [hTe] at hbr
            have hTl : T.length ≤ 4000000000000 := by rw [← hTe]; simp only [List.length_append]; omega
            have hst := stringB_calls w1.heap.size w1.heap.size T wr hbr (by rw [← hTe]; intro h; simp at h; exact HPNE.out h.1)
            replace hst := Lib.hid hst
            clear hbr hsp hsl HT hTe
            go_wp2_with fail
            refine hst.out.mono ?_
            rintro e w6 ⟨rfl, hb6⟩
            have hcr := crc_calls ⟨T.toArray⟩ w6 (by rw [mk_size]; exact hTl)
            rw [show crcF (⟨T.toArray⟩ : ByteArray).data.toList = F from HF.out.symm] at hcr
            replace hBr := hBr.trans hb6
            replace hcr := Lib.hid hcr
            clear hst hb6 c0 c1 c2 c3 c4
            go_wp2_with fail
            refine hcr.out.mono ?_
            rintro e w' ⟨rfl, rfl⟩
            go_wp2_with fail
            go_ret
            exact ⟨rfl, below_step hB hBr⟩
end Go.Proofs.Pw

namespace Go.Proofs.Pw
open Go.RowKit
open Go.Lib hiding intOf
end Go.Proofs.Pw

namespace Go.Proofs.Pw
open Go.RowKit
open Go.Lib hiding intOf
theorem sumIn_of {l : List En} (h : (idxErr l).1 = 0) (hs : ShortI l) {e : En} (he : e ∈ l) : SumIn e.reqs e.packs := by
  have hR := rightI_of h
  refine ⟨?_, (hs.reqs e he).2, ?_, (hs.packs e he).2⟩
  · have h1 := hR.reqs e he
    unfold reqsErr at h1
    by_cases h2 : 20 < e.reqs.length
    · rw [if_pos h2] at h1; cases h1
    · omega
  · have h1 := hR.packs e he
    unfold packsErr at h1
    by_cases h2 : 10 < e.packs.length
    · rw [if_pos h2] at h1; cases h1
    · omega
def sumPair (l : List En) (m : Md) : Ln := (m, sumOf (entOf l m))
theorem sumsL_ok {l : List En} {S : List Md} (h : (allErr l S).1 = 0) : sumsL l S = S.map (sumPair l) := by
  unfold sumsL
  rw [if_pos h]; rfl
theorem sumsL_bad {l : List En} {S : List Md} (h : (allErr l S).1 ≠ 0) : sumsL l S = [] := by
  unfold sumsL
  rw [if_neg h]
theorem mapF_succ {α : Type} {n : Nat} {P V : Nat → ByteArray} (f : Md → α) {k : Nat} (h : k < n) : ((mdF n P V).take (k + 1)).map f = ((mdF n P V).take k).map f ++ [f ((P k).data.toList, (V k).data.toList)] := by
  rw [mdF_take_succ n P V k h, List.map_append]; rfl
def SumsOut (A : Nat → Addr) (l : List En) (sel : List Md) (w : World) (e : Ending) (w' : World) : Prop :=
  (∃ v ev T, e = .returned (.tuple #[v, ev]) ∧ w'.ownsRow w.heap.size 64 3 v T.length (lnVs .u32 T) ∧ lnTs T = sumsL l sel ∧ FaultAt A w' ev (allErr l sel)) ∧ Below w.heap.size w w'
set_option maxHeartbeats 8000000 in
set_option maxRecDepth 100000 in
theorem sumsAll_in (ks : List Nat) (A : Nat → Addr) (hks : IdxKs ks) (a : Option Addr) (n cap : Nat) (P V : Nat → ByteArray) (R : Nat → List Md) (K : Nat → List Str) (B : Nat → Bool) (Rv Kv : Nat → Value) (sv : Value) (sel : List Md) (l : List En) (hle : enF n P V R K B = l) (w : World) (hE : EnvP ks A w) (h : EntsIn w a n cap P V R K B Rv Kv) (hs : ShortI l) (hr : ModsAt w sv sel) (hl : sel.length ≤ 1000000) :
    Calls Tryz.prog 15 #[.slice a n cap, sv] w (SumsOut A l sel w) := by
  obtain ⟨i0, hi, hz0, hz1, hz2⟩ := info_parts Tryz.infoLine
  obtain ⟨a2, m, cap2, Q, U, rfl, rfl, hmc, hcap2, hc2⟩ := hr
  rw [mdF_length] at hl
  have hn : n ≤ 1000000 := by have := hs.len; rw [← hle, enF_length] at this; exact this
  have hck := idxCheck_in ks A hks a n cap P V R K B Rv Kv w hE h (by rw [hle]; exact hs)
  have hfo := fun (p v : ByteArray) (W : World) (hb : Below w.heap.size w W) => idxFind_in a n cap P V R K B Rv Kv p v W (h.below hb) hn
  have HAT : Hid (∀ j, j < n → enAt l j = ⟨((P j).data.toList, (V j).data.toList), R j, K j, B j⟩) := Lib.hid (fun j hj => by rw [← hle, enAt_enF hj])
  have HLN : Hid (l.length = n) := Lib.hid (by rw [← hle, enF_length])
  have HSZ : Hid (∀ j, j < n → (P j).size ≤ 1000000 ∧ (V j).size ≤ 1000000) := Lib.hid (fun j hj => by rw [← hle] at hs; exact ⟨(hs.at_ hj).2.1, (hs.at_ hj).2.2.1⟩)
  simp only [hle] at hck hfo
  have HFE : Hid (rootsErr l (mdF m Q U) = firstE (rootE l (mdF m Q U)) m) := Lib.hid (by unfold rootsErr; rw [mdF_length])
  have HOE : Hid (allErr l (mdF m Q U) = orE (idxErr l) (rootsErr l (mdF m Q U))) := Lib.hid rfl
  have HSH := Lib.hid hs
  have H := Lib.hid h
  replace hc2 := Lib.hid hc2
  replace hfo := Lib.hid hfo
  replace hck := Lib.hid hck
  clear h hs hle
  go_enter Tryz.func15, Tryz.ntmps15
  go_wp2_with fail
  refine hck.out.mono ?_
  rintro e w2 ⟨⟨ev, rfl, hf⟩, hB⟩
  clear hck
  rcases fault_form hf with ⟨h0, rfl⟩ | ⟨h0, ty, qq, rfl⟩
  · have HF1 : Hid (allErr l (mdF m Q U) = rootsErr l (mdF m Q U)) := Lib.hid (by rw [HOE.out]; unfold orE; rw [if_neg (by simp [h0])])
    have HSI : Hid (∀ j, j < n → SumIn (R j) (K j)) := Lib.hid (fun j hj => by
      have h1 := sumIn_of h0 HSH.out (enAt_mem (l := l) (i := j) (by rw [HLN.out]; exact hj))
      rw [HAT.out j hj] at h1
      exact h1)
    have hof := fun (x : Nat) (hx : x < n) (W : World) (hb : Below w.heap.size w W) => sumsOf_calls ks A hks.2.1 (P x) (V x) (Rv x) (Kv x) (B x) (R x) (K x) W (hE.below hb) ((H.out.below hb).reqs x hx) ((H.out.below hb).packs x hx) (HSZ.out x hx).1 (HSZ.out x hx).2 (HSI.out x hx)
    replace hof := Lib.hid hof
    clear hf h0
    go_wp2_with fail
    go_loopw [7, 18] (fun o i wr => ∃ (k : Nat) (T : List LnB), k ≤ m ∧ i = .int .i64 k ∧ Hid (wr.ownsRow w.heap.size 64 3 o T.length (lnVs .u32 T)) ∧ T.length = k ∧ Hid (lnTs T = ((mdF m Q U).take k).map (sumPair l)) ∧ Below w.heap.size w wr ∧ Hid (∀ j, j < k → rootE l (mdF m Q U) j = 0)) (fun _ i _ => m - (intOf i).toNat)
    case atStart => exact ⟨0, [], Nat.zero_le _, rfl, Lib.hid (World.ownsRow_nil _ _ _ _), rfl, Lib.hid rfl, hB, Lib.hid (fun j hj => absurd hj (Nat.not_lt_zero _))⟩
    case round =>
      obtain ⟨k, T, hk, rfl, hO, hTk, hT, hBr, HA⟩ := hrel
      by_cases hlt : k < m
      · obtain ⟨ao, no, co, rfl⟩ := own_form hO.out
        have hkn : (k : Int) < (m : Int) := by omega
        obtain ⟨b1, o1, ea, c0, c1⟩ := hc2.out k hlt
        replace c0 := Below.cell_some hBr c0
        replace c1 := Below.cell_some hBr c1
        subst ea
        have hba := below_alloc wr (.cells #[.string (Q k), .string (U k)] 29)
        obtain ⟨y0, y1, _⟩ := box2_alloc wr (.string (Q k)) (.string (U k)) 29
        have hB2 := below_step hBr hba
        have hO2 := Lib.hid (hO.out.below hba)
        have hf := hfo.out (Q k) (U k) _ hB2
        have hR : rootE l (mdF m Q U) k = if findE l ((Q k).data.toList, (U k).data.toList) < 0 then 5 else 0 := by
          unfold rootE
          rw [mdAt_mdF hlt]
        obtain ⟨x, hx0⟩ : ∃ x, findE l ((Q k).data.toList, (U k).data.toList) = x := ⟨_, rfl⟩
        rw [hx0] at hf hR
        have HX0 := Lib.hid hx0
        clear hx0
        by_cases hx : x < 0
        · rw [if_pos hx] at hR
          have HF : Hid (allErr l (mdF m Q U) = (5, (k : Int))) := Lib.hid (by rw [HF1.out, HFE.out, firstE_hit (by rw [hR]; decide) HA.out hlt, hR])
          replace hf := Lib.hid hf
          clear hR hO hO2 hk hTk
          go_wp2_with fail
          refine hf.out.mono ?_
          rintro e w8 ⟨rfl, hb8⟩
          have hE8 := (hE.below hB2).below hb8
          have g5 := hE8.errs.var 5 hks.2.2.1
          simp only [errG] at g5
          go_wp2_with fail
          go_region
          all_goals
            go_wp2_with fail
            go_ret2
            unfold SumsOut
            rw [sumsL_bad (by rw [HF.out]; exact (show (5 : Nat) ≠ 0 by decide)), HF.out]
            refine ⟨⟨_, _, [], rfl, World.ownsRow_nil _ _ _ _, rfl, .inr (.inr ⟨(show (5 : Nat) ≠ 0 by decide), w8.heap.size, rfl, by simp, ?_⟩)⟩, (below_step hB2 hb8).drew.alloc (below_step hB2 hb8).size _⟩
            show _ = some (errV A 5)
            rw [errV_pos A (show (5 : Nat) ≠ 0 by decide)]
            simp
        · rw [if_neg hx] at hR
          have HN : Hid (∀ j, j < k + 1 → rootE l (mdF m Q U) j = 0) := Lib.hid (fun j hj => by
            by_cases e : j = k
            · subst e; exact hR
            · exact HA.out j (by omega))
          obtain ⟨q, rfl, hq, hqm⟩ : ∃ q : Nat, x = q ∧ q < n ∧ enAt l q = ⟨((P q).data.toList, (V q).data.toList), R q, K q, B q⟩ := by
            obtain ⟨q, e1, e2, _⟩ := findE_nat (l := l) (m := ((Q k).data.toList, (U k).data.toList)) (by rw [HX0.out]; exact hx)
            rw [HLN.out] at e2
            exact ⟨q, by rw [← HX0.out, e1], e2, HAT.out q e2⟩
          have hq' : ¬ ((q : Nat) : Int) < 0 := by omega
          have hqn : ((q : Nat) : Int) < (n : Int) := by omega
          obtain ⟨a1, n1, s1, aK, nK, cK, e1, e2⟩ := H.out.forms2 hq
          have hof1 := hof.out q hq
          have HEN : Hid (entOf l ((Q k).data.toList, (U k).data.toList) = ⟨((P q).data.toList, (V q).data.toList), R q, K q, B q⟩) := Lib.hid (by unfold entOf; rw [HX0.out]; exact hqm)
          obtain ⟨S, hS⟩ : ∃ S, sumOf ⟨((P q).data.toList, (V q).data.toList), R q, K q, B q⟩ = S := ⟨_, rfl⟩
          rw [hS] at hof1
          simp only [e1, e2] at hof1
          have HTN : Hid (lnTs (T ++ [(Q k, U k, S)]) = ((mdF m Q U).take (k + 1)).map (sumPair l)) := Lib.hid (by
            rw [lnTs_snoc, hT.out, mapF_succ _ hlt]
            unfold sumPair
            rw [HEN.out, hS])
          replace hf := Lib.hid hf
          replace hof1 := Lib.hid hof1
          clear hR hx HEN hS hqm hT
          go_wp2_with fail
          refine hf.out.mono ?_
          rintro e w8 ⟨rfl, hb8⟩
          have hO8 := Lib.hid (hO2.out.below hb8)
          have hB8 := below_step hB2 hb8
          replace y0 := Below.cell_some hb8 y0
          replace y1 := Below.cell_some hb8 y1
          obtain ⟨b3, o3, ea, hcell⟩ := (H.out.below hB8).at_ q hq
          have hb3 : b3 < w.heap.size := by
            obtain ⟨b4, o4, ea4, hc4⟩ := H.out.at_ q hq
            rw [ea] at ea4
            injection ea4 with ea4
            injection ea4 with ea4 _
            rw [ea4]
            exact lt_of_cell hc4.c0
          rw [e1, e2] at hcell
          subst ea
          have HCE := Lib.hid hcell
          have HY := Lib.hid (And.intro y0 y1)
          have hbW := (Below.refl w8.heap.size w8).drew
          have HB8 := Lib.hid hB8
          have hs8 := hB8.size
          have held : ∀ W, Below w8.heap.size w8 W → (W.cell? ⟨wr.heap.size, 0, none⟩ = some (.string (Q k)) ∧ W.cell? ⟨wr.heap.size, 1, none⟩ = some (.string (U k)) ∧ W.cell? ⟨b3, o3 + q * 5, none⟩ = some (.string (P q)) ∧ W.cell? ⟨b3, o3 + q * 5 + 1, none⟩ = some (.string (V q)) ∧ W.cell? ⟨b3, o3 + q * 5 + 2, none⟩ = some (.slice a1 n1 s1) ∧ W.cell? ⟨b3, o3 + q * 5 + 3, none⟩ = some (.slice aK nK cK) ∧ W.cell? ⟨b3, o3 + q * 5 + 4, none⟩ = some (.bool (B q))) := fun W hW =>
            ⟨Below.cell_some hW HY.out.1, Below.cell_some hW HY.out.2, (HCE.out.below hW).c0, (HCE.out.below hW).c1, (HCE.out.below hW).c2, (HCE.out.below hW).c3, (HCE.out.below hW).c4⟩
          have HKP : Hid (∀ W W' : World, W.grownBy W' (Value.slice ao no co).ownBlock → (W.cell? ⟨wr.heap.size, 0, none⟩ = some (.string (Q k)) ∧ W.cell? ⟨wr.heap.size, 1, none⟩ = some (.string (U k)) ∧ W.cell? ⟨b3, o3 + q * 5, none⟩ = some (.string (P q)) ∧ W.cell? ⟨b3, o3 + q * 5 + 1, none⟩ = some (.string (V q)) ∧ W.cell? ⟨b3, o3 + q * 5 + 2, none⟩ = some (.slice a1 n1 s1) ∧ W.cell? ⟨b3, o3 + q * 5 + 3, none⟩ = some (.slice aK nK cK) ∧ W.cell? ⟨b3, o3 + q * 5 + 4, none⟩ = some (.bool (B q))) → (W'.cell? ⟨wr.heap.size, 0, none⟩ = some (.string (Q k)) ∧ W'.cell? ⟨wr.heap.size, 1, none⟩ = some (.string (U k)) ∧ W'.cell? ⟨b3, o3 + q * 5, none⟩ = some (.string (P q)) ∧ W'.cell? ⟨b3, o3 + q * 5 + 1, none⟩ = some (.string (V q)) ∧ W'.cell? ⟨b3, o3 + q * 5 + 2, none⟩ = some (.slice a1 n1 s1) ∧ W'.cell? ⟨b3, o3 + q * 5 + 3, none⟩ = some (.slice aK nK cK) ∧ W'.cell? ⟨b3, o3 + q * 5 + 4, none⟩ = some (.bool (B q)))) := Lib.hid (fun W W' hg ⟨k0, k1, k2, k3, k4, k5, k6⟩ => by
            have n1 : some wr.heap.size ≠ (Value.slice ao no co).ownBlock := fun e => by have := (hO.out.lt _ e.symm).2; omega
            have n2 : some b3 ≠ (Value.slice ao no co).ownBlock := fun e => by have := (hO.out.lt _ e.symm).1; omega
            exact ⟨grown_cell hg k0 n1, grown_cell hg k1 n1, grown_cell hg k2 n2, grown_cell hg k3 n2, grown_cell hg k4 n2, grown_cell hg k5 n2, grown_cell hg k6 n2⟩)
          clear hf e1 e2 hO2 hb8 hO y0 y1 c0 c1 hba hB2 hcell hBr hB8
          go_wp2_with fail
          go_region_held2 (fun W => (W.cell? ⟨wr.heap.size, 0, none⟩ = some (.string (Q k)) ∧ W.cell? ⟨wr.heap.size, 1, none⟩ = some (.string (U k)) ∧ W.cell? ⟨b3, o3 + q * 5, none⟩ = some (.string (P q)) ∧ W.cell? ⟨b3, o3 + q * 5 + 1, none⟩ = some (.string (V q)) ∧ W.cell? ⟨b3, o3 + q * 5 + 2, none⟩ = some (.slice a1 n1 s1) ∧ W.cell? ⟨b3, o3 + q * 5 + 3, none⟩ = some (.slice aK nK cK) ∧ W.cell? ⟨b3, o3 + q * 5 + 4, none⟩ = some (.bool (B q)))) (first | exact hK | exact held _ (hbW.alloc hbW.size _) | exact held _ hbW) (first
            | (go_at_call 13; refine (hof1.out _ (below_step HB8.out hbW)).mono ?_; rintro e w9 ⟨rfl, hb9⟩; replace hbW := below_step hbW hb9)
            | (refine step_append_lies _ rfl (.tmp 33) (.tmp 41) 39 rfl w.heap.size 64 i0 (.agg #[.string ⟨#[]⟩, .string ⟨#[]⟩, .int .u32 0]) 3 40 Tryz.underlying39 hi hz0 hz1 hz2 rfl (by decide) (.slice ao no co) T.length (lnVs .u32 T) (by simp [Act.eval]) ((hO8.out.below hbW).alloc _) ⟨w9.heap.size, 0, none⟩ 1 1 [.string (Q k), .string (U k), .int .u32 S] (by simp [Act.eval]) rfl (cell_ln_new w9 _ _ _ _ _) (fun u hu => by simp at hu; rcases hu with rfl | rfl | rfl <;> rfl) (by decide) (by unfold maxLen; omega) (by omega) (by have := hbW.size; simp; omega) _ rfl ?_; intro g7 c7 w10 hown7 hgrow7 hg7 hl7; have hbX := (below_step HB8.out (hbW.alloc hbW.size _)).grown hgrow7 (by have := hbW.size; simp; omega) (fun q hq => ((hO8.out.lt q hq).1)); have hK := HKP.out _ _ hgrow7 (held _ (hbW.alloc hbW.size _))))
          all_goals
            go_wp2_with fail
            go_roundw
            case rel =>
              refine ⟨k + 1, T ++ [(Q k, U k, S)], by omega, by go_num, Lib.hid ?_, by simp; omega, HTN, hbX, HN⟩
              rw [List.length_append, List.length_singleton, ← lnVs_snoc]
              rw [hTk] at hown7 ⊢
              exact hown7
            case measure => simp [intOf]; omega
      · obtain rfl : m = k := by omega
        have HF : Hid (allErr l (mdF m Q U) = (0, -1)) := Lib.hid (by rw [HF1.out, HFE.out, firstE_none HA.out])
        have HS : Hid (lnTs T = sumsL l (mdF m Q U)) := Lib.hid (by rw [sumsL_ok (by rw [HF.out]), hT.out, mdF_take_all])
        obtain ⟨ao, no, co, rfl⟩ := own_form hO.out
        clear hT hTk
        go_wp2_with fail
        go_ret2
        unfold SumsOut
        rw [HF.out]
        exact ⟨⟨_, _, T, rfl, hO.out, HS.out, .inl ⟨rfl, rfl, rfl⟩⟩, hBr⟩
  · have HF1 : Hid (allErr l (mdF m Q U) = idxErr l) := Lib.hid (by rw [HOE.out]; unfold orE; rw [if_pos (by simp [h0])])
    have HN0 := Lib.hid h0
    have HV := Lib.hid hf
    clear hf h0
    go_wp2_with fail
    go_ret2
    unfold SumsOut
    rw [sumsL_bad (by rw [HF1.out]; exact HN0.out), HF1.out]
    exact ⟨⟨_, _, [], rfl, World.ownsRow_nil _ _ _ _, rfl, HV.out⟩, hB⟩
end Go.Proofs.Pw

namespace Go.Proofs.Pw
open Go.RowKit
open Go.Lib hiding intOf
end Go.Proofs.Pw

namespace Go.Proofs.Pw
open Go.RowKit
open Go.Lib hiding intOf
theorem ModsAt.grownBy {w w' : World} {v : Value} {l : List Md} {r : Option Nat} (h : ModsAt w v l) (hg : w.grownBy w' r) (hr : ∀ q n m, v = .slice (some q) n m → some q.block ≠ r) : ModsAt w' v l := by
  obtain ⟨a, n, cap, P, V, rfl, h2, h3, h4, h5⟩ := h
  refine ⟨a, n, cap, P, V, rfl, h2, h3, h4, fun j hj => ?_⟩
  obtain ⟨b, o, rfl, e1, e2⟩ := h5 j hj
  have hb : some b ≠ r := hr _ _ _ rfl
  exact ⟨b, o, rfl, hg.cell e1 hb, hg.cell e2 hb⟩
end Go.Proofs.Pw

namespace Go.Proofs.Pw
open Go.RowKit
open Go.Lib hiding intOf
end Go.Proofs.Pw

namespace Go.Proofs.Pw
open Go.RowKit
open Go.Lib hiding intOf
end Go.Proofs.Pw

namespace Go.Proofs.Pw
open Go.RowKit
open Go.Lib hiding intOf
end Go.Proofs.Pw

namespace Go.Proofs.Pw
open Go.RowKit
open Go.Lib hiding intOf
end Go.Proofs.Pw

namespace Go.Proofs.Pw
open Go.RowKit
open Go.Lib hiding intOf
end Go.Proofs.Pw

namespace Go.Proofs.Pw
open Go.Lib hiding intOf
theorem sel_five {l : List En} {S : List Md} {p : Str} (hr : S.Pairwise fun a b => compareBytes a.1 b.1 < 0) (he : ∀ m ∈ S, ∃ e ∈ l, e.md = m) (hm : ∀ m ∈ S, pathErr m.1 = 0) : (S.filter (selHas l p)).length ≤ 5 := by
  refine pair_len (f := fun m => m.1.count 47) (n := 5) (fun x hx => ?_) ?_
  · have := pathErr_count (hm x (List.mem_filter.1 hx).1)
    show x.1.count 47 < 5
    omega
  · refine (List.Pairwise.sublist List.filter_sublist hr).imp_of_mem fun {a b} ha hb h => ?_
    have ha2 := List.mem_filter.1 ha
    have hb2 := List.mem_filter.1 hb
    have e1 := (entOf_md (he a ha2.1)).1
    have e2 := (entOf_md (he b hb2.1)).1
    have h1 := hasK_head (show hasK (entOf l a) p = true from ha2.2)
    have h2 := hasK_head (show hasK (entOf l b) p = true from hb2.2)
    rw [e1] at h1
    rw [e2] at h2
    obtain ⟨r, e3⟩ := ahead_of h1 h2 h
    show a.1.count 47 < b.1.count 47
    rw [e3, List.count_append, List.count_cons_self]
    omega
structure Sel (l : List En) (S : List Md) : Prop where
  idx : RightI l
  zero : (idxErr l).1 = 0
  rise : S.Pairwise fun a b => compareBytes a.1 b.1 < 0
  at_ : ∀ m ∈ S, ∃ e ∈ l, e.md = m
namespace Sel
variable {l : List En} {S : List Md}
theorem path (h : Sel l S) {m : Md} (hm : m ∈ S) : pathErr m.1 = 0 := by
  obtain ⟨e, he, h1⟩ := h.at_ m hm
  have := (modErr_zero (h.idx.mds e he)).1
  rwa [h1] at this
theorem five (h : Sel l S) (p : Str) : (S.filter (selHas l p)).length ≤ 5 := sel_five h.rise h.at_ fun _ hm => h.path hm
theorem roots (h : Sel l S) : rootsErr l S = (0, -1) := firstE_none (firstE_zero (rootsErr_zero.2 h.at_))
theorem all (h : Sel l S) : allErr l S = (0, -1) := by
  unfold allErr
  rw [h.roots]
  unfold orE
  rw [if_neg (by simp [h.zero])]
theorem len (h : Sel l S) : S.length ≤ l.length := by
  have h1 : (S.map (·.1)).Nodup := by
    unfold List.Nodup
    rw [List.pairwise_map]
    exact h.rise.imp fun hlt e => by
      rw [e, compareBytes_ord.self] at hlt
      exact absurd hlt (by decide)
  have h2 : S.map (·.1) ⊆ l.map (·.md.1) := fun x hx => by
    obtain ⟨m, hm, rfl⟩ := List.mem_map.1 hx
    obtain ⟨e, he, rfl⟩ := h.at_ m hm
    exact List.mem_map.2 ⟨e, he, rfl⟩
  have := List.Nodup.length_le_of_subset h1 h2
  rwa [List.length_map, List.length_map] at this
end Sel
end Go.Proofs.Pw

namespace Go.Proofs.Pw
open Go.Lib hiding intOf
theorem findL_in {h : List Ln} {m : Md} (hm : ∃ x ∈ h, x.1 = m) : ¬ findL h m < 0 := fun h1 => by
  obtain ⟨x, hx, e⟩ := hm
  have := findI_eq_none.1 h1 x hx
  unfold isLn at this
  exact absurd e (of_decide_eq_false this)
theorem lnAt_mem {l : List Ln} {i : Nat} (h : i < l.length) : lnAt l i ∈ l := List.mem_of_getElem? (lnAt_get h)
def TrueLn (l : List En) (h : List Ln) : Prop := ∀ x ∈ h, x.2 = sumOf (entOf l x.1)
theorem verE_true {l : List En} {S : List Md} {h : List Ln} (hT : TrueLn l h) {j : Nat} (hm : ∃ x ∈ h, x.1 = mdAt S j) : verE l S h j = 0 := by
  unfold verE
  have h1 := findL_in hm
  rw [if_neg h1]
  obtain ⟨k, e1, e2, e3⟩ := findL_nat h1
  rw [e1, Int.toNat_natCast, if_neg]
  intro hne
  exact hne (by rw [hT _ (lnAt_mem e2), e3])
theorem true_sums (l : List En) (S : List Md) : TrueLn l (S.map (sumPair l)) := fun x hx => by
  obtain ⟨m, _, rfl⟩ := List.mem_map.1 hx
  rfl
theorem verify_self {l : List En} {S : List Md} (h0 : (allErr l S).1 = 0) : verifyErr l S (S.map (sumPair l)) = (0, -1) := by
  unfold verifyErr orE
  rw [if_neg (by simp [h0])]
  exact firstE_none fun j hj => verE_true (true_sums l S) ⟨sumPair l (mdAt S j), List.mem_map.2 ⟨_, mdAt_mem hj, rfl⟩, rfl⟩
theorem mdsOf_sums (l : List En) (S : List Md) : mdsOf (S.map (sumPair l)) = S := by
  unfold mdsOf
  rw [List.map_map]
  exact List.map_id' S
namespace Sel
variable {l : List En} {S : List Md}
theorem md (h : Sel l S) {m : Md} (hm : m ∈ S) : mdErr m = 0 := by
  obtain ⟨e, he, h1⟩ := h.at_ m hm
  have := h.idx.mds e he
  rwa [h1] at this
theorem lines (h : Sel l S) : linesErr (S.map (sumPair l)) = (0, -1) := by
  unfold linesErr
  rw [mdsOf_sums]
  refine firstE_none fun j hj => ?_
  rw [List.length_map] at hj
  unfold excE
  rw [if_neg (by rw [h.md (mdAt_mem hj)]; simp), if_neg]
  rintro ⟨h0, hf⟩
  have hlt : compareBytes (mdAt S (j - 1)).1 (mdAt S j).1 < 0 := by
    have h1 := mdAt_get (l := S) (i := j - 1) (by omega)
    have h2 := mdAt_get (l := S) (i := j) hj
    rw [List.getElem?_eq_getElem (by omega)] at h1 h2
    rw [← Option.some.inj h1, ← Option.some.inj h2]
    exact List.pairwise_iff_getElem.1 h.rise _ _ _ _ (by omega)
  unfold modAhead at hf
  rw [decide_eq_true hlt] at hf
  cases hf
end Sel
end Go.Proofs.Pw
