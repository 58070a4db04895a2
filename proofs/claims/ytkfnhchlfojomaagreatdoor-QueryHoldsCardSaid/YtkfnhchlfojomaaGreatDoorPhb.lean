/- Ph: walks and plain laws, joined: QHolds. Conditions: at each theorem. -/
import Derived.Test.YtkfnhchlfojomaaGreatDoorPfa
import Derived.Test.YtkfnhchlfojomaaGreatDoorPfb
import Derived.Test.YtkfnhchlfojomaaGreatDoorPfc
import Derived.Test.YtkfnhchlfojomaaGreatDoorPfd
import Derived.Test.YtkfnhchlfojomaaGreatDoorPfe
import Derived.Test.YtkfnhchlfojomaaGreatDoorPff
import Derived.Test.YtkfnhchlfojomaaGreatDoorPfg
import Derived.Test.YtkfnhchlfojomaaGreatDoorPfh
import Derived.Test.YtkfnhchlfojomaaGreatDoorPfi
import Derived.Test.YtkfnhchlfojomaaGreatDoorPfj
import Derived.Test.YtkfnhchlfojomaaGreatDoorPfk
import Derived.Test.YtkfnhchlfojomaaGreatDoorPfl
import Derived.Test.YtkfnhchlfojomaaGreatDoorPfm
import Derived.Test.YtkfnhchlfojomaaGreatDoorPfn
import Derived.Test.YtkfnhchlfojomaaGreatDoorPfo
import Derived.Test.YtkfnhchlfojomaaGreatDoorPfp
import Derived.Test.YtkfnhchlfojomaaGreatDoorPfq
import Derived.Test.YtkfnhchlfojomaaGreatDoorPfr
import Derived.Test.YtkfnhchlfojomaaGreatDoorPfs
import Derived.Test.YtkfnhchlfojomaaGreatDoorPft
import Derived.Test.YtkfnhchlfojomaaGreatDoorPfu
import Derived.Test.YtkfnhchlfojomaaGreatDoorPfv
import Derived.Test.YtkfnhchlfojomaaGreatDoorPfw
import Derived.Test.YtkfnhchlfojomaaGreatDoorPfx
import Derived.Test.YtkfnhchlfojomaaGreatDoorPfy
import Derived.Test.YtkfnhchlfojomaaGreatDoorPfz
import Derived.Test.YtkfnhchlfojomaaGreatDoorPfza
import Derived.Test.YtkfnhchlfojomaaGreatDoorPfzb
import Derived.Test.YtkfnhchlfojomaaGreatDoorPfzc
import Derived.Test.YtkfnhchlfojomaaGreatDoorPfzd
import Derived.Test.YtkfnhchlfojomaaGreatDoorPfze
import Derived.Test.YtkfnhchlfojomaaGreatDoorPfzf
import Derived.Test.YtkfnhchlfojomaaGreatDoorPfzg
import Derived.Test.YtkfnhchlfojomaaGreatDoorPha

namespace Go.Proofs.Pw
open Go.RowKit Go.Sort
open Go.Lib hiding intOf
theorem StrsAt.cellsQ {w : World} {x : Value} {l : List Str} (h : StrsAt w x l) : ∃ a n c L, x = .slice a n c ∧ l = lstF n L ∧ ∀ W, Below w.heap.size w W → ∀ j, j < n → ∃ b o, a = some ⟨b, o, none⟩ ∧ W.cell? ⟨b, o + j, none⟩ = some (.string (L j)) := by
  obtain ⟨a, n, c, L, e1, e2, _, _, h5⟩ := h
  exact ⟨a, n, c, L, e1, e2, fun W hW j hj => let ⟨b, o, e, c0⟩ := h5 j hj; ⟨b, o, e, Below.cell_some hW c0⟩⟩
def holdB (v : ByteArray) : Nat → ByteArray
  | 0 => ⟨#[108, 97, 116, 101, 115, 116]⟩
  | 1 => ⟨#[117, 112, 103, 114, 97, 100, 101]⟩
  | 2 => ⟨#[112, 97, 116, 99, 104]⟩
  | 3 => ⟨#[60]⟩ ++ v
  | 4 => ⟨#[60, 61]⟩ ++ v
  | 5 => ⟨#[62]⟩ ++ v
  | 6 => ⟨#[62, 61]⟩ ++ v
  | _ => v
theorem app_byQ (a b : ByteArray) : (a ++ b).data.toList = a.data.toList ++ b.data.toList := by rw [ByteArray.data_append, Array.toList_append]
theorem holdB_data (v : ByteArray) : ∀ k : Nat, (holdB v k).data.toList = holdW v.data.toList k
  | 0 => rfl
  | 1 => rfl
  | 2 => rfl
  | 3 => app_byQ _ _
  | 4 => app_byQ _ _
  | 5 => app_byQ _ _
  | 6 => app_byQ _ _
  | _ + 7 => rfl
structure QhArgs (ks : List Nat) (A : Nat → Addr) (la : Option Addr) (ln lc : Nat) (P V : Nat → ByteArray) (R : Nat → List Md) (K : Nat → List Str) (Bk : Nat → Bool) (Rv Kv : Nat → Value) (w : World) : Prop where
  idx : IdxKs ks
  env : EnvP ks A w
  l : EntsIn w la ln lc P V R K Bk Rv Kv
set_option maxHeartbeats 4000000 in
set_option maxRecDepth 100000 in
theorem qHolds_long (ks : List Nat) (A : Nat → Addr) (la : Option Addr) (ln lc : Nat) (P V : Nat → ByteArray) (R : Nat → List Md) (K : Nat → List Str) (Bk : Nat → Bool) (Rv Kv : Nat → Value) (p v now : ByteArray) (w : World) (H : QhArgs ks A la ln lc P V R K Bk Rv Kv w)
    (hlong : longIdx (enF ln P V R K Bk) = true ∨ (longIdx (enF ln P V R K Bk) = false ∧ (30 < ln ∨ (ln ≤ 30 ∧ (70 < p.size ∨ (p.size ≤ 70 ∧ (50 < v.size ∨ (v.size ≤ 50 ∧ 60 < now.size)))))))) :
    Calls Tryz.prog 4 #[.slice la ln lc, .string p, .string v, .string now] w fun e w' => e = .returned (.bool true) ∧ Below w.heap.size w w' := by
  have hre := picked_calls ks A H.idx w H.env
  have hlx := fun (W : World) (hb : Below w.heap.size w W) => longIndex_in la ln lc P V R K Bk Rv Kv W (H.l.below hb)
  replace hre := Lib.hid hre
  replace hlx := Lib.hid hlx
  clear H
  rcases hlong with h1 | ⟨h1, h2 | ⟨h2, h3 | ⟨h3, h4 | ⟨h4, h5⟩⟩⟩⟩
  · rw [longII_yes h1] at hlx
    clear h1
    go_enter Tryz.func4, Tryz.ntmps4
    go_wp2_with fail
    refine hre.out.mono ?_
    rintro e w1 ⟨rfl, hB⟩
    go_wp2_with fail
    refine (hlx.out _ hB).mono ?_
    rintro e w' ⟨rfl, rfl⟩
    clear hlx hre
    go_wp2_with fail
    go_ret
    exact ⟨rfl, hB⟩
  · rw [longII_no h1] at hlx
    have h2' : (30 : Int) < (ln : Int) := by omega
    clear h1
    go_enter Tryz.func4, Tryz.ntmps4
    go_wp2_with fail
    refine hre.out.mono ?_
    rintro e w1 ⟨rfl, hB⟩
    go_wp2_with fail
    refine (hlx.out _ hB).mono ?_
    rintro e w' ⟨rfl, rfl⟩
    clear hlx hre
    go_wp2_with fail
    go_ret
    exact ⟨rfl, hB⟩
  · rw [longII_no h1] at hlx
    have h2' : ¬ (30 : Int) < (ln : Int) := by omega
    have h3' : decide ((70 : Int) < (p.size : Int)) = true := decide_eq_true (by omega)
    clear h1
    go_enter Tryz.func4, Tryz.ntmps4
    go_wp2_with fail
    refine hre.out.mono ?_
    rintro e w1 ⟨rfl, hB⟩
    go_wp2_with fail
    refine (hlx.out _ hB).mono ?_
    rintro e w' ⟨rfl, rfl⟩
    clear hlx hre
    go_wp2_with fail
    go_ret
    exact ⟨rfl, hB⟩
  · rw [longII_no h1] at hlx
    have h2' : ¬ (30 : Int) < (ln : Int) := by omega
    have h3' : decide ((70 : Int) < (p.size : Int)) = false := decide_eq_false (by omega)
    have h4' : decide ((50 : Int) < (v.size : Int)) = true := decide_eq_true (by omega)
    clear h1
    go_enter Tryz.func4, Tryz.ntmps4
    go_wp2_with fail
    refine hre.out.mono ?_
    rintro e w1 ⟨rfl, hB⟩
    go_wp2_with fail
    refine (hlx.out _ hB).mono ?_
    rintro e w' ⟨rfl, rfl⟩
    clear hlx hre
    go_wp2_with fail
    go_ret
    exact ⟨rfl, hB⟩
  · rw [longII_no h1] at hlx
    have h2' : ¬ (30 : Int) < (ln : Int) := by omega
    have h3' : decide ((70 : Int) < (p.size : Int)) = false := decide_eq_false (by omega)
    have h4' : decide ((50 : Int) < (v.size : Int)) = false := decide_eq_false (by omega)
    have h5' : decide ((60 : Int) < (now.size : Int)) = true := decide_eq_true (by omega)
    clear h1
    go_enter Tryz.func4, Tryz.ntmps4
    go_wp2_with fail
    refine hre.out.mono ?_
    rintro e w1 ⟨rfl, hB⟩
    go_wp2_with fail
    refine (hlx.out _ hB).mono ?_
    rintro e w' ⟨rfl, rfl⟩
    clear hlx hre
    go_wp2_with fail
    go_ret
    exact ⟨rfl, hB⟩
set_option maxHeartbeats 16000000 in
set_option maxRecDepth 100000 in
theorem qHolds_main (ks : List Nat) (A : Nat → Addr) (la : Option Addr) (ln lc : Nat) (P V : Nat → ByteArray) (R : Nat → List Md) (K : Nat → List Str) (Bk : Nat → Bool) (Rv Kv : Nat → Value) (p v now : ByteArray) (w : World) (H : QhArgs ks A la ln lc P V R K Bk Rv Kv w)
    (h1 : longIdx (enF ln P V R K Bk) = false) (h2 : ln ≤ 30) (h3 : p.size ≤ 70) (h4 : v.size ≤ 50) (h5 : now.size ≤ 60) :
    Calls Tryz.prog 4 #[.slice la ln lc, .string p, .string v, .string now] w fun e w' => e = .returned (.bool true) ∧ Below w.heap.size w w' := by
  have hre := picked_calls ks A H.idx w H.env
  have hlx := fun (W : World) (hb : Below w.heap.size w W) => longIndex_in la ln lc P V R K Bk Rv Kv W (H.l.below hb)
  have hsi := longIdx_short h1
  have hsm := longIdx_small h1
  have h2' : ¬ (30 : Int) < (ln : Int) := by omega
  have h3' : decide ((70 : Int) < (p.size : Int)) = false := decide_eq_false (by omega)
  have h4' : decide ((50 : Int) < (v.size : Int)) = false := decide_eq_false (by omega)
  have h5' : decide ((60 : Int) < (now.size : Int)) = false := decide_eq_false (by omega)
  have HH := Lib.hid H
  have how := fun (W : World) (hb : Below w.heap.size w W) => ownIndex_calls (.slice la ln lc) (enF ln P V R K Bk) W ⟨la, ln, lc, P, V, R, K, Bk, Rv, Kv, rfl, rfl, HH.out.l.below hb⟩ (by have := hsm.1; omega) (fun e he => by
    have h4 := longEn_small (hsm.2 e he)
    have h5 := longMods_small h4.2.2.1
    exact ⟨by omega, by omega⟩)
  have hE := fun (W : World) (hb : Below w.heap.size w W) => HH.out.env.below hb
  rw [longII_no h1] at hlx
  have HSI := Lib.hid hsi
  have HI := Lib.hid HH.out.idx
  have HVZ : Hid (v.size ≤ 50 ∧ now.size ≤ 60) := Lib.hid ⟨h4, h5⟩
  replace hre := Lib.hid hre
  replace hlx := Lib.hid hlx
  replace how := Lib.hid how
  replace hE := Lib.hid hE
  clear h1 hsi hsm H h2 h3 h4 h5
  go_enter Tryz.func4, Tryz.ntmps4
  go_wp2_with fail
  refine hre.out.mono ?_
  rintro e w1 ⟨rfl, hB⟩
  go_wp2_with fail
  refine (hlx.out _ hB).mono ?_
  rintro e w' ⟨rfl, rfl⟩
  clear hlx hre
  go_wp2_with fail
  clear h2' h3' h4' h5'
  refine (how.out _ hB).mono ?_
  rintro e w2 ⟨⟨ov, rfl, hOE⟩, hb⟩
  replace hB := below_step hB hb
  obtain ⟨oa, on, oc, P', V', R', K', B', Rv', Kv', rfl, hOl, hO⟩ := hOE
  rw [hOl] at HSI
  have HO := Lib.hid hO
  clear hO hb how hOl HH
  have hck := idxCheck_in ks A HI.out oa on oc P' V' R' K' B' Rv' Kv' w2 (hE.out _ hB) HO.out HSI.out
  have hE2 := fun W (hc : Below w2.heap.size w2 W) => hE.out W (below_step hB hc)
  have hvs := fun W hc => idxVersions_in ks A oa on oc P' V' R' K' B' Rv' Kv' p W (hE2 W hc) (HO.out.below hc) HSI.out
  have hpi := fun (q : ByteArray) (hq : q.size ≤ 1000000) W hc => qPick_in ks A HI.out oa on oc P' V' R' K' B' Rv' Kv' p q now W (hE2 W hc) (HO.out.below hc) HSI.out hq (by have := HVZ.out.2; omega)
  obtain ⟨l, hl⟩ : ∃ l, enF on P' V' R' K' B' = l := ⟨_, rfl⟩
  simp only [hl] at hck hvs hpi HSI
  replace hck := Lib.hid hck
  replace hvs := Lib.hid hvs
  replace hpi := Lib.hid hpi
  replace hE2 := Lib.hid hE2
  clear hl
  go_wp2_with fail
  refine hck.out.mono ?_
  rintro e w3 ⟨⟨ev3, rfl, hf3⟩, hb⟩
  have hC := hb
  clear hb hck
  rcases fault_form hf3 with ⟨h0, rfl⟩ | ⟨h0, ty, q, rfl⟩
  · have HX0 := Lib.hid h0
    clear hf3 h0
    go_wp2_with fail
    refine (hvs.out _ hC).mono ?_
    rintro e w6 ⟨⟨v6, rfl, hs6⟩, hb⟩
    replace hC := below_step hC hb
    have HSV := Lib.hid hs6
    have hsz := versL_size (l := l) (p := p.data.toList) HSI.out
    have hvl : (vsort (versL l p.data.toList)).length ≤ 1000000 := Nat.le_trans (vsort_len _) hsz.1
    have HVS : Hid (∀ x ∈ vsort (versL l p.data.toList), x.length ≤ 1000000) := Lib.hid (fun x hx => hsz.2 x ((vsort_mem _ _).1 hx).1)
    obtain ⟨a6, m6, c6, L6, rfl, e6, hc6⟩ := hs6.cellsQ
    have hin := fun (s : ByteArray) W hc => inTexts_calls s _ _ W (HSV.out.below hc) hvl
    have HVN : Hid (m6 = (vsort (versL l p.data.toList)).length) := Lib.hid (by rw [e6, lstF_length])
    have HHF := Lib.hid (fun k hk hv => hold_facts (l := l) (p := p.data.toList) (v := v.data.toList) (now := now.data.toList) (k := k) HX0.out hk hv)
    have hvz := HVZ.out
    have hck2 := fun (W : World) (hb : Below w2.heap.size w2 W) => verCheck_calls ks A v W (hE2.out W hb) (by omega)
    have hlsn := fun (s : ByteArray) (hs : s.size ≤ 1000000) (W : World) (hb : Below w2.heap.size w2 W) => verLess_calls ks A s now W (hE2.out W hb) (by omega) (by omega)
    have hlsv := fun (s : ByteArray) (hs : s.size ≤ 1000000) (W : World) (hb : Below w2.heap.size w2 W) => verLess_calls ks A s v W (hE2.out W hb) (by omega) (by omega)
    have hlvs := fun (s : ByteArray) (hs : s.size ≤ 1000000) (W : World) (hb : Below w2.heap.size w2 W) => verLess_calls ks A v s W (hE2.out W hb) (by omega) (by omega)
    generalize vsort (versL l p.data.toList) = VL at *
    have hin1 := hin now
    have HDN := Lib.hid (show decide (now.data.toList ∈ VL) = true ↔ now.data.toList ∈ VL from decide_eq_true_iff)
    generalize decide (now.data.toList ∈ VL) = HERE at hin1 HDN
    replace hin := Lib.hid hin
    replace hin1 := Lib.hid hin1
    replace hck2 := Lib.hid hck2
    replace hlsn := Lib.hid hlsn
    replace hlsv := Lib.hid hlsv
    replace hlvs := Lib.hid hlvs
    clear hb hvs hs6 hc6 e6 hsz
    go_wp2_with fail
    refine (hin1.out _ (Below.refl _ _)).mono ?_
    rintro e w7 ⟨rfl, hb⟩
    replace hC := below_step hC hb
    have HC67 := Lib.hid hb
    have hv1 : v.size ≤ 50 := hvz.1
    clear hb hin1
    -- LOOP
    go_wp2_with fail
    have hcw : ∀ k, k < 8 → (w7.alloc (.cells #[.string (⟨#[108, 97, 116, 101, 115, 116]⟩), .string (⟨#[117, 112, 103, 114, 97, 100, 101]⟩), .string (⟨#[112, 97, 116, 99, 104]⟩), .string (⟨#[60]⟩ ++ v), .string (⟨#[60, 61]⟩ ++ v), .string (⟨#[62]⟩ ++ v), .string (⟨#[62, 61]⟩ ++ v), .string v] 9)).cell? ⟨w7.heap.size, k, none⟩ = some (.string (holdB v k)) := fun k hk => by
      have h := fun c u h => new_cell w7 [.string (⟨#[108, 97, 116, 101, 115, 116]⟩), .string (⟨#[117, 112, 103, 114, 97, 100, 101]⟩), .string (⟨#[112, 97, 116, 99, 104]⟩), .string (⟨#[60]⟩ ++ v), .string (⟨#[60, 61]⟩ ++ v), .string (⟨#[62]⟩ ++ v), .string (⟨#[62, 61]⟩ ++ v), .string v] 9 rfl (c := c) (u := u) h
      match k, hk with
      | 0, _ => exact h 0 _ rfl
      | 1, _ => exact h 1 _ rfl
      | 2, _ => exact h 2 _ rfl
      | 3, _ => exact h 3 _ rfl
      | 4, _ => exact h 4 _ rfl
      | 5, _ => exact h 5 _ rfl
      | 6, _ => exact h 6 _ rfl
      | 7, _ => exact h 7 _ rfl
    have hba := below_alloc w7 (.cells #[.string (⟨#[108, 97, 116, 101, 115, 116]⟩), .string (⟨#[117, 112, 103, 114, 97, 100, 101]⟩), .string (⟨#[112, 97, 116, 99, 104]⟩), .string (⟨#[60]⟩ ++ v), .string (⟨#[60, 61]⟩ ++ v), .string (⟨#[62]⟩ ++ v), .string (⟨#[62, 61]⟩ ++ v), .string v] 9)
    have HC8 := Lib.hid (below_step hC hba)
    have HD8 := Lib.hid (below_step HC67.out hba)
    have HCW := Lib.hid hcw
    clear hcw hba hC HC67
    generalize w7.alloc (.cells #[.string (⟨#[108, 97, 116, 101, 115, 116]⟩), .string (⟨#[117, 112, 103, 114, 97, 100, 101]⟩), .string (⟨#[112, 97, 116, 99, 104]⟩), .string (⟨#[60]⟩ ++ v), .string (⟨#[60, 61]⟩ ++ v), .string (⟨#[62]⟩ ++ v), .string (⟨#[62, 61]⟩ ++ v), .string v] 9) = w8 at *
    generalize w7.heap.size = bx at *
    have HVV : Hid (∀ k, (holdB v k).size ≤ 1000000) := Lib.hid (fun k => by
      rw [size_eq, holdB_data]
      have h1 := holdW_len v.data.toList k
      rw [← size_eq] at h1
      omega)
    go_loopw [14, 15, 16, 17, 18, 19] (fun i _ _ _ _ _ wr => ∃ k : Nat, k ≤ 8 ∧ i = .int .i64 k ∧ Below w8.heap.size w8 wr) (fun i _ _ _ _ _ _ => 8 - (intOf i).toNat)
    case atStart => exact ⟨0, by decide, rfl, Below.refl _ _⟩
    case round =>
      obtain ⟨k, hk, rfl, hBr⟩ := hrel
      by_cases hlt : k < 8
      · have hkc : k = 0 ∨ k = 1 ∨ k = 2 ∨ k = 3 ∨ k = 4 ∨ k = 5 ∨ k = 6 ∨ k = 7 := by omega
        clear hk hlt
        rcases hkc with rfl | rfl | rfl | rfl | rfl | rfl | rfl | rfl
        · as_aux_lemma => -- the query 0
          have c0 := Below.cell_some hBr (HCW.out 0 (by decide))
          have hff := HHF.out 0 (by decide) (fun h => absurd h (by decide))
          have hp1 := fun W (hb : Below w8.heap.size w8 W) => hpi.out (holdB v 0) (HVV.out 0) W (below_step HC8.out hb)
          simp only [holdB_data] at hp1
          obtain ⟨PE, hPE⟩ : ∃ x, pickErr l p.data.toList (holdW v.data.toList 0) now.data.toList = x := ⟨_, rfl⟩
          obtain ⟨ps, hps⟩ : ∃ x, pickS l p.data.toList (holdW v.data.toList 0) now.data.toList = x := ⟨_, rfl⟩
          simp only [hPE, hps] at hff hp1
          clear hPE hps
          obtain ⟨sb, hsb⟩ : ∃ x : ByteArray, x = ⟨ps.toArray⟩ := ⟨_, rfl⟩
          have hsd : sb.data.toList = ps := by rw [hsb]
          simp only [← hsb] at hp1
          have HFF := Lib.hid hff
          have HSD := Lib.hid hsd
          generalize holdB v 0 = qb at c0 hp1
          replace hp1 := Lib.hid hp1
          clear hff hsb hsd
          go_wp2_with fail
          refine (hp1.out _ hBr).mono ?_
          rintro e w9 ⟨⟨ev, rfl, hf⟩, hb⟩
          replace hBr := below_step hBr hb
          clear hb hp1 c0
          rcases fault_form hf with ⟨h0, rfl⟩ | ⟨h0, ty, qq, rfl⟩
          · clear hf
            have hzs : sb.size ≤ 1000000 := by rw [size_eq, HSD.out]; exact HVS.out _ (HFF.out.in h0 (by decide))
            have hin2 := hin.out sb
            rw [HSD.out, decide_eq_true (HFF.out.in h0 (by decide))] at hin2
            have hl1 := hlsv.out sb hzs
            have hl2 := hlvs.out sb hzs
            rw [HSD.out] at hl1 hl2
            generalize verLess ps v.data.toList = D1 at hl1
            generalize verLess v.data.toList ps = D2 at hl2
            replace hin2 := Lib.hid hin2
            replace hl1 := Lib.hid hl1
            replace hl2 := Lib.hid hl2
            clear hzs h0
            go_wp2_with fail
            refine (hin2.out _ (below_step HD8.out hBr)).mono ?_
            rintro e w10 ⟨rfl, hb⟩
            replace hBr := below_step hBr hb
            clear hb
            cases HERE with
            | false =>
              go_wp2_with fail
              refine (hl1.out _ (below_step HC8.out hBr)).mono ?_
              rintro e w12 ⟨rfl, hb⟩
              replace hBr := below_step hBr hb
              clear hb
              go_wp2_with fail
              refine (hl2.out _ (below_step HC8.out hBr)).mono ?_
              rintro e w13 ⟨rfl, hb⟩
              replace hBr := below_step hBr hb
              clear hb
              go_wp2_with fail
              go_roundw
              case rel => exact ⟨1, by decide, by go_num, hBr⟩
              case measure => simp [intOf]
            | true =>
              go_wp2_with fail
              refine (hl1.out _ (below_step HC8.out hBr)).mono ?_
              rintro e w12 ⟨rfl, hb⟩
              replace hBr := below_step hBr hb
              clear hb
              go_wp2_with fail
              refine (hl2.out _ (below_step HC8.out hBr)).mono ?_
              rintro e w13 ⟨rfl, hb⟩
              replace hBr := below_step hBr hb
              clear hb
              go_wp2_with fail
              go_roundw
              case rel => exact ⟨1, by decide, by go_num, hBr⟩
              case measure => simp [intOf]
          · have hps0 : sb = ⟨#[]⟩ := bytes_ext.1 (by rw [HSD.out]; exact HFF.out.bad h0)
            subst hps0
            have hm0 : m6 = 0 := by rw [HVN.out, HFF.out.all h0 (by decide)]; rfl
            subst hm0
            clear hf h0
            go_wp2_with fail
            go_roundw
            case rel => exact ⟨1, by decide, by go_num, hBr⟩
            case measure => simp [intOf]
        · as_aux_lemma => -- the query 1
          have c0 := Below.cell_some hBr (HCW.out 1 (by decide))
          have hff := HHF.out 1 (by decide) (fun h => absurd h (by decide))
          have hp1 := fun W (hb : Below w8.heap.size w8 W) => hpi.out (holdB v 1) (HVV.out 1) W (below_step HC8.out hb)
          simp only [holdB_data] at hp1
          obtain ⟨PE, hPE⟩ : ∃ x, pickErr l p.data.toList (holdW v.data.toList 1) now.data.toList = x := ⟨_, rfl⟩
          obtain ⟨ps, hps⟩ : ∃ x, pickS l p.data.toList (holdW v.data.toList 1) now.data.toList = x := ⟨_, rfl⟩
          simp only [hPE, hps] at hff hp1
          clear hPE hps
          obtain ⟨sb, hsb⟩ : ∃ x : ByteArray, x = ⟨ps.toArray⟩ := ⟨_, rfl⟩
          have hsd : sb.data.toList = ps := by rw [hsb]
          simp only [← hsb] at hp1
          have HFF := Lib.hid hff
          have HSD := Lib.hid hsd
          generalize holdB v 1 = qb at c0 hp1
          replace hp1 := Lib.hid hp1
          clear hff hsb hsd
          go_wp2_with fail
          refine (hp1.out _ hBr).mono ?_
          rintro e w9 ⟨⟨ev, rfl, hf⟩, hb⟩
          replace hBr := below_step hBr hb
          clear hb hp1 c0
          rcases fault_form hf with ⟨h0, rfl⟩ | ⟨h0, ty, qq, rfl⟩
          · clear hf
            have hzs : sb.size ≤ 1000000 := by
              rw [size_eq, HSD.out]
              rcases HFF.out.up h0 rfl with h | h | h
              · rw [h]; decide
              · rw [h, ← size_eq]; have := HVZ.out.2; omega
              · exact HVS.out _ h
            have hin2 := hin.out sb
            generalize decide (sb.data.toList ∈ VL) = TH at hin2
            have hl1 := hlsv.out sb hzs
            have hl2 := hlvs.out sb hzs
            rw [HSD.out] at hl1 hl2
            generalize verLess ps v.data.toList = D1 at hl1
            generalize verLess v.data.toList ps = D2 at hl2
            have hl3 := hlsn.out sb hzs
            rw [HSD.out] at hl3
            have HNO := Lib.hid (HFF.out.no h0)
            replace hl3 := Lib.hid hl3
            replace hin2 := Lib.hid hin2
            replace hl1 := Lib.hid hl1
            replace hl2 := Lib.hid hl2
            clear hzs h0
            cases TH with
            | false =>
              go_wp2_with fail
              refine (hin2.out _ (below_step HD8.out hBr)).mono ?_
              rintro e w10 ⟨rfl, hb⟩
              replace hBr := below_step hBr hb
              clear hb
              cases HERE with
              | false =>
                go_wp2_with fail
                refine (hl1.out _ (below_step HC8.out hBr)).mono ?_
                rintro e w12 ⟨rfl, hb⟩
                replace hBr := below_step hBr hb
                clear hb
                go_wp2_with fail
                refine (hl2.out _ (below_step HC8.out hBr)).mono ?_
                rintro e w13 ⟨rfl, hb⟩
                replace hBr := below_step hBr hb
                clear hb
                go_wp2_with fail
                go_roundw
                case rel => exact ⟨2, by decide, by go_num, hBr⟩
                case measure => simp [intOf]
              | true =>
                have hl4 := hl3.out
                rw [HNO.out (HDN.out.1 rfl) (by simp)] at hl4
                replace hl4 := Lib.hid hl4
                go_wp2_with fail
                refine (hl4.out _ (below_step HC8.out hBr)).mono ?_
                rintro e w11 ⟨rfl, hb⟩
                replace hBr := below_step hBr hb
                clear hb
                go_wp2_with fail
                refine (hl1.out _ (below_step HC8.out hBr)).mono ?_
                rintro e w12 ⟨rfl, hb⟩
                replace hBr := below_step hBr hb
                clear hb
                go_wp2_with fail
                refine (hl2.out _ (below_step HC8.out hBr)).mono ?_
                rintro e w13 ⟨rfl, hb⟩
                replace hBr := below_step hBr hb
                clear hb
                go_wp2_with fail
                go_roundw
                case rel => exact ⟨2, by decide, by go_num, hBr⟩
                case measure => simp [intOf]
            | true =>
              go_wp2_with fail
              refine (hin2.out _ (below_step HD8.out hBr)).mono ?_
              rintro e w10 ⟨rfl, hb⟩
              replace hBr := below_step hBr hb
              clear hb
              cases HERE with
              | false =>
                go_wp2_with fail
                refine (hl1.out _ (below_step HC8.out hBr)).mono ?_
                rintro e w12 ⟨rfl, hb⟩
                replace hBr := below_step hBr hb
                clear hb
                go_wp2_with fail
                refine (hl2.out _ (below_step HC8.out hBr)).mono ?_
                rintro e w13 ⟨rfl, hb⟩
                replace hBr := below_step hBr hb
                clear hb
                go_wp2_with fail
                go_roundw
                case rel => exact ⟨2, by decide, by go_num, hBr⟩
                case measure => simp [intOf]
              | true =>
                have hl4 := hl3.out
                rw [HNO.out (HDN.out.1 rfl) (by simp)] at hl4
                replace hl4 := Lib.hid hl4
                go_wp2_with fail
                refine (hl4.out _ (below_step HC8.out hBr)).mono ?_
                rintro e w11 ⟨rfl, hb⟩
                replace hBr := below_step hBr hb
                clear hb
                go_wp2_with fail
                refine (hl1.out _ (below_step HC8.out hBr)).mono ?_
                rintro e w12 ⟨rfl, hb⟩
                replace hBr := below_step hBr hb
                clear hb
                go_wp2_with fail
                refine (hl2.out _ (below_step HC8.out hBr)).mono ?_
                rintro e w13 ⟨rfl, hb⟩
                replace hBr := below_step hBr hb
                clear hb
                go_wp2_with fail
                go_roundw
                case rel => exact ⟨2, by decide, by go_num, hBr⟩
                case measure => simp [intOf]
          · have hps0 : sb = ⟨#[]⟩ := bytes_ext.1 (by rw [HSD.out]; exact HFF.out.bad h0)
            subst hps0
            have hm0 : m6 = 0 := by rw [HVN.out, HFF.out.all h0 (by decide)]; rfl
            subst hm0
            clear hf h0
            go_wp2_with fail
            go_roundw
            case rel => exact ⟨2, by decide, by go_num, hBr⟩
            case measure => simp [intOf]
        · as_aux_lemma => -- the query 2
          have c0 := Below.cell_some hBr (HCW.out 2 (by decide))
          have hff := HHF.out 2 (by decide) (fun h => absurd h (by decide))
          have hp1 := fun W (hb : Below w8.heap.size w8 W) => hpi.out (holdB v 2) (HVV.out 2) W (below_step HC8.out hb)
          simp only [holdB_data] at hp1
          obtain ⟨PE, hPE⟩ : ∃ x, pickErr l p.data.toList (holdW v.data.toList 2) now.data.toList = x := ⟨_, rfl⟩
          obtain ⟨ps, hps⟩ : ∃ x, pickS l p.data.toList (holdW v.data.toList 2) now.data.toList = x := ⟨_, rfl⟩
          simp only [hPE, hps] at hff hp1
          clear hPE hps
          obtain ⟨sb, hsb⟩ : ∃ x : ByteArray, x = ⟨ps.toArray⟩ := ⟨_, rfl⟩
          have hsd : sb.data.toList = ps := by rw [hsb]
          simp only [← hsb] at hp1
          have HFF := Lib.hid hff
          have HSD := Lib.hid hsd
          generalize holdB v 2 = qb at c0 hp1
          replace hp1 := Lib.hid hp1
          clear hff hsb hsd
          go_wp2_with fail
          refine (hp1.out _ hBr).mono ?_
          rintro e w9 ⟨⟨ev, rfl, hf⟩, hb⟩
          replace hBr := below_step hBr hb
          clear hb hp1 c0
          rcases fault_form hf with ⟨h0, rfl⟩ | ⟨h0, ty, qq, rfl⟩
          · clear hf
            have hzs : sb.size ≤ 1000000 := by rw [size_eq, HSD.out]; exact HVS.out _ (HFF.out.in h0 (by decide))
            have hin2 := hin.out sb
            rw [HSD.out, decide_eq_true (HFF.out.in h0 (by decide))] at hin2
            have hl1 := hlsv.out sb hzs
            have hl2 := hlvs.out sb hzs
            rw [HSD.out] at hl1 hl2
            generalize verLess ps v.data.toList = D1 at hl1
            generalize verLess v.data.toList ps = D2 at hl2
            have hl3 := hlsn.out sb hzs
            rw [HSD.out] at hl3
            have HNO := Lib.hid (HFF.out.no h0)
            replace hl3 := Lib.hid hl3
            replace hin2 := Lib.hid hin2
            replace hl1 := Lib.hid hl1
            replace hl2 := Lib.hid hl2
            clear hzs h0
            go_wp2_with fail
            refine (hin2.out _ (below_step HD8.out hBr)).mono ?_
            rintro e w10 ⟨rfl, hb⟩
            replace hBr := below_step hBr hb
            clear hb
            cases HERE with
            | false =>
              go_wp2_with fail
              refine (hl1.out _ (below_step HC8.out hBr)).mono ?_
              rintro e w12 ⟨rfl, hb⟩
              replace hBr := below_step hBr hb
              clear hb
              go_wp2_with fail
              refine (hl2.out _ (below_step HC8.out hBr)).mono ?_
              rintro e w13 ⟨rfl, hb⟩
              replace hBr := below_step hBr hb
              clear hb
              go_wp2_with fail
              go_roundw
              case rel => exact ⟨3, by decide, by go_num, hBr⟩
              case measure => simp [intOf]
            | true =>
              have hl4 := hl3.out
              rw [HNO.out (HDN.out.1 rfl) (by simp)] at hl4
              replace hl4 := Lib.hid hl4
              go_wp2_with fail
              refine (hl4.out _ (below_step HC8.out hBr)).mono ?_
              rintro e w11 ⟨rfl, hb⟩
              replace hBr := below_step hBr hb
              clear hb
              go_wp2_with fail
              refine (hl1.out _ (below_step HC8.out hBr)).mono ?_
              rintro e w12 ⟨rfl, hb⟩
              replace hBr := below_step hBr hb
              clear hb
              go_wp2_with fail
              refine (hl2.out _ (below_step HC8.out hBr)).mono ?_
              rintro e w13 ⟨rfl, hb⟩
              replace hBr := below_step hBr hb
              clear hb
              go_wp2_with fail
              go_roundw
              case rel => exact ⟨3, by decide, by go_num, hBr⟩
              case measure => simp [intOf]
          · have hps0 : sb = ⟨#[]⟩ := bytes_ext.1 (by rw [HSD.out]; exact HFF.out.bad h0)
            subst hps0
            clear hf h0
            go_wp2_with fail
            go_roundw
            case rel => exact ⟨3, by decide, by go_num, hBr⟩
            case measure => simp [intOf]
        · as_aux_lemma => -- the query 3
          have c0 := Below.cell_some hBr (HCW.out 3 (by decide))
          have hck3 := hck2.out
          by_cases hv0 : verErr v.data.toList = 0
          · rw [hv0, errV_zero] at hck3
            have HV0 := Lib.hid hv0
            replace hck3 := Lib.hid hck3
            clear hv0
            go_wp2_with fail
            refine (hck3.out _ (below_step HC8.out hBr)).mono ?_
            rintro e w8a ⟨rfl, hb⟩
            replace hBr := below_step hBr hb
            replace c0 := Below.cell_some hb c0
            clear hb
            have hff := HHF.out 3 (by decide) (fun _ => HV0.out)
            have hp1 := fun W (hb : Below w8.heap.size w8 W) => hpi.out (holdB v 3) (HVV.out 3) W (below_step HC8.out hb)
            simp only [holdB_data] at hp1
            obtain ⟨PE, hPE⟩ : ∃ x, pickErr l p.data.toList (holdW v.data.toList 3) now.data.toList = x := ⟨_, rfl⟩
            obtain ⟨ps, hps⟩ : ∃ x, pickS l p.data.toList (holdW v.data.toList 3) now.data.toList = x := ⟨_, rfl⟩
            simp only [hPE, hps] at hff hp1
            clear hPE hps
            obtain ⟨sb, hsb⟩ : ∃ x : ByteArray, x = ⟨ps.toArray⟩ := ⟨_, rfl⟩
            have hsd : sb.data.toList = ps := by rw [hsb]
            simp only [← hsb] at hp1
            have HFF := Lib.hid hff
            have HSD := Lib.hid hsd
            generalize holdB v 3 = qb at c0 hp1
            replace hp1 := Lib.hid hp1
            clear hff hsb hsd
            go_wp2_with fail
            refine (hp1.out _ hBr).mono ?_
            rintro e w9 ⟨⟨ev, rfl, hf⟩, hb⟩
            replace hBr := below_step hBr hb
            clear hb hp1 c0
            rcases fault_form hf with ⟨h0, rfl⟩ | ⟨h0, ty, qq, rfl⟩
            · clear hf
              have hzs : sb.size ≤ 1000000 := by rw [size_eq, HSD.out]; exact HVS.out _ (HFF.out.in h0 (by decide))
              have hin2 := hin.out sb
              rw [HSD.out, decide_eq_true (HFF.out.in h0 (by decide))] at hin2
              have hl1 := hlsv.out sb hzs
              have hl2 := hlvs.out sb hzs
              rw [HSD.out] at hl1 hl2
              rw [HFF.out.lt h0 rfl] at hl1
              generalize verLess v.data.toList ps = D2 at hl2
              replace hin2 := Lib.hid hin2
              replace hl1 := Lib.hid hl1
              replace hl2 := Lib.hid hl2
              clear hzs h0
              go_wp2_with fail
              refine (hin2.out _ (below_step HD8.out hBr)).mono ?_
              rintro e w10 ⟨rfl, hb⟩
              replace hBr := below_step hBr hb
              clear hb
              cases HERE with
              | false =>
                go_wp2_with fail
                refine (hl1.out _ (below_step HC8.out hBr)).mono ?_
                rintro e w12 ⟨rfl, hb⟩
                replace hBr := below_step hBr hb
                clear hb
                go_wp2_with fail
                refine (hl2.out _ (below_step HC8.out hBr)).mono ?_
                rintro e w13 ⟨rfl, hb⟩
                replace hBr := below_step hBr hb
                clear hb
                go_wp2_with fail
                go_roundw
                case rel => exact ⟨4, by decide, by go_num, hBr⟩
                case measure => simp [intOf]
              | true =>
                go_wp2_with fail
                refine (hl1.out _ (below_step HC8.out hBr)).mono ?_
                rintro e w12 ⟨rfl, hb⟩
                replace hBr := below_step hBr hb
                clear hb
                go_wp2_with fail
                refine (hl2.out _ (below_step HC8.out hBr)).mono ?_
                rintro e w13 ⟨rfl, hb⟩
                replace hBr := below_step hBr hb
                clear hb
                go_wp2_with fail
                go_roundw
                case rel => exact ⟨4, by decide, by go_num, hBr⟩
                case measure => simp [intOf]
            · have hps0 : sb = ⟨#[]⟩ := bytes_ext.1 (by rw [HSD.out]; exact HFF.out.bad h0)
              subst hps0
              clear hf h0
              go_wp2_with fail
              go_roundw
              case rel => exact ⟨4, by decide, by go_num, hBr⟩
              case measure => simp [intOf]
          · rw [errV_pos A hv0] at hck3
            replace hck3 := Lib.hid hck3
            clear hv0 c0
            go_wp2_with fail
            refine (hck3.out _ (below_step HC8.out hBr)).mono ?_
            rintro e w8a ⟨rfl, hb⟩
            replace hBr := below_step hBr hb
            clear hb
            go_wp2_with fail
            go_roundw
            case rel => exact ⟨4, by decide, by go_num, hBr⟩
            case measure => simp [intOf]
        · as_aux_lemma => -- the query 4
          have c0 := Below.cell_some hBr (HCW.out 4 (by decide))
          have hck3 := hck2.out
          by_cases hv0 : verErr v.data.toList = 0
          · rw [hv0, errV_zero] at hck3
            have HV0 := Lib.hid hv0
            replace hck3 := Lib.hid hck3
            clear hv0
            go_wp2_with fail
            refine (hck3.out _ (below_step HC8.out hBr)).mono ?_
            rintro e w8a ⟨rfl, hb⟩
            replace hBr := below_step hBr hb
            replace c0 := Below.cell_some hb c0
            clear hb
            have hff := HHF.out 4 (by decide) (fun _ => HV0.out)
            have hp1 := fun W (hb : Below w8.heap.size w8 W) => hpi.out (holdB v 4) (HVV.out 4) W (below_step HC8.out hb)
            simp only [holdB_data] at hp1
            obtain ⟨PE, hPE⟩ : ∃ x, pickErr l p.data.toList (holdW v.data.toList 4) now.data.toList = x := ⟨_, rfl⟩
            obtain ⟨ps, hps⟩ : ∃ x, pickS l p.data.toList (holdW v.data.toList 4) now.data.toList = x := ⟨_, rfl⟩
            simp only [hPE, hps] at hff hp1
            clear hPE hps
            obtain ⟨sb, hsb⟩ : ∃ x : ByteArray, x = ⟨ps.toArray⟩ := ⟨_, rfl⟩
            have hsd : sb.data.toList = ps := by rw [hsb]
            simp only [← hsb] at hp1
            have HFF := Lib.hid hff
            have HSD := Lib.hid hsd
            generalize holdB v 4 = qb at c0 hp1
            replace hp1 := Lib.hid hp1
            clear hff hsb hsd
            go_wp2_with fail
            refine (hp1.out _ hBr).mono ?_
            rintro e w9 ⟨⟨ev, rfl, hf⟩, hb⟩
            replace hBr := below_step hBr hb
            clear hb hp1 c0
            rcases fault_form hf with ⟨h0, rfl⟩ | ⟨h0, ty, qq, rfl⟩
            · clear hf
              have hzs : sb.size ≤ 1000000 := by rw [size_eq, HSD.out]; exact HVS.out _ (HFF.out.in h0 (by decide))
              have hin2 := hin.out sb
              rw [HSD.out, decide_eq_true (HFF.out.in h0 (by decide))] at hin2
              have hl1 := hlsv.out sb hzs
              have hl2 := hlvs.out sb hzs
              rw [HSD.out] at hl1 hl2
              rw [HFF.out.le h0 rfl] at hl2
              generalize verLess ps v.data.toList = D1 at hl1
              replace hin2 := Lib.hid hin2
              replace hl1 := Lib.hid hl1
              replace hl2 := Lib.hid hl2
              clear hzs h0
              go_wp2_with fail
              refine (hin2.out _ (below_step HD8.out hBr)).mono ?_
              rintro e w10 ⟨rfl, hb⟩
              replace hBr := below_step hBr hb
              clear hb
              cases HERE with
              | false =>
                go_wp2_with fail
                refine (hl1.out _ (below_step HC8.out hBr)).mono ?_
                rintro e w12 ⟨rfl, hb⟩
                replace hBr := below_step hBr hb
                clear hb
                go_wp2_with fail
                refine (hl2.out _ (below_step HC8.out hBr)).mono ?_
                rintro e w13 ⟨rfl, hb⟩
                replace hBr := below_step hBr hb
                clear hb
                go_wp2_with fail
                go_roundw
                case rel => exact ⟨5, by decide, by go_num, hBr⟩
                case measure => simp [intOf]
              | true =>
                go_wp2_with fail
                refine (hl1.out _ (below_step HC8.out hBr)).mono ?_
                rintro e w12 ⟨rfl, hb⟩
                replace hBr := below_step hBr hb
                clear hb
                go_wp2_with fail
                refine (hl2.out _ (below_step HC8.out hBr)).mono ?_
                rintro e w13 ⟨rfl, hb⟩
                replace hBr := below_step hBr hb
                clear hb
                go_wp2_with fail
                go_roundw
                case rel => exact ⟨5, by decide, by go_num, hBr⟩
                case measure => simp [intOf]
            · have hps0 : sb = ⟨#[]⟩ := bytes_ext.1 (by rw [HSD.out]; exact HFF.out.bad h0)
              subst hps0
              clear hf h0
              go_wp2_with fail
              go_roundw
              case rel => exact ⟨5, by decide, by go_num, hBr⟩
              case measure => simp [intOf]
          · rw [errV_pos A hv0] at hck3
            replace hck3 := Lib.hid hck3
            clear hv0 c0
            go_wp2_with fail
            refine (hck3.out _ (below_step HC8.out hBr)).mono ?_
            rintro e w8a ⟨rfl, hb⟩
            replace hBr := below_step hBr hb
            clear hb
            go_wp2_with fail
            go_roundw
            case rel => exact ⟨5, by decide, by go_num, hBr⟩
            case measure => simp [intOf]
        · as_aux_lemma => -- the query 5
          have c0 := Below.cell_some hBr (HCW.out 5 (by decide))
          have hck3 := hck2.out
          by_cases hv0 : verErr v.data.toList = 0
          · rw [hv0, errV_zero] at hck3
            have HV0 := Lib.hid hv0
            replace hck3 := Lib.hid hck3
            clear hv0
            go_wp2_with fail
            refine (hck3.out _ (below_step HC8.out hBr)).mono ?_
            rintro e w8a ⟨rfl, hb⟩
            replace hBr := below_step hBr hb
            replace c0 := Below.cell_some hb c0
            clear hb
            have hff := HHF.out 5 (by decide) (fun _ => HV0.out)
            have hp1 := fun W (hb : Below w8.heap.size w8 W) => hpi.out (holdB v 5) (HVV.out 5) W (below_step HC8.out hb)
            simp only [holdB_data] at hp1
            obtain ⟨PE, hPE⟩ : ∃ x, pickErr l p.data.toList (holdW v.data.toList 5) now.data.toList = x := ⟨_, rfl⟩
            obtain ⟨ps, hps⟩ : ∃ x, pickS l p.data.toList (holdW v.data.toList 5) now.data.toList = x := ⟨_, rfl⟩
            simp only [hPE, hps] at hff hp1
            clear hPE hps
            obtain ⟨sb, hsb⟩ : ∃ x : ByteArray, x = ⟨ps.toArray⟩ := ⟨_, rfl⟩
            have hsd : sb.data.toList = ps := by rw [hsb]
            simp only [← hsb] at hp1
            have HFF := Lib.hid hff
            have HSD := Lib.hid hsd
            generalize holdB v 5 = qb at c0 hp1
            replace hp1 := Lib.hid hp1
            clear hff hsb hsd
            go_wp2_with fail
            refine (hp1.out _ hBr).mono ?_
            rintro e w9 ⟨⟨ev, rfl, hf⟩, hb⟩
            replace hBr := below_step hBr hb
            clear hb hp1 c0
            rcases fault_form hf with ⟨h0, rfl⟩ | ⟨h0, ty, qq, rfl⟩
            · clear hf
              have hzs : sb.size ≤ 1000000 := by rw [size_eq, HSD.out]; exact HVS.out _ (HFF.out.in h0 (by decide))
              have hin2 := hin.out sb
              rw [HSD.out, decide_eq_true (HFF.out.in h0 (by decide))] at hin2
              have hl1 := hlsv.out sb hzs
              have hl2 := hlvs.out sb hzs
              rw [HSD.out] at hl1 hl2
              rw [HFF.out.gt h0 rfl] at hl2
              generalize verLess ps v.data.toList = D1 at hl1
              replace hin2 := Lib.hid hin2
              replace hl1 := Lib.hid hl1
              replace hl2 := Lib.hid hl2
              clear hzs h0
              go_wp2_with fail
              refine (hin2.out _ (below_step HD8.out hBr)).mono ?_
              rintro e w10 ⟨rfl, hb⟩
              replace hBr := below_step hBr hb
              clear hb
              cases HERE with
              | false =>
                go_wp2_with fail
                refine (hl1.out _ (below_step HC8.out hBr)).mono ?_
                rintro e w12 ⟨rfl, hb⟩
                replace hBr := below_step hBr hb
                clear hb
                go_wp2_with fail
                refine (hl2.out _ (below_step HC8.out hBr)).mono ?_
                rintro e w13 ⟨rfl, hb⟩
                replace hBr := below_step hBr hb
                clear hb
                go_wp2_with fail
                go_roundw
                case rel => exact ⟨6, by decide, by go_num, hBr⟩
                case measure => simp [intOf]
              | true =>
                go_wp2_with fail
                refine (hl1.out _ (below_step HC8.out hBr)).mono ?_
                rintro e w12 ⟨rfl, hb⟩
                replace hBr := below_step hBr hb
                clear hb
                go_wp2_with fail
                refine (hl2.out _ (below_step HC8.out hBr)).mono ?_
                rintro e w13 ⟨rfl, hb⟩
                replace hBr := below_step hBr hb
                clear hb
                go_wp2_with fail
                go_roundw
                case rel => exact ⟨6, by decide, by go_num, hBr⟩
                case measure => simp [intOf]
            · have hps0 : sb = ⟨#[]⟩ := bytes_ext.1 (by rw [HSD.out]; exact HFF.out.bad h0)
              subst hps0
              clear hf h0
              go_wp2_with fail
              go_roundw
              case rel => exact ⟨6, by decide, by go_num, hBr⟩
              case measure => simp [intOf]
          · rw [errV_pos A hv0] at hck3
            replace hck3 := Lib.hid hck3
            clear hv0 c0
            go_wp2_with fail
            refine (hck3.out _ (below_step HC8.out hBr)).mono ?_
            rintro e w8a ⟨rfl, hb⟩
            replace hBr := below_step hBr hb
            clear hb
            go_wp2_with fail
            go_roundw
            case rel => exact ⟨6, by decide, by go_num, hBr⟩
            case measure => simp [intOf]
        · as_aux_lemma => -- the query 6
          have c0 := Below.cell_some hBr (HCW.out 6 (by decide))
          have hck3 := hck2.out
          by_cases hv0 : verErr v.data.toList = 0
          · rw [hv0, errV_zero] at hck3
            have HV0 := Lib.hid hv0
            replace hck3 := Lib.hid hck3
            clear hv0
            go_wp2_with fail
            refine (hck3.out _ (below_step HC8.out hBr)).mono ?_
            rintro e w8a ⟨rfl, hb⟩
            replace hBr := below_step hBr hb
            replace c0 := Below.cell_some hb c0
            clear hb
            have hff := HHF.out 6 (by decide) (fun _ => HV0.out)
            have hp1 := fun W (hb : Below w8.heap.size w8 W) => hpi.out (holdB v 6) (HVV.out 6) W (below_step HC8.out hb)
            simp only [holdB_data] at hp1
            obtain ⟨PE, hPE⟩ : ∃ x, pickErr l p.data.toList (holdW v.data.toList 6) now.data.toList = x := ⟨_, rfl⟩
            obtain ⟨ps, hps⟩ : ∃ x, pickS l p.data.toList (holdW v.data.toList 6) now.data.toList = x := ⟨_, rfl⟩
            simp only [hPE, hps] at hff hp1
            clear hPE hps
            obtain ⟨sb, hsb⟩ : ∃ x : ByteArray, x = ⟨ps.toArray⟩ := ⟨_, rfl⟩
            have hsd : sb.data.toList = ps := by rw [hsb]
            simp only [← hsb] at hp1
            have HFF := Lib.hid hff
            have HSD := Lib.hid hsd
            generalize holdB v 6 = qb at c0 hp1
            replace hp1 := Lib.hid hp1
            clear hff hsb hsd
            go_wp2_with fail
            refine (hp1.out _ hBr).mono ?_
            rintro e w9 ⟨⟨ev, rfl, hf⟩, hb⟩
            replace hBr := below_step hBr hb
            clear hb hp1 c0
            rcases fault_form hf with ⟨h0, rfl⟩ | ⟨h0, ty, qq, rfl⟩
            · clear hf
              have hzs : sb.size ≤ 1000000 := by rw [size_eq, HSD.out]; exact HVS.out _ (HFF.out.in h0 (by decide))
              have hin2 := hin.out sb
              rw [HSD.out, decide_eq_true (HFF.out.in h0 (by decide))] at hin2
              have hl1 := hlsv.out sb hzs
              have hl2 := hlvs.out sb hzs
              rw [HSD.out] at hl1 hl2
              rw [HFF.out.ge h0 rfl] at hl1
              generalize verLess v.data.toList ps = D2 at hl2
              replace hin2 := Lib.hid hin2
              replace hl1 := Lib.hid hl1
              replace hl2 := Lib.hid hl2
              clear hzs h0
              go_wp2_with fail
              refine (hin2.out _ (below_step HD8.out hBr)).mono ?_
              rintro e w10 ⟨rfl, hb⟩
              replace hBr := below_step hBr hb
              clear hb
              cases HERE with
              | false =>
                go_wp2_with fail
                refine (hl1.out _ (below_step HC8.out hBr)).mono ?_
                rintro e w12 ⟨rfl, hb⟩
                replace hBr := below_step hBr hb
                clear hb
                go_wp2_with fail
                refine (hl2.out _ (below_step HC8.out hBr)).mono ?_
                rintro e w13 ⟨rfl, hb⟩
                replace hBr := below_step hBr hb
                clear hb
                go_wp2_with fail
                go_roundw
                case rel => exact ⟨7, by decide, by go_num, hBr⟩
                case measure => simp [intOf]
              | true =>
                go_wp2_with fail
                refine (hl1.out _ (below_step HC8.out hBr)).mono ?_
                rintro e w12 ⟨rfl, hb⟩
                replace hBr := below_step hBr hb
                clear hb
                go_wp2_with fail
                refine (hl2.out _ (below_step HC8.out hBr)).mono ?_
                rintro e w13 ⟨rfl, hb⟩
                replace hBr := below_step hBr hb
                clear hb
                go_wp2_with fail
                go_roundw
                case rel => exact ⟨7, by decide, by go_num, hBr⟩
                case measure => simp [intOf]
            · have hps0 : sb = ⟨#[]⟩ := bytes_ext.1 (by rw [HSD.out]; exact HFF.out.bad h0)
              subst hps0
              clear hf h0
              go_wp2_with fail
              go_roundw
              case rel => exact ⟨7, by decide, by go_num, hBr⟩
              case measure => simp [intOf]
          · rw [errV_pos A hv0] at hck3
            replace hck3 := Lib.hid hck3
            clear hv0 c0
            go_wp2_with fail
            refine (hck3.out _ (below_step HC8.out hBr)).mono ?_
            rintro e w8a ⟨rfl, hb⟩
            replace hBr := below_step hBr hb
            clear hb
            go_wp2_with fail
            go_roundw
            case rel => exact ⟨7, by decide, by go_num, hBr⟩
            case measure => simp [intOf]
        · as_aux_lemma => -- the query 7
          have c0 := Below.cell_some hBr (HCW.out 7 (by decide))
          have hck3 := hck2.out
          by_cases hv0 : verErr v.data.toList = 0
          · rw [hv0, errV_zero] at hck3
            have HV0 := Lib.hid hv0
            replace hck3 := Lib.hid hck3
            clear hv0
            go_wp2_with fail
            refine (hck3.out _ (below_step HC8.out hBr)).mono ?_
            rintro e w8a ⟨rfl, hb⟩
            replace hBr := below_step hBr hb
            replace c0 := Below.cell_some hb c0
            clear hb
            have hff := HHF.out 7 (by decide) (fun _ => HV0.out)
            have hp1 := fun W (hb : Below w8.heap.size w8 W) => hpi.out (holdB v 7) (HVV.out 7) W (below_step HC8.out hb)
            simp only [holdB_data] at hp1
            obtain ⟨PE, hPE⟩ : ∃ x, pickErr l p.data.toList (holdW v.data.toList 7) now.data.toList = x := ⟨_, rfl⟩
            obtain ⟨ps, hps⟩ : ∃ x, pickS l p.data.toList (holdW v.data.toList 7) now.data.toList = x := ⟨_, rfl⟩
            simp only [hPE, hps] at hff hp1
            clear hPE hps
            obtain ⟨sb, hsb⟩ : ∃ x : ByteArray, x = ⟨ps.toArray⟩ := ⟨_, rfl⟩
            have hsd : sb.data.toList = ps := by rw [hsb]
            simp only [← hsb] at hp1
            have HFF := Lib.hid hff
            have HSD := Lib.hid hsd
            generalize holdB v 7 = qb at c0 hp1
            replace hp1 := Lib.hid hp1
            clear hff hsb hsd
            go_wp2_with fail
            refine (hp1.out _ hBr).mono ?_
            rintro e w9 ⟨⟨ev, rfl, hf⟩, hb⟩
            replace hBr := below_step hBr hb
            clear hb hp1 c0
            rcases fault_form hf with ⟨h0, rfl⟩ | ⟨h0, ty, qq, rfl⟩
            · clear hf
              have hzs : sb.size ≤ 1000000 := by rw [size_eq, HSD.out]; exact HVS.out _ (HFF.out.in h0 (by decide))
              have hin2 := hin.out sb
              rw [HSD.out, decide_eq_true (HFF.out.in h0 (by decide))] at hin2
              have hl1 := hlsv.out sb hzs
              have hl2 := hlvs.out sb hzs
              rw [HSD.out] at hl1 hl2
              generalize verLess ps v.data.toList = D1 at hl1
              generalize verLess v.data.toList ps = D2 at hl2
              have hsv : sb = v := bytes_ext.1 (by rw [HSD.out]; exact HFF.out.eq h0 rfl)
              subst hsv
              have hvv : (sb.toList != sb.toList) = false := by simp
              replace hin2 := Lib.hid hin2
              replace hl1 := Lib.hid hl1
              replace hl2 := Lib.hid hl2
              clear hzs h0
              go_wp2_with fail
              refine (hin2.out _ (below_step HD8.out hBr)).mono ?_
              rintro e w10 ⟨rfl, hb⟩
              replace hBr := below_step hBr hb
              clear hb
              cases HERE with
              | false =>
                go_wp2_with fail
                refine (hl1.out _ (below_step HC8.out hBr)).mono ?_
                rintro e w12 ⟨rfl, hb⟩
                replace hBr := below_step hBr hb
                clear hb
                go_wp2_with fail
                refine (hl2.out _ (below_step HC8.out hBr)).mono ?_
                rintro e w13 ⟨rfl, hb⟩
                replace hBr := below_step hBr hb
                clear hb
                go_wp2_with fail
                refine (hck3.out _ (below_step HC8.out hBr)).mono ?_
                rintro e w14 ⟨rfl, hb⟩
                replace hBr := below_step hBr hb
                clear hb
                go_wp2_with fail
                go_roundw
                case rel => exact ⟨8, by decide, by go_num, hBr⟩
                case measure => simp [intOf]
              | true =>
                go_wp2_with fail
                refine (hl1.out _ (below_step HC8.out hBr)).mono ?_
                rintro e w12 ⟨rfl, hb⟩
                replace hBr := below_step hBr hb
                clear hb
                go_wp2_with fail
                refine (hl2.out _ (below_step HC8.out hBr)).mono ?_
                rintro e w13 ⟨rfl, hb⟩
                replace hBr := below_step hBr hb
                clear hb
                go_wp2_with fail
                refine (hck3.out _ (below_step HC8.out hBr)).mono ?_
                rintro e w14 ⟨rfl, hb⟩
                replace hBr := below_step hBr hb
                clear hb
                go_wp2_with fail
                go_roundw
                case rel => exact ⟨8, by decide, by go_num, hBr⟩
                case measure => simp [intOf]
            · have hps0 : sb = ⟨#[]⟩ := bytes_ext.1 (by rw [HSD.out]; exact HFF.out.bad h0)
              subst hps0
              clear hf h0
              go_wp2_with fail
              go_roundw
              case rel => exact ⟨8, by decide, by go_num, hBr⟩
              case measure => simp [intOf]
          · rw [errV_pos A hv0] at hck3
            replace hck3 := Lib.hid hck3
            clear hv0 c0
            go_wp2_with fail
            refine (hck3.out _ (below_step HC8.out hBr)).mono ?_
            rintro e w8a ⟨rfl, hb⟩
            replace hBr := below_step hBr hb
            clear hb
            go_wp2_with fail
            go_roundw
            case rel => exact ⟨8, by decide, by go_num, hBr⟩
            case measure => simp [intOf]
      · obtain rfl : k = 8 := by omega
        have HBF := Lib.hid (below_step HC8.out hBr)
        clear hlt hk
        go_wp2_with fail
        go_ret
        exact ⟨rfl, below_step hB HBF.out⟩
  · clear hf3 h0
    go_wp2_with fail
    go_ret
    exact ⟨rfl, below_step hB hC⟩
set_option maxHeartbeats 4000000 in
theorem qHolds_calls (ks : List Nat) (A : Nat → Addr) (hks : IdxKs ks) (lv : Value) (l : List En) (p v now : ByteArray) (w : World) (hE : EnvP ks A w) (hl : EntsAt w lv l) :
    Calls Tryz.prog 4 #[lv, .string p, .string v, .string now] w fun e w' => e = .returned (.bool true) ∧ Below w.heap.size w w' := by
  obtain ⟨la, ln, lc, P, V, R, K, Bk, Rv, Kv, rfl, rfl, hin⟩ := hl
  have H : QhArgs ks A la ln lc P V R K Bk Rv Kv w := ⟨hks, hE, hin⟩
  cases h1 : longIdx (enF ln P V R K Bk)
  · by_cases h2 : ln ≤ 30
    · by_cases h3 : p.size ≤ 70
      · by_cases h4 : v.size ≤ 50
        · by_cases h5 : now.size ≤ 60
          · exact qHolds_main ks A la ln lc P V R K Bk Rv Kv p v now w H h1 h2 h3 h4 h5
          · exact qHolds_long ks A la ln lc P V R K Bk Rv Kv p v now w H (.inr ⟨h1, .inr ⟨h2, .inr ⟨h3, .inr ⟨h4, by omega⟩⟩⟩⟩)
        · exact qHolds_long ks A la ln lc P V R K Bk Rv Kv p v now w H (.inr ⟨h1, .inr ⟨h2, .inr ⟨h3, .inl (by omega)⟩⟩⟩)
      · exact qHolds_long ks A la ln lc P V R K Bk Rv Kv p v now w H (.inr ⟨h1, .inr ⟨h2, .inl (by omega)⟩⟩)
    · exact qHolds_long ks A la ln lc P V R K Bk Rv Kv p v now w H (.inr ⟨h1, .inl (by omega)⟩)
  · exact qHolds_long ks A la ln lc P V R K Bk Rv Kv p v now w H (.inl h1)
end Go.Proofs.Pw
