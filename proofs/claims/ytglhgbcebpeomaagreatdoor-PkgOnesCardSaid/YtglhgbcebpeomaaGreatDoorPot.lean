/- Po: walks and plain laws, joined: PkgOnes. Conditions: at each theorem. -/
import Derived.Test.YtglhgbcebpeomaaGreatDoorPoo
import Derived.Test.YtglhgbcebpeomaaGreatDoorPoq
import Derived.Test.YtglhgbcebpeomaaGreatDoorPor
import Derived.Test.YtglhgbcebpeomaaGreatDoorPos
import Derived.Test.YtglhgbcebpeomaaGreatDoorPoh
import Derived.Test.YtglhgbcebpeomaaGreatDoorPog
import Derived.Deep.RegionHeld2

namespace Go.Proofs.Pw
open Go.RowKit Go.Sort
open Go.Lib hiding intOf
theorem ModsAt.oneAt {w : World} {b o n cap k : Nat} {P V : Nat → ByteArray} (h : ∀ j, j < n → ∃ b' o', some (⟨b, o, none⟩ : Addr) = some ⟨b', o', none⟩ ∧ w.cell? ⟨b', o' + j * 2, none⟩ = some (.string (P j)) ∧ w.cell? ⟨b', o' + j * 2 + 1, none⟩ = some (.string (V j))) (hc : n ≤ cap) (hc2 : cap ≤ 9223372036854775807) (hk : k < n) : ModsAt w (.slice (some ⟨b, o + k * 2, none⟩) 1 (cap - k)) [((P k).data.toList, (V k).data.toList)] := by
  refine ⟨_, 1, cap - k, fun _ => P k, fun _ => V k, rfl, rfl, by omega, by omega, fun j hj => ?_⟩
  obtain rfl : j = 0 := by omega
  obtain ⟨b', o', e, h1, h2⟩ := h k hk
  injection e with e
  injection e with e1 e2
  subst e1 e2
  exact ⟨b, o + k * 2, rfl, h1, h2⟩
theorem ModsAt.cellsC {w : World} {x : Value} {l : List Md} (h : ModsAt w x l) : ∃ a n c P V, x = .slice a n c ∧ l = mdF n P V ∧ n ≤ c ∧ c ≤ 9223372036854775807 ∧ ∀ W, Below w.heap.size w W → ∀ j, j < n → ∃ b o, a = some ⟨b, o, none⟩ ∧ W.cell? ⟨b, o + j * 2, none⟩ = some (.string (P j)) ∧ W.cell? ⟨b, o + j * 2 + 1, none⟩ = some (.string (V j)) := by
  obtain ⟨a, n, c, P, V, e1, e2, h3, h4, h5⟩ := h
  exact ⟨a, n, c, P, V, e1, e2, h3, h4, fun W hW j hj => let ⟨b, o, e, c0, c1⟩ := h5 j hj; ⟨b, o, e, Below.cell_some hW c0, Below.cell_some hW c1⟩⟩
theorem StrsAt.cellsC {w : World} {x : Value} {l : List Str} (h : StrsAt w x l) : ∃ a n c L, x = .slice a n c ∧ l = lstF n L ∧ n ≤ 9223372036854775807 ∧ ∀ W, Below w.heap.size w W → ∀ j, j < n → ∃ b o, a = some ⟨b, o, none⟩ ∧ W.cell? ⟨b, o + j, none⟩ = some (.string (L j)) := by
  obtain ⟨a, n, c, L, e1, e2, h3, h4, h5⟩ := h
  exact ⟨a, n, c, L, e1, e2, Nat.le_trans h3 h4, fun W hW j hj => let ⟨b, o, e, c0⟩ := h5 j hj; ⟨b, o, e, Below.cell_some hW c0⟩⟩
structure PoArgs (ks : List Nat) (A : Nat → Addr) (la : Option Addr) (ln lc : Nat) (P V : Nat → ByteArray) (R : Nat → List Md) (K : Nat → List Str) (Bk : Nat → Bool) (Rv Kv : Nat → Value) (sv : Value) (roots : List Md) (w : World) : Prop where
  idx : IdxKs ks
  env : EnvP ks A w
  l : EntsIn w la ln lc P V R K Bk Rv Kv
  s : ModsAt w sv roots
theorem longI_isO (l : List Md) (most : Nat) : longI l most = if longMods l most then 1 else 0 := rfl
set_option maxHeartbeats 4000000 in
set_option maxRecDepth 100000 in
theorem pkgOnes_long (ks : List Nat) (A : Nat → Addr) (la : Option Addr) (ln lc : Nat) (P V : Nat → ByteArray) (R : Nat → List Md) (K : Nat → List Str) (Bk : Nat → Bool) (Rv Kv : Nat → Value) (sv : Value) (roots : List Md) (w : World) (H : PoArgs ks A la ln lc P V R K Bk Rv Kv sv roots w)
    (hlong : longIdx (enF ln P V R K Bk) = true ∨ (longIdx (enF ln P V R K Bk) = false ∧ (30 < ln ∨ (ln ≤ 30 ∧ longMods roots 15 = true)))) :
    Calls Tryz.prog 5 #[.slice la ln lc, sv] w fun e w' => e = .returned (.bool true) ∧ Below w.heap.size w w' := by
  have hre := packed_calls ks A H.idx w H.env
  have hlx := fun (W : World) (hb : Below w.heap.size w W) => longIndex_in la ln lc P V R K Bk Rv Kv W (H.l.below hb)
  have hlm := fun (W : World) (hb : Below w.heap.size w W) => longMods_calls sv roots 15 W (H.s.below hb)
  rw [longI_isO] at hlm
  replace hre := Lib.hid hre
  replace hlx := Lib.hid hlx
  replace hlm := Lib.hid hlm
  clear H
  rcases hlong with h1 | ⟨h1, h2 | ⟨h2, h3⟩⟩
  · rw [longII_yes h1] at hlx
    clear h1
    go_enter Tryz.func5, Tryz.ntmps5
    go_wp2_with fail
    refine hre.out.mono ?_
    rintro e w1 ⟨rfl, hB⟩
    go_wp2_with fail
    refine (hlx.out _ hB).mono ?_
    rintro e w' ⟨rfl, rfl⟩
    clear hlx hre
    go_wp2_with fail
    go_ret
    exact ⟨rfl, hB⟩
  · rw [longII_no h1] at hlx
    have h2' : (30 : Int) < (ln : Int) := by omega
    clear h1 h2
    go_enter Tryz.func5, Tryz.ntmps5
    go_wp2_with fail
    refine hre.out.mono ?_
    rintro e w1 ⟨rfl, hB⟩
    go_wp2_with fail
    refine (hlx.out _ hB).mono ?_
    rintro e w' ⟨rfl, rfl⟩
    clear hlx hre
    go_wp2_with fail
    go_ret
    exact ⟨rfl, hB⟩
  · rw [longII_no h1] at hlx
    rw [h3] at hlm
    simp only [if_true] at hlm
    have h2' : ¬ (30 : Int) < (ln : Int) := by omega
    clear h1 h2 h3
    go_enter Tryz.func5, Tryz.ntmps5
    go_wp2_with fail
    refine hre.out.mono ?_
    rintro e w1 ⟨rfl, hB⟩
    go_wp2_with fail
    refine (hlx.out _ hB).mono ?_
    rintro e w' ⟨rfl, rfl⟩
    clear hlx hre
    go_wp2_with fail
    refine (hlm.out _ hB).mono ?_
    rintro e w' ⟨rfl, rfl⟩
    go_wp2_with fail
    go_ret
    exact ⟨rfl, hB⟩
set_option maxHeartbeats 16000000 in
set_option maxRecDepth 100000 in
theorem pkgOnes_main (ks : List Nat) (A : Nat → Addr) (la : Option Addr) (ln lc : Nat) (P V : Nat → ByteArray) (R : Nat → List Md) (K : Nat → List Str) (Bk : Nat → Bool) (Rv Kv : Nat → Value) (sv : Value) (roots : List Md) (w : World) (H : PoArgs ks A la ln lc P V R K Bk Rv Kv sv roots w)
    (h1 : longIdx (enF ln P V R K Bk) = false) (h2 : ln ≤ 30) (h3 : longMods roots 15 = false) :
    Calls Tryz.prog 5 #[.slice la ln lc, sv] w fun e w' => e = .returned (.bool true) ∧ Below w.heap.size w w' := by
  have hre := packed_calls ks A H.idx w H.env
  have hlx := fun (W : World) (hb : Below w.heap.size w W) => longIndex_in la ln lc P V R K Bk Rv Kv W (H.l.below hb)
  have hlm := fun (W : World) (hb : Below w.heap.size w W) => longMods_calls sv roots 15 W (H.s.below hb)
  rw [longI_isO, h3] at hlm
  simp only [Bool.false_eq_true, if_false] at hlm
  have hsi := longIdx_short h1
  have hsm := longIdx_small h1
  have hs15 := (longMods_small h3).1
  have h2' : ¬ (30 : Int) < (ln : Int) := by omega
  have HH := Lib.hid H
  have how := fun (W : World) (hb : Below w.heap.size w W) => ownIndex_calls (.slice la ln lc) (enF ln P V R K Bk) W ⟨la, ln, lc, P, V, R, K, Bk, Rv, Kv, rfl, rfl, HH.out.l.below hb⟩ (by have := hsm.1; omega) (fun e he => by
    have h4 := longEn_small (hsm.2 e he)
    have h5 := longMods_small h4.2.2.1
    exact ⟨by omega, by omega⟩)
  have hom := fun (W : World) (hb : Below w.heap.size w W) => ownMods_calls sv roots W (HH.out.s.below hb) (by omega)
  have hE := fun (W : World) (hb : Below w.heap.size w W) => HH.out.env.below hb
  have HKS : Hid (∀ e ∈ enF ln P V R K Bk, e.md.1.length ≤ 70 ∧ ∀ s ∈ e.packs, s.length ≤ 70) := Lib.hid (fun e he => by
    have h4 := longEn_small (hsm.2 e he)
    exact ⟨h4.1, h4.2.2.2.2⟩)
  rw [longII_no h1] at hlx
  have HSI := Lib.hid hsi
  have HI := Lib.hid HH.out.idx
  have HRL := Lib.hid hs15
  replace hre := Lib.hid hre
  replace hlx := Lib.hid hlx
  replace hlm := Lib.hid hlm
  replace how := Lib.hid how
  replace hom := Lib.hid hom
  replace hE := Lib.hid hE
  clear h1 hsi hsm H h3 hs15
  go_enter Tryz.func5, Tryz.ntmps5
  go_wp2_with fail
  refine hre.out.mono ?_
  rintro e w1 ⟨rfl, hB⟩
  go_wp2_with fail
  refine (hlx.out _ hB).mono ?_
  rintro e w' ⟨rfl, rfl⟩
  clear hlx hre
  go_wp2_with fail
  refine (hlm.out _ hB).mono ?_
  rintro e w' ⟨rfl, rfl⟩
  go_wp2_with fail
  clear h2' hlm
  refine (how.out _ hB).mono ?_
  rintro e w2 ⟨⟨ov, rfl, hOE⟩, hb⟩
  replace hB := below_step hB hb
  obtain ⟨oa, on, oc, P', V', R', K', B', Rv', Kv', rfl, hOl, hO⟩ := hOE
  obtain rfl : ln = on := by have := congrArg List.length hOl; rwa [enF_length, enF_length] at this
  rw [hOl] at HSI HKS
  have HO := Lib.hid hO
  clear hO hb how hOl HH
  have hE2 := fun W (hc : Below w2.heap.size w2 W) => hE.out W (below_step hB hc)
  obtain ⟨l, hl⟩ : ∃ l, enF ln P' V' R' K' B' = l := ⟨_, rfl⟩
  have hbu := fun rv W hc (hr : ModsAt W rv roots) => mvsBuild_in ks A HI.out oa ln oc P' V' R' K' B' Rv' Kv' rv roots W (hE2 W hc) (HO.out.below hc) HSI.out hr (by have := HRL.out; omega)
  have hal := fun (v : Value) (S : List Md) W hc (hv : ModsAt W v S) (hS : S.length ≤ 1000000) => pkgAll_in ks A HI.out oa ln oc P' V' R' K' B' Rv' Kv' v S l hl W (hE2 W hc) (HO.out.below hc) (by rw [← hl]; exact HSI.out) hv hS
  have hof := fun (v : Value) (S : List Md) (q : ByteArray) W hc (hv : ModsAt W v S) (hS : S.length ≤ 1000) (hf : (S.filter (selHas l q.data.toList)).length ≤ 19) (hq : q.size ≤ 1000000) => pkgOfM_in ks A HI.out oa ln oc P' V' R' K' B' Rv' Kv' v S q l hl W (hE2 W hc) (HO.out.below hc) (by rw [← hl]; exact HSI.out) hv hS hf hq
  have hpt := fun (s : ByteArray) (hs : s.size ≤ 1000000000) W hc => path_calls ks A HI.out.2.1 s W (hE2 W hc) hs
  have HLN : Hid (l.length = ln) := Lib.hid (by rw [← hl, enF_length])
  simp only [hl] at hbu hal hof HSI HKS
  replace hbu := Lib.hid hbu
  replace hal := Lib.hid hal
  replace hof := Lib.hid hof
  replace hpt := Lib.hid hpt
  clear hl hE2
  go_wp2_with fail
  refine (hom.out _ hB).mono ?_
  rintro e w3 ⟨⟨mv1, rfl, hm1, L1, hL1, hoL1⟩, hb⟩
  have hC := hb
  obtain ⟨a3, n3, c3, rfl⟩ := own_form hoL1
  have hb1 := hbu.out _ _ hC hm1
  replace hb1 := Lib.hid hb1
  clear hb hm1 hL1 hoL1 hom hbu
  go_wp2_with fail
  refine hb1.out.mono ?_
  rintro e w4 ⟨⟨v4, ev4, rfl, hf4, hs4⟩, hb⟩
  replace hC := below_step hC hb
  clear hb hb1
  rcases fault_form hf4 with ⟨h0, rfl⟩ | ⟨h0, ty, q, rfl⟩
  · have HS := Lib.hid (sel_build h0)
    generalize buildR l roots = S at *
    have HSL : Hid (S.length ≤ 30) := Lib.hid (by have := HS.out.len; have := HLN.out; omega)
    obtain ⟨a4, m4, c4, P4, V4, e4, hS4, hmc, hcc, hc4⟩ := hs4.cellsC
    subst e4
    have ha1 := hal.out _ _ _ hC hs4 (by have := HSL.out; omega)
    rw [HS.out.all] at ha1
    have HS4 := Lib.hid hs4
    have HE4 := Lib.hid hS4
    have hm4 : m4 ≤ 30 := by
      have := HSL.out
      rwa [hS4, mdF_length] at this
    replace ha1 := Lib.hid ha1
    replace hc4 := Lib.hid hc4
    clear hf4 h0 hs4 hS4
    go_wp2_with fail
    refine ha1.out.mono ?_
    rintro e w5 ⟨⟨v5, ev5, rfl, hs5, hf5⟩, hb⟩
    obtain rfl : ev5 = .nilIface := by
      rcases fault_form hf5 with ⟨_, h⟩ | ⟨h, _⟩
      · exact h
      · exact absurd rfl h
    have hC4 := hb
    replace hC := below_step hC hb
    obtain ⟨a5, m5, c5, L5, rfl, e5, hm5, hc5⟩ := hs5.cellsC
    have HE5 := Lib.hid e5
    replace hc5 := Lib.hid hc5
    clear hb hf5 hs5 e5 ha1
    go_wp2_with fail
    go_loopw [10, 11, 12, 13, 14, 15, 16, 17, 18] (fun i _ _ _ _ _ _ _ _ wr => ∃ k : Nat, k ≤ m5 ∧ i = .int .i64 k ∧ Below w5.heap.size w5 wr) (fun i _ _ _ _ _ _ _ _ _ => m5 - (intOf i).toNat)
    case atStart => exact ⟨0, Nat.zero_le _, rfl, Below.refl _ _⟩
    case round =>
      obtain ⟨k, hk, rfl, hBr⟩ := hrel
      have hCr := below_step hC hBr
      by_cases hlt : k < m5
      · have hkn : (k : Int) < (m5 : Int) := by omega
        obtain ⟨b1, o1, ea, c00⟩ := hc5.out w5 (Below.refl _ _) k hlt
        have c0 := Below.cell_some hBr c00
        have HC00 := Lib.hid c00
        subst ea
        have hmem : (L5 k).data.toList ∈ allK l S := by rw [HE5.out]; exact lstF_mem'.2 ⟨k, hlt, rfl⟩
        have hqs : (L5 k).size ≤ 141 := by
          obtain ⟨m0, hm0, _, h2⟩ := allK_has hmem
          have h3 := HKS.out _ (entOf_md (HS.out.at_ m0 hm0)).2
          have := packs_len h3.1 h3.2 h2
          rw [size_eq]
          omega
        generalize L5 k = q at *
        have hp1 := hpt.out q (by omega) wr hCr
        have ho1 := fun W hc => hof.out (.slice a4 m4 c4) S q W hc
        have hbad := HS.out.err_bad (q := q.data.toList)
        have hgood := HS.out.err_good hmem
        have HM := Lib.hid hmem
        obtain ⟨mp, mv, hmp, hmv⟩ : ∃ x y : ByteArray, x = ⟨(ofM l S q.data.toList).1.toArray⟩ ∧ y = ⟨(ofM l S q.data.toList).2.toArray⟩ := ⟨_, _, rfl, rfl⟩
        simp only [← hmp, ← hmv] at ho1
        have HMM : Hid (ofM l S q.data.toList = (mp.data.toList, mv.data.toList)) := Lib.hid (by rw [hmp, hmv])
        by_cases hp : pathErr q.data.toList ≠ 0 ∧ pathErr q.data.toList ≠ 4
        · rw [hbad hp] at ho1
          rw [errV_pos A hp.1] at hp1
          have HPE := Lib.hid hp.1
          generalize pathErr q.data.toList = pe at *
          have ho2 := fun W hc (hb : Below w4.heap.size w4 W) => ho1 W hc (HS4.out.below hb) (by have := HSL.out; omega) (Nat.le_trans (HS.out.five _) (by decide)) (by omega)
          replace hp1 := Lib.hid hp1
          replace ho2 := Lib.hid ho2
          clear ho1 hbad hgood hmp hmv hmem hp c00
          go_wp2_with fail
          refine hp1.out.mono ?_
          rintro e w6 ⟨rfl, hb⟩
          replace hBr := below_step hBr hb
          replace hCr := below_step hCr hb
          replace c0 := Below.cell_some hb c0
          clear hb hp1
          go_wp2_with fail
          refine (ho2.out _ hCr (below_step hC4 hBr)).mono ?_
          rintro e w7 ⟨⟨ev7, rfl, hf7⟩, hb⟩
          obtain ⟨ty7, p7, rfl⟩ : ∃ t p, ev7 = .iface t (.pointer p) := by
            rcases fault_form hf7 with ⟨h, _⟩ | ⟨_, h⟩
            · exact absurd h HPE.out
            · exact h
          replace hBr := below_step (below_step hBr hb) (below_alloc w7 (.cells #[.string mp, .string mv] 29))
          clear hb ho2 hf7 c0 hCr
          go_wp2_with fail
          go_roundw
          case rel => exact ⟨k + 1, by omega, by go_num, hBr⟩
          case measure => simp [intOf]; omega
        · rw [hgood hp] at ho1
          have HP := Lib.hid hp
          have HBE := Lib.hid (HS.out.best hmem hp)
          have HBT := Lib.hid (HS.out.best_take hmem hp)
          generalize errV A (pathErr q.data.toList) = EV at *
          have ho2 := fun W hc (hb : Below w4.heap.size w4 W) => ho1 W hc (HS4.out.below hb) (by have := HSL.out; omega) (Nat.le_trans (HS.out.five _) (by decide)) (by omega)
          replace hp1 := Lib.hid hp1
          replace ho2 := Lib.hid ho2
          clear ho1 hbad hgood hmp hmv hmem hp c00
          go_wp2_with fail
          refine hp1.out.mono ?_
          rintro e w6 ⟨rfl, hb⟩
          replace hBr := below_step hBr hb
          replace hCr := below_step hCr hb
          replace c0 := Below.cell_some hb c0
          clear hb hp1
          go_wp2_with fail
          refine (ho2.out _ hCr (below_step hC4 hBr)).mono ?_
          rintro e w7 ⟨⟨ev7, rfl, hf7⟩, hb⟩
          obtain rfl : ev7 = .nilIface := by
            rcases fault_form hf7 with ⟨_, h⟩ | ⟨h, _⟩
            · exact h
            · exact absurd rfl h
          have hyy := box2_alloc w7 (.string mp) (.string mv) 29
          have hba := below_step hb (below_alloc w7 (.cells #[.string mp, .string mv] 29))
          replace hBr := below_step hBr hba
          replace hCr := below_step hCr hba
          clear hb ho2 hf7 c0 hba
          go_wp2_with fail
          generalize w7.alloc (.cells #[.string mp, .string mv] 29) = w8 at *
          generalize w7.heap.size = bx at *
          have HYY := Lib.hid hyy
          have hmS : ∀ j, j < m4 → ((P4 j).data.toList, (V4 j).data.toList) ∈ S := fun j hj => by rw [HE4.out]; exact List.mem_of_getElem? (mdF_get m4 P4 V4 j hj)
          have HXJ : Hid (∀ j, j < m4 → decide (q.data.toList ∈ allK l [((P4 j).data.toList, (V4 j).data.toList)]) = selHas l q.data.toList ((P4 j).data.toList, (V4 j).data.toList)) := Lib.hid (fun j hj => allK_one _ HS.out.zero (HS.out.at_ _ (hmS j hj)))
          have HLEN : Hid (∀ j, j < m4 → (allK l [((P4 j).data.toList, (V4 j).data.toList)]).length ≤ 1000000) := Lib.hid (fun j hj => allK_oneLen HSI.out (HS.out.at_ _ (hmS j hj)))
          have HONE : Hid (∀ j, j < m4 → allErr l [((P4 j).data.toList, (V4 j).data.toList)] = (0, -1)) := Lib.hid (fun j hj => allErr_one HS.out.zero (HS.out.at_ _ (hmS j hj)))
          have HX1 : Hid (∀ j, j < m4 → selHas l q.data.toList ((P4 j).data.toList, (V4 j).data.toList) = true → (P4 j).size ≤ mp.size) := Lib.hid (fun j hj h => by
            have h1 := HS.out.best_len HM.out HP.out (hmS j hj) h
            rw [HMM.out] at h1
            rw [size_eq, size_eq]
            exact h1)
          have HX2 : Hid (∀ j, j < m4 → selHas l q.data.toList ((P4 j).data.toList, (V4 j).data.toList) = false → decide (P4 j = mp ∧ V4 j = mv) = false) := Lib.hid (fun j hj h => decide_eq_false fun hh => by
            have h1 := (List.mem_filter.1 HBE.out).2
            rw [HMM.out, ← hh.1, ← hh.2, h] at h1
            cases h1)
          have HIN : Hid (((mdF m4 P4 V4).any fun m => decide (m = (mp.data.toList, mv.data.toList))) = true) := Lib.hid (by
            have h1 := (List.mem_filter.1 HBE.out).1
            rw [HMM.out, HE4.out] at h1
            exact List.any_eq_true.2 ⟨_, h1, by simp⟩)
          have HCUT : Hid (mp.data.toList = q.data.toList.take mp.size) := Lib.hid (by
            have h1 := HBT.out
            rw [HMM.out] at h1
            rw [size_eq]
            exact h1)
          have hC8 := hCr
          have hC48 := below_step hC4 hBr
          generalize hwq : wr = wq at *
          clear hwq hyy HMM HBT HBE HP HM hmS hCr
          go_wp2_with fail
          go_loopw [14, 15, 16, 17, 18] (fun s i _ _ _ wq => ∃ (j : Nat) (u : Bool), j ≤ m4 ∧ i = .int .i64 j ∧ s = .bool u ∧ Hid (u = (((mdF m4 P4 V4).take j).any fun m => decide (m = (mp.data.toList, mv.data.toList)))) ∧ Below w8.heap.size w8 wq) (fun _ i _ _ _ _ => m4 - (intOf i).toNat)
          case atStart => exact ⟨0, false, Nat.zero_le _, rfl, rfl, Lib.hid (by simp), Below.refl _ _⟩
          case round =>
            obtain ⟨j, u, hj, rfl, rfl, hT, hBj⟩ := hrel
            by_cases hlj : j < m4
            · have hjn : (j : Int) < (m4 : Int) := by omega
              obtain ⟨bq, oq, eq, d0, d1⟩ := hc4.out wr (below_step hC48 hBj) j hlj
              have z0 := Below.cell_some hBj HYY.out.c0
              have z1 := Below.cell_some hBj HYY.out.c1
              have hA := Lib.hid (any_mdT (P := P4) (V := V4) (m := (mp.data.toList, mv.data.toList)) hlj)
              subst eq
              cases u with
              | true =>
                have hN : Hid (true = (((mdF m4 P4 V4).take (j + 1)).any fun m => decide (m = (mp.data.toList, mv.data.toList)))) := Lib.hid (by rw [hA.out, ← hT.out]; rfl)
                go_wp2_with fail
                refine wp_region_quiet_patch (by kernel_rfl) (by kernel_rfl) ?_
                repeat (go_big_quiet_step (fail))
                refine wpQuiet_nil ?_
                intro _ hw'
                obtain ⟨⟨dq, osq⟩, hw''⟩ := hw'
                subst hw''
                have hb := below_patch wr dq osq
                replace hBj := below_step hBj hb
                clear hb
                generalize patch wr dq osq = wq1 at hBj ⊢
                have ha2 := hal.out _ _ _ (below_step hC8 hBj) (ModsAt.oneAt (hc4.out _ (below_step hC48 hBj)) hmc hcc hlj) (by simp)
                rw [HONE.out j hlj] at ha2
                replace ha2 := Lib.hid ha2
                clear d0 d1 z0 z1
                go_wp2_with fail
                refine ha2.out.mono ?_
                rintro e w11 ⟨⟨v11, ev11, rfl, hs11, hf11⟩, hb⟩
                obtain rfl : ev11 = .nilIface := by
                  rcases fault_form hf11 with ⟨_, h⟩ | ⟨h, _⟩
                  · exact h
                  · exact absurd rfl h
                obtain ⟨a11, m11, c11, _, e11, -⟩ := id hs11
                subst e11
                replace hBj := below_step hBj hb
                have c0 := Below.cell_some (below_step hBr hBj) HC00.out
                have hit := inTexts_calls q _ _ w11 hs11 (HLEN.out j hlj)
                rw [HXJ.out j hlj] at hit
                replace hit := Lib.hid hit
                clear hb hf11 hs11 ha2
                go_wp2_with fail
                refine hit.out.mono ?_
                rintro e w12 ⟨rfl, hb⟩
                replace hBj := below_step hBj hb
                clear c0 hb hit
                have z0 := Below.cell_some hBj HYY.out.c0
                have z1 := Below.cell_some hBj HYY.out.c1
                obtain ⟨bq2, oq2, eq2, d0, d1⟩ := hc4.out w12 (below_step hC48 hBj) j hlj
                injection eq2 with eq2
                injection eq2 with eqa eqb
                subst eqa eqb
                have hg := Tryz.md_guard
                have he := md_eql (P4 j) (V4 j) mp mv
                have hx1 := HX1.out j hlj
                have hx2 := HX2.out j hlj
                generalize selHas l q.data.toList ((P4 j).data.toList, (V4 j).data.toList) = X at *
                generalize decide (P4 j = mp ∧ V4 j = mv) = D at *
                cases X with
                | true =>
                  have hx3 := hx1 rfl
                  replace hx1 := Lib.hid hx1
                  replace hx2 := Lib.hid hx2
                  cases D with
                  | true =>
                    go_wp2_with fail
                    have hq1 : decide ((mp.size : Int) < ((P4 j).size : Int)) = false := decide_eq_false (by omega)
                    have hq2 : decide (mp.size < (P4 j).size) = false := decide_eq_false (by omega)
                    have kqd0 := fun d os => cell_patch (d := d) (os := os) d0
                    have kqd1 := fun d os => cell_patch (d := d) (os := os) d1
                    have kqz0 := fun d os => cell_patch (d := d) (os := os) z0
                    have kqz1 := fun d os => cell_patch (d := d) (os := os) z1
                    refine wp_region_quiet_patch (by kernel_rfl) (by kernel_rfl) ?_
                    repeat (go_big_quiet_step (fail))
                    refine wpQuiet_nil ?_
                    intro _ hw'
                    obtain ⟨⟨dq, osq⟩, hw''⟩ := hw'
                    subst hw''
                    clear kqd0 kqd1 kqz0 kqz1
                    have hb := below_patch w12 dq osq
                    replace hBj := below_step hBj hb
                    clear hb
                    generalize patch w12 dq osq = wq2 at hBj ⊢
                    clear d0 d1 z0 z1 he hx3 hq1 hq2
                    go_wp2_with fail
                    go_roundw
                    case rel => exact ⟨j + 1, true, by omega, by go_num, rfl, hN, hBj⟩
                    case measure => simp [intOf]; omega
                  | false =>
                    go_wp2_with fail
                    have hq1 : decide ((mp.size : Int) < ((P4 j).size : Int)) = false := decide_eq_false (by omega)
                    have hq2 : decide (mp.size < (P4 j).size) = false := decide_eq_false (by omega)
                    have kqd0 := fun d os => cell_patch (d := d) (os := os) d0
                    have kqd1 := fun d os => cell_patch (d := d) (os := os) d1
                    have kqz0 := fun d os => cell_patch (d := d) (os := os) z0
                    have kqz1 := fun d os => cell_patch (d := d) (os := os) z1
                    refine wp_region_quiet_patch (by kernel_rfl) (by kernel_rfl) ?_
                    repeat (go_big_quiet_step (fail))
                    refine wpQuiet_nil ?_
                    intro _ hw'
                    obtain ⟨⟨dq, osq⟩, hw''⟩ := hw'
                    subst hw''
                    clear kqd0 kqd1 kqz0 kqz1
                    have hb := below_patch w12 dq osq
                    replace hBj := below_step hBj hb
                    clear hb
                    generalize patch w12 dq osq = wq2 at hBj ⊢
                    clear d0 d1 z0 z1 he hx3 hq1 hq2
                    go_wp2_with fail
                    go_roundw
                    case rel => exact ⟨j + 1, true, by omega, by go_num, rfl, hN, hBj⟩
                    case measure => simp [intOf]; omega
                | false =>
                  obtain rfl := hx2 rfl
                  replace hx1 := Lib.hid hx1
                  replace hx2 := Lib.hid hx2
                  go_wp2_with fail
                  have kqd0 := fun d os => cell_patch (d := d) (os := os) d0
                  have kqd1 := fun d os => cell_patch (d := d) (os := os) d1
                  have kqz0 := fun d os => cell_patch (d := d) (os := os) z0
                  have kqz1 := fun d os => cell_patch (d := d) (os := os) z1
                  refine wp_region_quiet_patch (by kernel_rfl) (by kernel_rfl) ?_
                  repeat (go_big_quiet_step (fail))
                  refine wpQuiet_nil ?_
                  intro _ hw'
                  obtain ⟨⟨dq, osq⟩, hw''⟩ := hw'
                  subst hw''
                  clear kqd0 kqd1 kqz0 kqz1
                  have hb := below_patch w12 dq osq
                  replace hBj := below_step hBj hb
                  clear hb
                  generalize patch w12 dq osq = wq2 at hBj ⊢
                  clear d0 d1 z0 z1 he
                  go_wp2_with fail
                  go_roundw
                  case rel => exact ⟨j + 1, true, by omega, by go_num, rfl, hN, hBj⟩
                  case measure => simp [intOf]; omega
              | false =>
                have hg := Tryz.md_guard
                have he := md_eql (P4 j) (V4 j) mp mv
                obtain ⟨D, hD⟩ : ∃ D, decide (P4 j = mp ∧ V4 j = mv) = D := ⟨_, rfl⟩
                have hN : Hid (D = (((mdF m4 P4 V4).take (j + 1)).any fun m => decide (m = (mp.data.toList, mv.data.toList)))) := Lib.hid (by
                  rw [hA.out, ← hT.out, Bool.false_or, ← hD, Bool.eq_iff_iff, decide_eq_true_iff, decide_eq_true_iff]
                  exact bytes_pair.symm)
                rw [hD] at he
                clear hD
                go_wp2_with fail
                have kqd0 := fun d os => cell_patch (d := d) (os := os) d0
                have kqd1 := fun d os => cell_patch (d := d) (os := os) d1
                have kqz0 := fun d os => cell_patch (d := d) (os := os) z0
                have kqz1 := fun d os => cell_patch (d := d) (os := os) z1
                refine wp_region_quiet_patch (by kernel_rfl) (by kernel_rfl) ?_
                repeat (go_big_quiet_step (fail))
                refine wpQuiet_nil ?_
                intro _ hw'
                obtain ⟨⟨dq, osq⟩, hw''⟩ := hw'
                subst hw''
                clear kqd0 kqd1 kqz0 kqz1
                have hb := below_patch wr dq osq
                replace hBj := below_step hBj hb
                clear hb
                generalize patch wr dq osq = wq1 at hBj ⊢
                clear he hg
                have ha2 := hal.out _ _ _ (below_step hC8 hBj) (ModsAt.oneAt (hc4.out _ (below_step hC48 hBj)) hmc hcc hlj) (by simp)
                rw [HONE.out j hlj] at ha2
                replace ha2 := Lib.hid ha2
                clear d0 d1 z0 z1
                go_wp2_with fail
                refine ha2.out.mono ?_
                rintro e w11 ⟨⟨v11, ev11, rfl, hs11, hf11⟩, hb⟩
                obtain rfl : ev11 = .nilIface := by
                  rcases fault_form hf11 with ⟨_, h⟩ | ⟨h, _⟩
                  · exact h
                  · exact absurd rfl h
                obtain ⟨a11, m11, c11, _, e11, -⟩ := id hs11
                subst e11
                replace hBj := below_step hBj hb
                have c0 := Below.cell_some (below_step hBr hBj) HC00.out
                have hit := inTexts_calls q _ _ w11 hs11 (HLEN.out j hlj)
                rw [HXJ.out j hlj] at hit
                replace hit := Lib.hid hit
                clear hb hf11 hs11 ha2
                go_wp2_with fail
                refine hit.out.mono ?_
                rintro e w12 ⟨rfl, hb⟩
                replace hBj := below_step hBj hb
                clear c0 hb hit
                have z0 := Below.cell_some hBj HYY.out.c0
                have z1 := Below.cell_some hBj HYY.out.c1
                obtain ⟨bq2, oq2, eq2, d0, d1⟩ := hc4.out w12 (below_step hC48 hBj) j hlj
                injection eq2 with eq2
                injection eq2 with eqa eqb
                subst eqa eqb
                have hg := Tryz.md_guard
                have he := md_eql (P4 j) (V4 j) mp mv
                have hx1 := HX1.out j hlj
                have hx2 := HX2.out j hlj
                generalize selHas l q.data.toList ((P4 j).data.toList, (V4 j).data.toList) = X at *
                generalize decide (P4 j = mp ∧ V4 j = mv) = D at *
                cases X with
                | true =>
                  have hx3 := hx1 rfl
                  replace hx1 := Lib.hid hx1
                  replace hx2 := Lib.hid hx2
                  cases D with
                  | true =>
                    go_wp2_with fail
                    have hq1 : decide ((mp.size : Int) < ((P4 j).size : Int)) = false := decide_eq_false (by omega)
                    have hq2 : decide (mp.size < (P4 j).size) = false := decide_eq_false (by omega)
                    have kqd0 := fun d os => cell_patch (d := d) (os := os) d0
                    have kqd1 := fun d os => cell_patch (d := d) (os := os) d1
                    have kqz0 := fun d os => cell_patch (d := d) (os := os) z0
                    have kqz1 := fun d os => cell_patch (d := d) (os := os) z1
                    refine wp_region_quiet_patch (by kernel_rfl) (by kernel_rfl) ?_
                    repeat (go_big_quiet_step (fail))
                    refine wpQuiet_nil ?_
                    intro _ hw'
                    obtain ⟨⟨dq, osq⟩, hw''⟩ := hw'
                    subst hw''
                    clear kqd0 kqd1 kqz0 kqz1
                    have hb := below_patch w12 dq osq
                    replace hBj := below_step hBj hb
                    clear hb
                    generalize patch w12 dq osq = wq2 at hBj ⊢
                    clear d0 d1 z0 z1 he hx3 hq1 hq2
                    go_wp2_with fail
                    go_roundw
                    case rel => exact ⟨j + 1, D, by omega, by go_num, rfl, hN, hBj⟩
                    case measure => simp [intOf]; omega
                  | false =>
                    go_wp2_with fail
                    have hq1 : decide ((mp.size : Int) < ((P4 j).size : Int)) = false := decide_eq_false (by omega)
                    have hq2 : decide (mp.size < (P4 j).size) = false := decide_eq_false (by omega)
                    have kqd0 := fun d os => cell_patch (d := d) (os := os) d0
                    have kqd1 := fun d os => cell_patch (d := d) (os := os) d1
                    have kqz0 := fun d os => cell_patch (d := d) (os := os) z0
                    have kqz1 := fun d os => cell_patch (d := d) (os := os) z1
                    refine wp_region_quiet_patch (by kernel_rfl) (by kernel_rfl) ?_
                    repeat (go_big_quiet_step (fail))
                    refine wpQuiet_nil ?_
                    intro _ hw'
                    obtain ⟨⟨dq, osq⟩, hw''⟩ := hw'
                    subst hw''
                    clear kqd0 kqd1 kqz0 kqz1
                    have hb := below_patch w12 dq osq
                    replace hBj := below_step hBj hb
                    clear hb
                    generalize patch w12 dq osq = wq2 at hBj ⊢
                    clear d0 d1 z0 z1 he hx3 hq1 hq2
                    go_wp2_with fail
                    go_roundw
                    case rel => exact ⟨j + 1, D, by omega, by go_num, rfl, hN, hBj⟩
                    case measure => simp [intOf]; omega
                | false =>
                  obtain rfl := hx2 rfl
                  replace hx1 := Lib.hid hx1
                  replace hx2 := Lib.hid hx2
                  go_wp2_with fail
                  have kqd0 := fun d os => cell_patch (d := d) (os := os) d0
                  have kqd1 := fun d os => cell_patch (d := d) (os := os) d1
                  have kqz0 := fun d os => cell_patch (d := d) (os := os) z0
                  have kqz1 := fun d os => cell_patch (d := d) (os := os) z1
                  refine wp_region_quiet_patch (by kernel_rfl) (by kernel_rfl) ?_
                  repeat (go_big_quiet_step (fail))
                  refine wpQuiet_nil ?_
                  intro _ hw'
                  obtain ⟨⟨dq, osq⟩, hw''⟩ := hw'
                  subst hw''
                  clear kqd0 kqd1 kqz0 kqz1
                  have hb := below_patch w12 dq osq
                  replace hBj := below_step hBj hb
                  clear hb
                  generalize patch w12 dq osq = wq2 at hBj ⊢
                  clear d0 d1 z0 z1 he
                  go_wp2_with fail
                  go_roundw
                  case rel => exact ⟨j + 1, D, by omega, by go_num, rfl, hN, hBj⟩
                  case measure => simp [intOf]; omega
            · have hjn : ¬ (j : Int) < (m4 : Int) := by omega
              obtain rfl : u = true := by rw [hT.out, List.take_of_length_le (by rw [mdF_length]; omega)]; exact HIN.out
              have z0 := Below.cell_some hBj HYY.out.c0
              have z1 := Below.cell_some hBj HYY.out.c1
              have c0 := Below.cell_some (below_step hBr hBj) HC00.out
              have hcz : mp.size ≤ q.size := by
                have h1 := congrArg List.length HCUT.out
                rw [List.length_take] at h1
                rw [size_eq, size_eq]
                omega
              have HCB := Lib.hid hcz
              clear hT hlj hj
              go_wp2_with fail
              have hq1 : decide ((q.size : Int) < (mp.size : Int)) = false := decide_eq_false (by omega)
              have hq2 : decide (q.size < mp.size) = false := decide_eq_false (by omega)
              have kqc0 := fun d os => cell_patch (d := d) (os := os) c0
              have kqz0 := fun d os => cell_patch (d := d) (os := os) z0
              have kqz1 := fun d os => cell_patch (d := d) (os := os) z1
              refine wp_region_quiet_patch (by kernel_rfl) (by kernel_rfl) ?_
              repeat (go_big_quiet_step (fail))
              refine wpQuiet_nil ?_
              intro _ hw'
              obtain ⟨⟨dq, osq⟩, hw''⟩ := hw'
              subst hw''
              clear kqc0 kqz0 kqz1
              have hb := below_patch wr dq osq
              replace hBj := below_step hBj hb
              replace c0 := Below.cell_some hb c0
              replace z0 := Below.cell_some hb z0
              replace z1 := Below.cell_some hb z1
              clear hb
              generalize patch wr dq osq = wq1 at hBj c0 z0 z1 ⊢
              clear hq1 hq2
              go_wp2_with fail
              have hcz2 : (mp.size : Int) ≤ (q.size : Int) := by omega
              have kqc0 := fun d os => cell_patch (d := d) (os := os) c0
              have kqz0 := fun d os => cell_patch (d := d) (os := os) z0
              have kqz1 := fun d os => cell_patch (d := d) (os := os) z1
              refine wp_region_quiet_patch (by kernel_rfl) (by kernel_rfl) ?_
              repeat (go_big_quiet_step (fail))
              refine wpQuiet_nil ?_
              intro _ hw'
              obtain ⟨⟨dq, osq⟩, hw''⟩ := hw'
              subst hw''
              clear kqc0 kqz0 kqz1
              have hb := below_patch wq1 dq osq
              replace hBj := below_step hBj hb
              replace c0 := Below.cell_some hb c0
              replace z0 := Below.cell_some hb z0
              replace z1 := Below.cell_some hb z1
              clear hb
              generalize patch wq1 dq osq = wq2 at hBj c0 z0 z1 ⊢
              have hex : q.extract 0 mp.size = mp := bytes_eq.1 (by rw [HCUT.out]; simp)
              rw [hex]
              have hbe : (mp.toList == mp.toList) = true := beq_self_eq_true _
              rw [hbe]
              clear hbe hex
              replace hBr := below_step hBr hBj
              clear c0 z0 z1 hC8 hC48 hBj hcz hcz2
              go_wp2_with fail
              go_roundw
              case rel => exact ⟨k + 1, by omega, by go_num, hBr⟩
              case measure => simp [intOf]; omega
      · have hkn : ¬ (k : Int) < (m5 : Int) := by omega
        clear hlt hk
        go_wp2_with fail
        go_ret
        exact ⟨rfl, below_step hB hCr⟩
  · clear hf4 h0 hs4
    go_wp2_with fail
    go_ret
    exact ⟨rfl, below_step hB hC⟩
set_option maxHeartbeats 4000000 in
theorem pkgOnes_calls (ks : List Nat) (A : Nat → Addr) (hks : IdxKs ks) (lv sv : Value) (l : List En) (roots : List Md) (w : World) (hE : EnvP ks A w) (hl : EntsAt w lv l) (hs : ModsAt w sv roots) :
    Calls Tryz.prog 5 #[lv, sv] w fun e w' => e = .returned (.bool true) ∧ Below w.heap.size w w' := by
  obtain ⟨la, ln, lc, P, V, R, K, Bk, Rv, Kv, rfl, rfl, hin⟩ := hl
  have H : PoArgs ks A la ln lc P V R K Bk Rv Kv sv roots w := ⟨hks, hE, hin, hs⟩
  cases h1 : longIdx (enF ln P V R K Bk)
  · by_cases h2 : ln ≤ 30
    · cases h3 : longMods roots 15
      · exact pkgOnes_main ks A la ln lc P V R K Bk Rv Kv sv roots w H h1 h2 h3
      · exact pkgOnes_long ks A la ln lc P V R K Bk Rv Kv sv roots w H (.inr ⟨h1, .inr ⟨h2, h3⟩⟩)
    · exact pkgOnes_long ks A la ln lc P V R K Bk Rv Kv sv roots w H (.inr ⟨h1, .inl (by omega)⟩)
  · exact pkgOnes_long ks A la ln lc P V R K Bk Rv Kv sv roots w H (.inl h1)
end Go.Proofs.Pw
