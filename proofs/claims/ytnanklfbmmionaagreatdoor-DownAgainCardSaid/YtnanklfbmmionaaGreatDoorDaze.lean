/- Da: walks and plain laws, joined: DnAgain. Conditions: at each theorem. -/
import Derived.Test.YtnanklfbmmionaaGreatDoorDazd
import Derived.Test.YtnanklfbmmionaaGreatDoorDau

namespace Go.Proofs.Pw
open Go.RowKit
open Go.Lib hiding intOf
theorem bad_any {l : List En} {caps : List Md} {M : Nat → Bool} (hR : RightI l) (hM : ∀ j, j < l.length → (M j = true ↔ BadP l caps (enAt l j).md)) {k : Nat} (hk : k < l.length) : M k = (aboveB caps (enAt l k).md || (enAt l k).reqs.any fun r => M (findE l r).toNat) := by
  rw [Bool.eq_iff_iff, hM k hk, badP_iff hR hk, Bool.or_eq_true, List.any_eq_true]
  have key : ∀ r ∈ (enAt l k).reqs, (BadP l caps r ↔ M (findE l r).toNat = true) := fun r hr => by
    obtain ⟨e, he, h1⟩ := hR.all _ (enAt_mem hk) r hr
    obtain ⟨h2, _, h3⟩ := hR.at_ he h1
    rw [hM _ h2, h3]
  constructor
  · rintro (h | ⟨r, hr, h⟩)
    · exact .inl h
    · exact .inr ⟨r, hr, (key r hr).1 h⟩
  · rintro (h | ⟨r, hr, h⟩)
    · exact .inl h
    · exact .inr ⟨r, hr, (key r hr).2 h⟩
theorem badErr_right {l : List En} {caps : List Md} (h0 : (idxErr l).1 = 0) (h : RightC caps) : badErr l caps = (0, -1) := badErr_at (by
  unfold badErr
  rw [orE_zero, capsErr_of h]
  exact ⟨h0, rfl⟩)
theorem toErr_right {l : List En} {roots caps : List Md} (h0 : (idxErr l).1 = 0) (h : RightC caps) (hr : ∀ m ∈ roots, ∃ e ∈ l, e.md = m) : toErr l roots caps = (0, -1) := toErr_at (by
  unfold toErr
  rw [orE_zero, badErr_right h0 h]
  exact ⟨rfl, rootsErr_zero.2 hr⟩)
theorem BadAt.row {w : World} {x : Value} {l : List En} {caps : List Md} {n : Nat} (h : BadAt w x l caps) (hn : l.length = n) : ∃ (g : Nat) (M : Nat → Bool), x = .slice (some ⟨g, 0, none⟩) n n ∧ MarkRow w g n M ∧ ∀ j, j < n → (M j = true ↔ BadP l caps (enAt l j).md) := by
  subst hn
  exact h
set_option maxHeartbeats 4000000 in
set_option maxRecDepth 100000 in
theorem downAgain_long (ks : List Nat) (A : Nat → Addr) (la : Option Addr) (ln lc : Nat) (P V : Nat → ByteArray) (R : Nat → List Md) (K : Nat → List Str) (Bk : Nat → Bool) (Rv Kv : Nat → Value) (av bv : Value) (Am Bm : List Md) (z : Int) (w : World) (H : DnArgs ks A la ln lc P V R K Bk Rv Kv av bv Am Bm w)
    (hlong : longIdx (enF ln P V R K Bk) = true ∨ (longIdx (enF ln P V R K Bk) = false ∧ (¬ (longMods Am 15 = false ∧ longMods Bm 15 = false) ∨ (longMods Am 15 = false ∧ longMods Bm 15 = false ∧ z < 0)))) :
    Calls Tryz.prog 4 #[.slice la ln lc, av, bv, .int .i64 z] w fun e w' => e = .returned (.bool true) ∧ Below w.heap.size w w' := by
  obtain ⟨a1, n1, c1, _, _, rfl, _⟩ := id H.a
  obtain ⟨a2, n2, c2, _, _, rfl, _⟩ := id H.b
  have hre := lowered_calls ks A H.idx w H.env
  have hlx := fun (W : World) (hb : Below w.heap.size w W) => longIndex_in la ln lc P V R K Bk Rv Kv W (H.l.below hb)
  have hlm1 := fun (W : World) (hb : Below w.heap.size w W) => longMods_calls (.slice a1 n1 c1) Am 15 W (H.a.below hb)
  have hlm2 := fun (W : World) (hb : Below w.heap.size w W) => longMods_calls (.slice a2 n2 c2) Bm 15 W (H.b.below hb)
  replace hre := Lib.hid hre
  replace hlx := Lib.hid hlx
  replace hlm1 := Lib.hid hlm1
  replace hlm2 := Lib.hid hlm2
  clear H
  rcases hlong with h1 | ⟨h1, h3 | ⟨h3, h4, h5⟩⟩
  · rw [longII_yes h1] at hlx
    clear h1
    go_enter Tryz.func4, Tryz.ntmps4
    go_wp2_with fail
    refine hre.out.mono ?_
    rintro e w1 ⟨rfl, hB⟩
    go_wp2_with fail
    refine (hlx.out _ hB).mono ?_
    rintro e w' ⟨rfl, rfl⟩
    go_wp2_with fail
    go_ret
    exact ⟨rfl, hB⟩
  · rw [longII_no h1] at hlx
    clear h1
    cases h4 : longMods Am 15 <;> cases h5 : longMods Bm 15
    · exact absurd ⟨h4, h5⟩ h3
    all_goals
      clear h3
      have e1 := longI_isD Am 15
      have e2 := longI_isD Bm 15
      rw [h4] at e1
      rw [h5] at e2
      simp only [e1, e2] at hlm1 hlm2
      clear h4 h5 e1 e2
      go_enter Tryz.func4, Tryz.ntmps4
      go_wp2_with fail
      refine hre.out.mono ?_
      rintro e w1 ⟨rfl, hB⟩
      go_wp2_with fail
      refine (hlx.out _ hB).mono ?_
      rintro e w' ⟨rfl, rfl⟩
      go_wp2_with fail
      refine (hlm1.out _ hB).mono ?_
      rintro e w' ⟨rfl, rfl⟩
      go_wp2_with fail
      refine (hlm2.out _ hB).mono ?_
      rintro e w' ⟨rfl, rfl⟩
      go_wp2_with fail
      go_ret
      exact ⟨rfl, hB⟩
  · rw [longII_no h1] at hlx
    rw [longI_no h3] at hlm1
    rw [longI_no h4] at hlm2
    clear h1 h3 h4
    go_enter Tryz.func4, Tryz.ntmps4
    go_wp2_with fail
    refine hre.out.mono ?_
    rintro e w1 ⟨rfl, hB⟩
    go_wp2_with fail
    refine (hlx.out _ hB).mono ?_
    rintro e w' ⟨rfl, rfl⟩
    go_wp2_with fail
    refine (hlm1.out _ hB).mono ?_
    rintro e w' ⟨rfl, rfl⟩
    go_wp2_with fail
    refine (hlm2.out _ hB).mono ?_
    rintro e w' ⟨rfl, rfl⟩
    go_wp2_with fail
    go_ret
    exact ⟨rfl, hB⟩
set_option maxHeartbeats 16000000 in
set_option maxRecDepth 100000 in
theorem downAgain_main (ks : List Nat) (A : Nat → Addr) (la : Option Addr) (ln lc : Nat) (P V : Nat → ByteArray) (R : Nat → List Md) (K : Nat → List Str) (Bk : Nat → Bool) (Rv Kv : Nat → Value) (av bv : Value) (Am Bm : List Md) (j : Nat) (w : World) (H : DnArgs ks A la ln lc P V R K Bk Rv Kv av bv Am Bm w)
    (h1 : longIdx (enF ln P V R K Bk) = false) (h3 : longMods Am 15 = false) (h4 : longMods Bm 15 = false) :
    Calls Tryz.prog 4 #[.slice la ln lc, av, bv, .int .i64 (j : Int)] w fun e w' => e = .returned (.bool true) ∧ Below w.heap.size w w' := by
  obtain ⟨a1, n1, c1, _, _, rfl, _⟩ := id H.a
  obtain ⟨a2, n2, c2, _, _, rfl, _⟩ := id H.b
  have hre := lowered_calls ks A H.idx w H.env
  have hlx := fun (W : World) (hb : Below w.heap.size w W) => longIndex_in la ln lc P V R K Bk Rv Kv W (H.l.below hb)
  have hlm1 := fun (W : World) (hb : Below w.heap.size w W) => longMods_calls (.slice a1 n1 c1) Am 15 W (H.a.below hb)
  have hlm2 := fun (W : World) (hb : Below w.heap.size w W) => longMods_calls (.slice a2 n2 c2) Bm 15 W (H.b.below hb)
  have hsi := longIdx_short h1
  have hsm := longIdx_small h1
  have hA1 := longMods_small h3
  have hA2 := longMods_small h4
  have HH := Lib.hid H
  have HSI := Lib.hid hsi
  have how := fun (W : World) (hb : Below w.heap.size w W) => ownIndex_calls (.slice la ln lc) (enF ln P V R K Bk) W ⟨la, ln, lc, P, V, R, K, Bk, Rv, Kv, rfl, rfl, HH.out.l.below hb⟩ (by have := hsm.1; omega) (fun e he => by
    have h4 := longEn_small (hsm.2 e he)
    have h5 := longMods_small h4.2.2.1
    exact ⟨by omega, by omega⟩)
  have hom1 := fun (W : World) (hb : Below w.heap.size w W) => ownMods_calls (.slice a1 n1 c1) Am W (HH.out.a.below hb) (by omega)
  have hom2 := fun (W : World) (hb : Below w.heap.size w W) => ownMods_calls (.slice a2 n2 c2) Bm W (HH.out.b.below hb) (by omega)
  have hE := fun (W : World) (hb : Below w.heap.size w W) => HH.out.env.below hb
  rw [longII_no h1] at hlx
  rw [longI_no h3] at hlm1
  rw [longI_no h4] at hlm2
  have HAS := Lib.hid (And.intro hA1.2 hA2.2)
  have HAL := Lib.hid (And.intro hA1.1 hA2.1)
  have HI := Lib.hid HH.out.idx
  have hsA : Short Am := ⟨by omega, fun m hm => by have := hA1.2 m hm; omega⟩
  have hsB : Short Bm := ⟨by omega, fun m hm => by have := hA2.2 m hm; omega⟩
  have HSB := Lib.hid hsB
  have HSA := Lib.hid hsA
  have hln : ln ≤ 101 := by have := hsm.1; rwa [enF_length] at this
  have hj0 : ¬ (j : Int) < 0 := by omega
  have HVS : Hid (∀ j, j < ln → (V j).size ≤ 1000000) := Lib.hid (fun j hj => (hsi.at_ hj).2.2.1)
  have HRL : Hid (∀ j, j < ln → (R j).length ≤ 1000000) := Lib.hid (fun j hj => (hsi.at_ hj).2.2.2.1.1)
  have HLB := Lib.hid (fun (W : World) (hb : Below w.heap.size w W) => HH.out.l.below hb)
  have HBB := Lib.hid (fun (W : World) (hb : Below w.heap.size w W) => HH.out.b.below hb)
  have hcp := fun (p q : ByteArray) (hq : q.size ≤ 1000000) (W : World) (hb : Below w.heap.size w W) => capped_calls (.slice a2 n2 c2) Bm p q W (HH.out.b.below hb) (fun m hm => by have := hA2.2 m hm; omega) (by omega)
  have hfo := fun (p v : ByteArray) (W : World) (hb : Below w.heap.size w W) => findOf_in la ln lc P V R K Bk Rv Kv p v W (HH.out.l.below hb) (by omega)
  have HLN0 : (enF ln P V R K Bk).length = ln := enF_length _ _ _ _ _ _
  have HEN0 : ∀ j, j < ln → enAt (enF ln P V R K Bk) j = ⟨((P j).data.toList, (V j).data.toList), R j, K j, Bk j⟩ := fun j hj => enAt_enF hj
  generalize hl0 : enF ln P V R K Bk = l at *
  have HLN := Lib.hid HLN0
  have HEN := Lib.hid HEN0
  have hto := fun (oa : Option Addr) (on oc : Nat) P' V' R' K' B' Rv' Kv' (hOl : l = enF on P' V' R' K' B') (W : World) (hb : Below w.heap.size w W) (hO : EntsIn W oa on oc P' V' R' K' B' Rv' Kv') (rv cv : Value) (roots : List Md) (hr : ModsAt W rv roots) (hrl : roots.length ≤ 10000) (hrs : Short roots) (hc : ModsAt W cv Bm) => to_in ks A HI.out oa on oc P' V' R' K' B' Rv' Kv' rv cv roots Bm W (hE W hb) hO (by rw [← hOl]; exact HSI.out) hr hrl hrs hc HSB.out
  have hbd := fun (oa : Option Addr) (on oc : Nat) P' V' R' K' B' Rv' Kv' (hOl : l = enF on P' V' R' K' B') (W : World) (hb : Below w.heap.size w W) (hO : EntsIn W oa on oc P' V' R' K' B' Rv' Kv') (cv : Value) (caps : List Md) (hr : ModsAt W cv caps) (hs : Short caps) => bad_in ks A HI.out oa on oc P' V' R' K' B' Rv' Kv' cv caps W (hE W hb) hO (by rw [← hOl]; exact HSI.out) hr hs
  have HAA := Lib.hid (fun (W : World) (hb : Below w.heap.size w W) => HH.out.a.below hb)
  replace hre := Lib.hid hre
  replace hlx := Lib.hid hlx
  replace hlm1 := Lib.hid hlm1
  replace hlm2 := Lib.hid hlm2
  replace how := Lib.hid how
  replace hom1 := Lib.hid hom1
  replace hom2 := Lib.hid hom2
  replace hE := Lib.hid hE
  replace hto := Lib.hid hto
  replace hbd := Lib.hid hbd
  replace hcp := Lib.hid hcp
  replace hfo := Lib.hid hfo
  clear h1 h3 h4 hsi hsm hA1 hA2 H hl0 hsA hsB HLN0 HEN0
  go_enter Tryz.func4, Tryz.ntmps4
  go_wp2_with fail
  refine hre.out.mono ?_
  rintro e w1 ⟨rfl, hB⟩
  go_wp2_with fail
  refine (hlx.out _ hB).mono ?_
  rintro e w' ⟨rfl, rfl⟩
  go_wp2_with fail
  refine (hlm1.out _ hB).mono ?_
  rintro e w' ⟨rfl, rfl⟩
  go_wp2_with fail
  refine (hlm2.out _ hB).mono ?_
  rintro e w' ⟨rfl, rfl⟩
  clear hre hlx hlm1 hlm2
  go_wp2_with fail
  clear hj0
  refine (how.out _ hB).mono ?_
  rintro e w2 ⟨⟨ov, rfl, hOE⟩, hb⟩
  replace hB := below_step hB hb
  obtain ⟨oa, on, oc, P', V', R', K', B', Rv', Kv', rfl, hOl, hO⟩ := hOE
  have HO := Lib.hid hO
  have HOL := Lib.hid hOl
  have hC := Below.refl w2.heap.size w2
  clear hO hOl hb how
  go_wp2_with fail
  refine (hom1.out _ hB).mono ?_
  rintro e w3 ⟨⟨v3, rfl, hM3, _⟩, hb⟩
  replace hB := below_step hB hb
  replace hC := below_step hC hb
  obtain ⟨a3, n3, c3, _, _, rfl, _⟩ := id hM3
  have HM3 := Lib.hid hM3
  clear hb hM3
  go_wp2_with fail
  refine (hom2.out _ hB).mono ?_
  rintro e w4 ⟨⟨v4, rfl, hM4, _⟩, hb⟩
  replace hB := below_step hB hb
  replace hC := below_step hC hb
  obtain ⟨a4, n4, c4, _, _, rfl, _⟩ := id hM4
  have hr5 := hto.out oa on oc _ _ _ _ _ _ _ HOL.out _ hB (HO.out.below hC) _ _ _ (HM3.out.below hb) (by have := HAL.out; omega) HSA.out hM4
  rw [← HOL.out] at hr5
  replace hr5 := Lib.hid hr5
  clear hb hM4 HM3 hom1
  go_wp2_with fail
  refine hr5.out.mono ?_
  rintro e w5 ⟨⟨x5, ev5, rfl, hf5, hx5, hn5⟩, hb⟩
  replace hB := below_step hB hb
  replace hC := below_step hC hb
  clear hb hr5
  rcases fault_form hf5 with ⟨h0, rfl⟩ | ⟨h0, ty, q, rfl⟩
  · obtain ⟨T, hT5, hToP⟩ := hx5 h0
    obtain ⟨hi0, hc0, hGr⟩ := toErr_parts h0
    have hRC := rightC_of hc0
    have hTL := toP_len hGr.idx hToP
    have hl100 := hGr.idx.len
    have hGT := toP_right hGr.idx hToP
    have hsT : Short T := ⟨by omega, fun m hm => by
      obtain ⟨e, he, e1⟩ := hGT.at_ m hm
      have := HSI.out.mds e he
      rw [e1] at this
      exact this⟩
    have HTE := Lib.hid (toErr_right hi0 hRC hGT.at_)
    have HBE := Lib.hid (badErr_right hi0 hRC)
    have HSUB : Hid ((Bm.eraseIdx j).Sublist Bm) := Lib.hid (List.eraseIdx_sublist Bm j)
    have HBL : Hid (badErr l (Bm.eraseIdx j) = (0, -1)) := Lib.hid (badErr_right hi0 (hRC.sub HSUB.out))
    have HSL : Hid (Short (Bm.eraseIdx j)) := Lib.hid ⟨Nat.le_trans HSUB.out.length_le HSB.out.1, fun m hm => HSB.out.2 m (HSUB.out.mem hm)⟩
    have HRC := Lib.hid hRC
    have HGR := Lib.hid hGr
    have HRI := Lib.hid hGr.idx
    have HTP := Lib.hid hToP
    have HTS := Lib.hid (And.intro hsT (Nat.le_trans hTL hl100))
    obtain ⟨a5, n5, c5, P5, V5, rfl, e5, hc5⟩ := hT5.cells2
    have HT5 := Lib.hid e5
    have hb5n : n5 ≤ 100 := by
      have := congrArg List.length e5
      rw [mdF_length] at this
      omega
    have HX5 := Lib.hid hT5
    have hD5 := Below.refl w5.heap.size w5
    replace hc5 := Lib.hid hc5
    clear hf5 hx5 hn5 h0 hToP hi0 hc0 hGr hTL hl100 hGT hT5 e5 hRC hsT
    go_wp2_with fail
    refine (hom2.out _ hB).mono ?_
    rintro e w6 ⟨⟨v6, rfl, hM6, _⟩, hb⟩
    replace hB := below_step hB hb
    replace hC := below_step hC hb
    replace hD5 := below_step hD5 hb
    obtain ⟨a6, n6, c6, _, _, rfl, _⟩ := id hM6
    have hr7 := hto.out oa on oc _ _ _ _ _ _ _ HOL.out _ hB (HO.out.below hC) _ _ _ (HX5.out.below hD5) (by have := HTS.out.2; omega) HTS.out.1 hM6
    rw [← HOL.out, HTE.out] at hr7
    replace hr7 := Lib.hid hr7
    clear hb hM6 hto
    go_wp2_with fail
    refine hr7.out.mono ?_
    rintro e w7 ⟨⟨x7, ev7, rfl, hf7, hx7, -⟩, hb⟩
    obtain rfl : ev7 = .nilIface := by
      rcases fault_form hf7 with ⟨_, h⟩ | ⟨h, _⟩
      · exact h
      · exact absurd rfl h
    replace hB := below_step hB hb
    replace hC := below_step hC hb
    replace hD5 := below_step hD5 hb
    obtain ⟨T2, hT7, hToP2⟩ := hx7 trivial
    obtain rfl := toP_again HRI.out HTP.out hToP2
    obtain ⟨a7, n7, c7, _, _, rfl, _⟩ := id hT7
    have hsm := sameMods_calls _ _ _ _ _ hT7 (HX5.out.below hD5)
    rw [decide_eq_true rfl] at hsm
    replace hsm := Lib.hid hsm
    clear hf7 hx7 hT7 hToP2 hb hr7 HTE
    go_wp2_with fail
    refine hsm.out.mono ?_
    rintro e w8 ⟨rfl, hb⟩
    replace hB := below_step hB hb
    replace hC := below_step hC hb
    replace hD5 := below_step hD5 hb
    clear hb hsm
    go_wp2_with fail
    refine (hom2.out _ hB).mono ?_
    rintro e w9 ⟨⟨v9, rfl, hM9, _⟩, hb⟩
    replace hB := below_step hB hb
    replace hC := below_step hC hb
    replace hD5 := below_step hD5 hb
    obtain ⟨a9, n9, c9, _, _, rfl, _⟩ := id hM9
    have hr10 := hbd.out oa on oc _ _ _ _ _ _ _ HOL.out _ hB (HO.out.below hC) _ _ hM9 HSB.out
    rw [← HOL.out, HBE.out] at hr10
    replace hr10 := Lib.hid hr10
    clear hb hM9 hom2 HX5
    go_wp2_with fail
    refine hr10.out.mono ?_
    rintro e w10 ⟨⟨x10, ev10, rfl, hf10, hx10, -⟩, hb⟩
    obtain rfl : ev10 = .nilIface := by
      rcases fault_form hf10 with ⟨_, h⟩ | ⟨h, _⟩
      · exact h
      · exact absurd rfl h
    obtain ⟨g, M, rfl, hrow, hM⟩ := (hx10 trivial).row HLN.out
    replace hB := below_step hB hb
    replace hC := below_step hC hb
    replace hD5 := below_step hD5 hb
    have HROW := Lib.hid hrow
    have HM := Lib.hid hM
    clear hf10 hx10 hb hr10 hrow hM
    obtain ⟨_, nA, _, PA, VA, eA, eAm, hcA⟩ := (HAA.out w10 hB).cells2
    injection eA with eA1 eA2 eA3
    subst eA1 eA2 eA3
    have HAM := Lib.hid eAm
    have hb1n : n1 ≤ 15 := by
      have := congrArg List.length eAm
      rw [mdF_length] at this
      have := HAL.out
      omega
    replace hcA := Lib.hid hcA
    clear eAm HAA
    go_wp2_with fail
    go_loopw [15, 16, 17] (fun i _ _ wr => ∃ k : Nat, k ≤ n1 ∧ i = .int .i64 k ∧ Below w10.heap.size w10 wr) (fun i _ _ _ => n1 - (intOf i).toNat)
    case atStart => exact ⟨0, Nat.zero_le _, rfl, Below.refl _ _⟩
    case round =>
      obtain ⟨k, hk, rfl, hBr⟩ := hrel
      by_cases hlt : k < n1
      · have hkn : (k : Int) < (n1 : Int) := by omega
        have hDr := below_step hD5 hBr
        go_wp2_with fail
        generalize wr = w11 at *
        go_loopw [16, 17] (fun s i wq => ∃ (q : Nat) (u : Bool), q ≤ n5 ∧ i = .int .i64 q ∧ s = .bool u ∧ Hid (u = (((mdF n5 P5 V5).take q).any fun m => decide (m = ((PA k).data.toList, (VA k).data.toList)))) ∧ Below w11.heap.size w11 wq) (fun _ i _ => n5 - (intOf i).toNat)
        case atStart => exact ⟨0, false, Nat.zero_le _, rfl, rfl, Lib.hid (by simp), Below.refl _ _⟩
        case round =>
          obtain ⟨q, u, hq, rfl, rfl, hT, hBq⟩ := hrel
          by_cases hq2 : q < n5
          · have hqn : (q : Int) < (n5 : Int) := by omega
            obtain ⟨bq, oq, eq, d0, d1⟩ := (hc5).out wr (below_step hDr hBq) q hq2
            obtain ⟨br, or', er, c0, c1⟩ := (hcA).out wr (below_step hBr hBq) k hlt
            have hA := Lib.hid (any_mdT (P := P5) (V := V5) (m := ((PA k).data.toList, (VA k).data.toList)) hq2)
            subst eq
            subst er
            cases u with
            | true =>
              have hN : Hid (true = (((mdF n5 P5 V5).take (q + 1)).any fun m => decide (m = ((PA k).data.toList, (VA k).data.toList)))) := Lib.hid (by rw [hA.out, ← hT.out]; rfl)
              go_wp2_with fail
              refine wp_region_quiet_patch (by kernel_rfl) (by kernel_rfl) ?_
              repeat (go_big_quiet_step (fail))
              refine wpQuiet_nil ?_
              intro _ hw'
              obtain ⟨⟨dq, osq⟩, hw''⟩ := hw'
              subst hw''
              have hb := below_patch wr dq osq
              replace hBq := below_step hBq hb
              clear hb
              generalize patch wr dq osq = wq1 at hBq ⊢
              go_wp2_with fail
              go_roundw
              case rel => exact ⟨q + 1, true, by omega, by go_num, rfl, hN, hBq⟩
              case measure => simp [intOf]; omega
            | false =>
              have hg := Tryz.md_guard
              have he := md_eql (P5 q) (V5 q) (PA k) (VA k)
              obtain ⟨D, hD⟩ : ∃ D, decide (P5 q = PA k ∧ V5 q = VA k) = D := ⟨_, rfl⟩
              have hN : Hid (D = (((mdF n5 P5 V5).take (q + 1)).any fun m => decide (m = ((PA k).data.toList, (VA k).data.toList)))) := Lib.hid (by
                rw [hA.out, ← hT.out, Bool.false_or, ← hD, Bool.eq_iff_iff, decide_eq_true_iff, decide_eq_true_iff]
                exact bytes_pair.symm)
              rw [hD] at he
              clear hD
              go_wp2_with fail
              have kqd0 := fun d os => cell_patch (d := d) (os := os) d0
              have kqd1 := fun d os => cell_patch (d := d) (os := os) d1
              have kqc0 := fun d os => cell_patch (d := d) (os := os) c0
              have kqc1 := fun d os => cell_patch (d := d) (os := os) c1
              refine wp_region_quiet_patch (by kernel_rfl) (by kernel_rfl) ?_
              repeat (go_big_quiet_step (fail))
              refine wpQuiet_nil ?_
              intro _ hw'
              obtain ⟨⟨dq, osq⟩, hw''⟩ := hw'
              subst hw''
              clear kqd0 kqd1 kqc0 kqc1
              have hb := below_patch wr dq osq
              replace hBq := below_step hBq hb
              clear hb
              generalize patch wr dq osq = wq1 at hBq ⊢
              go_wp2_with fail
              go_roundw
              case rel => exact ⟨q + 1, D, by omega, by go_num, rfl, hN, hBq⟩
              case measure => simp [intOf]; omega
          · have hqe : q = n5 := by omega
            have hqn : ¬ (q : Int) < (n5 : Int) := by omega
            have hBW := below_step hBr hBq
            have hmem : ((PA k).data.toList, (VA k).data.toList) ∈ Am := by rw [HAM.out]; exact List.mem_of_getElem? (mdF_get n1 PA VA k hlt)
            obtain ⟨e0, he0, he1⟩ := HGR.out.at_ _ hmem
            obtain ⟨hx1, hx2, hx3⟩ := HGR.out.idx.at_ he0 he1
            rw [HLN.out] at hx1
            have hu : M (findE l ((PA k).data.toList, (VA k).data.toList)).toNat = false → u = true := fun h => by
              rw [hT.out, hqe, List.take_of_length_le (by rw [mdF_length]; exact Nat.le_refl _)]
              exact List.any_eq_true.2 ⟨_, by rw [← HT5.out]; exact toP_self HRI.out HTP.out hmem ⟨e0, he0, he1⟩ (fun hb => by rw [← hx3] at hb; rw [(HM.out _ hx1).2 hb] at h; cases h), decide_eq_true rfl⟩
            have hf := hfo.out (PA k) (VA k) wr (below_step hB hBW)
            rw [hx2] at hf
            obtain ⟨br, or', er, c0, c1⟩ := hcA.out wr hBW k hlt
            subst er
            generalize (findE l ((PA k).data.toList, (VA k).data.toList)).toNat = x at *
            have hxn : (x : Int) < (ln : Int) := by omega
            have hg0 := Lib.hid (fun W (hW : Below w10.heap.size w10 W) => (HROW.out.below hW).cell hx1)
            generalize M x = Y at *
            replace hf := Lib.hid hf
            clear hT hq hq2 hqe hmem he0 he1 hx2 hx3
            cases Y with
            | true =>
              clear hu
              go_wp2_with fail
              refine hf.out.mono ?_
              rintro e w12 ⟨rfl, hb⟩
              have g0 := hg0.out w12 (below_step hBW hb)
              replace hBW := below_step hBW hb
              clear hf hb c0 c1 hg0
              go_wp2_with fail
              go_roundw
              case rel => exact ⟨k + 1, by omega, by go_num, hBW⟩
              case measure => simp [intOf]; omega
            | false =>
              obtain rfl := hu rfl
              clear hu
              go_wp2_with fail
              refine hf.out.mono ?_
              rintro e w12 ⟨rfl, hb⟩
              have g0 := hg0.out w12 (below_step hBW hb)
              replace hBW := below_step hBW hb
              clear hf hb c0 c1 hg0
              go_wp2_with fail
              go_roundw
              case rel => exact ⟨k + 1, by omega, by go_num, hBW⟩
              case measure => simp [intOf]; omega
      · have hkn : ¬ (k : Int) < (n1 : Int) := by omega
        replace hB := below_step hB hBr
        replace hC := below_step hC hBr
        have HROW2 := Lib.hid (HROW.out.below hBr)
        clear hlt hk hBr hD5 HROW hcA hc5 HTP HT5
        have hx5 := HBB.out wr hB
        have hnB : Bm.length = n2 := by
          obtain ⟨_, n', _, _, _, e, e2, _, _⟩ := id hx5
          injection e with _ e3 e4
          rw [e2, mdF_length, e3]
        have hn2 : n2 ≤ 15 := by have := HAL.out; omega
        by_cases hj : n2 ≤ j
        · have hjn : (n2 : Int) ≤ (j : Int) := by omega
          clear hx5
          go_wp2_with fail
          go_ret
          exact ⟨rfl, hB⟩
        · have hjn : ¬ (n2 : Int) ≤ (j : Int) := by omega
          have hj2 : (j : Int) < (n2 : Int) := by omega
          obtain ⟨b5, o5, rfl⟩ : ∃ b o, a2 = some ⟨b, o, none⟩ := by
            obtain ⟨a', c', P9, V9, e, _, h⟩ := hx5.cells
            obtain ⟨b, o, h, _⟩ := h j (by omega)
            injection e with e
            exact ⟨b, o, e.trans h⟩
          have hcap : n2 ≤ c2 := by
            obtain ⟨_, n', _, _, _, e, e2, h3, _⟩ := id hx5
            injection e with _ e3 e4
            omega
          have how9 := ownMods_calls (.slice (some ⟨b5, o5, none⟩) j c2) (Bm.take j) wr (hx5.takeT (by omega)) (by rw [List.length_take]; omega)
          have hwk := wrap_nat (j + 1) (by omega)
          have hk1 : j ≤ c2 := by omega
          have hk2 : j + 1 ≤ c2 := by omega
          have hk3 : (j : Int) ≤ (c2 : Int) := by omega
          have hk4 : (j : Int) + 1 ≤ (c2 : Int) := by omega
          have hk5 : (j : Int) + 1 ≤ (n2 : Int) := by omega
          have hk6 : (n2 : Int) ≤ (c2 : Int) := by omega
          have hk7 : ((j : Int) + 1).toNat = j + 1 := by omega
          have hk8 : (0 : Int) ≤ (j : Int) + 1 := by omega
          have HX5 := Lib.hid hx5
          replace how9 := Lib.hid how9
          clear hx5 hcap
          by_cases hc1 : c2 = j + 1
          · subst hc1
            have hdr : ∀ W, Below wr.heap.size wr W → ModsAt W (.slice (some ⟨b5, o5, none⟩) 0 0) (Bm.drop (j + 1)) := fun W hW => by
              rw [List.drop_eq_nil_of_le (by omega)]
              exact mods_noneT _ _
            replace hdr := Lib.hid hdr
            go_wp2_with fail
            refine how9.out.mono ?_
            rintro e w12 ⟨⟨v9, rfl, _, L9, hL9, ho9⟩, hb9⟩
            obtain ⟨o10, w13, hap, ⟨L10, hL10, ho10⟩, hg10⟩ := app_mods w12 wr.heap.size hb9.size v9 _ L9 _ ho9 (hdr.out w12 hb9) (by have := congrArg List.length hL9; rw [mdTs_length, List.length_take] at this; omega) (by rw [List.length_drop]; omega)
            have hb10 : Below wr.heap.size wr w13 := hb9.grown hg10 hb9.size (fun q hq => (ho9.lt q hq).1)
            have hM10 := modsAt_own ho10
            rw [hL10, ← hL9, take_drop_eraseT] at hM10
            obtain ⟨a9, m9, c9, rfl⟩ := own_form ho9
            replace hB := below_step hB hb10
            replace hC := below_step hC hb10
            have HROW3 := Lib.hid (HROW2.out.below hb10)
            have hr14 := hbd.out oa on oc _ _ _ _ _ _ _ HOL.out _ hB (HO.out.below hC) _ _ hM10 HSL.out
            rw [← HOL.out, HBL.out] at hr14
            obtain ⟨a10, m10, c10, rfl⟩ := own_form ho10
            have HAP := Lib.hid hap
            replace hr14 := Lib.hid hr14
            clear hap hM10 hL10 hL9 ho9 ho10 hg10 hb9 hb10 how9 hdr HROW2
            go_wp2_with (at_builtin; refine wpList_append_run rfl _ _ 23 rfl _ _ rfl rfl _ _ HAP.out ?_)
            refine hr14.out.mono ?_
            rintro e w14 ⟨⟨x14, ev14, rfl, hf14, hx14, -⟩, hb⟩
            obtain rfl : ev14 = .nilIface := by
              rcases fault_form hf14 with ⟨_, h⟩ | ⟨h, _⟩
              · exact h
              · exact absurd rfl h
            obtain ⟨g2, M2, rfl, hrow2, hM2⟩ := (hx14 trivial).row HLN.out
            have HMM : Hid (∀ j, j < ln → M2 j = true → M j = true) := Lib.hid (fun j hj h => (HM.out j hj).2 (badP_less HRC.out HSUB.out ((hM2 j hj).1 h)))
            have HROW4 := Lib.hid (HROW3.out.below hb)
            have HR2 := Lib.hid hrow2
            replace hB := below_step hB hb
            clear hf14 hx14 hrow2 hM2 hr14 hb HROW3 HAP HSUB hC
            go_wp2_with fail
            clear hk1 hk2 hk3 hk4 hk5 hk6 hk7 hk8 hwk
            go_loopw [20] (fun i wq => ∃ k : Nat, k ≤ ln ∧ i = .int .i64 k ∧ Below w14.heap.size w14 wq) (fun i _ => ln - (intOf i).toNat)
            case atStart => exact ⟨0, Nat.zero_le _, rfl, Below.refl _ _⟩
            case round =>
              obtain ⟨k, hk, rfl, hBr⟩ := hrel
              by_cases hlt : k < ln
              · have hkn : (k : Int) < (ln : Int) := by omega
                have g0 := (HROW4.out.below hBr).cell hlt
                have g2c := (HR2.out.below hBr).cell hlt
                have hmm := HMM.out k hlt
                generalize M k = Y at *
                generalize M2 k = Y2 at *
                cases Y2
                · clear hmm
                  go_wp2_with fail
                  go_roundw
                  case rel => exact ⟨k + 1, by omega, by go_num, hBr⟩
                  case measure => simp [intOf]; omega
                · obtain rfl := hmm rfl
                  clear hmm
                  go_wp2_with fail
                  go_roundw
                  case rel => exact ⟨k + 1, by omega, by go_num, hBr⟩
                  case measure => simp [intOf]; omega
              · have hkn : ¬ (k : Int) < (ln : Int) := by omega
                have HROW5 := Lib.hid (HROW4.out.below hBr)
                replace hB := below_step hB hBr
                clear hlt hk hBr HROW4 HR2 HMM
                go_wp2_with fail
                clear hkn
                generalize wr = w15 at *
                go_loopw [21, 22, 23] (fun i _ _ wq => ∃ k : Nat, k ≤ ln ∧ i = .int .i64 k ∧ Below w15.heap.size w15 wq) (fun i _ _ _ => ln - (intOf i).toNat)
                case atStart => exact ⟨0, Nat.zero_le _, rfl, Below.refl _ _⟩
                case round =>
                  obtain ⟨k, hk, rfl, hBr⟩ := hrel
                  by_cases hlt : k < ln
                  · have hkn : (k : Int) < (ln : Int) := by omega
                    have hBW := below_step hB hBr
                    have hL0 := HLB.out wr hBW
                    obtain ⟨b1, o1, ea, hcell⟩ := hL0.at_ k hlt
                    obtain ⟨ar, nr, cr, Pr, Vr, erv, eR, hcr⟩ := (hL0.reqs k hlt).cells2
                    have c0 := hcell.c0
                    have c1 := hcell.c1
                    have hc2 := hcell.c2
                    rw [erv] at hc2
                    have hcc := hcp.out (P k) (V k) (HVS.out k hlt) wr hBW
                    have hfin := bad_any HRI.out (fun j hj => HM.out j (by rwa [HLN.out] at hj)) (k := k) (by rw [HLN.out]; exact hlt)
                    rw [HEN.out k hlt] at hfin
                    simp only at hfin
                    have HRK : Hid (∀ r ∈ R k, ∃ e ∈ l, e.md = r) := Lib.hid (fun r hr => by
                      have := HRI.out.all _ (enAt_mem (l := l) (i := k) (by rw [HLN.out]; exact hlt)) r
                      rw [HEN.out k hlt] at this
                      exact this hr)
                    rw [eR] at hfin HRK
                    generalize aboveB Bm ((P k).data.toList, (V k).data.toList) = ab at hcc hfin
                    have HFIN := Lib.hid hfin
                    have HC2 := Lib.hid hc2
                    have hnr : nr ≤ 1000000 := by
                      have h1 := HRL.out k hlt
                      rw [eR, mdF_length] at h1
                      exact h1
                    replace hcr := Lib.hid hcr
                    replace hcc := Lib.hid hcc
                    subst ea
                    clear hcell hL0 hfin hc2 erv eR
                    go_wp2_with fail
                    refine hcc.out.mono ?_
                    rintro e w16 ⟨rfl, hb⟩
                    have hB16 := below_step hBr hb
                    have hcr16 := Lib.hid (fun W (hW : Below w16.heap.size w16 W) => hcr.out W (below_step hb hW))
                    have z2 := Below.cell_some hb HC2.out
                    have HZ2 := Lib.hid z2
                    clear hcc hb hcr c0 c1 z2 HC2 hBW
                    go_wp2_with fail
                    generalize hwq : wr = wq0 at *
                    go_loopw [22, 23] (fun s q wq => ∃ (q' : Nat) (u : Bool), q' ≤ nr ∧ q = .int .i64 q' ∧ s = .bool u ∧ Hid (u = (ab || ((mdF nr Pr Vr).take q').any fun r => M (findE l r).toNat)) ∧ Below w16.heap.size w16 wq) (fun _ q _ => nr - (intOf q).toNat)
                    case atStart => exact ⟨0, ab, Nat.zero_le _, rfl, rfl, Lib.hid (by simp), Below.refl _ _⟩
                    case round =>
                      obtain ⟨q, u, hq, rfl, rfl, hT, hBq⟩ := hrel
                      have z2 := Below.cell_some hBq HZ2.out
                      have hBW := below_step hB16 hBq
                      by_cases hq2 : q < nr
                      · have hqn : (q : Int) < (nr : Int) := by omega
                        obtain ⟨br, or', er, d0, d1⟩ := hcr16.out wr hBq q hq2
                        subst er
                        have HA : Hid ((u || M (findE l ((Pr q).data.toList, (Vr q).data.toList)).toNat) = (ab || ((mdF nr Pr Vr).take (q + 1)).any fun r => M (findE l r).toNat)) := Lib.hid (by
                          rw [mdF_take_succ nr Pr Vr q hq2, List.any_append, ← Bool.or_assoc, ← hT.out]
                          simp)
                        cases u with
                        | true =>
                          clear hT
                          go_wp2_with fail
                          go_roundw
                          case rel => exact ⟨q + 1, true, by omega, by go_num, rfl, HA, hBq⟩
                          case measure => simp [intOf]; omega
                        | false =>
                          obtain ⟨e0, he0, he1⟩ := HRK.out _ (List.mem_of_getElem? (mdF_get nr Pr Vr q hq2))
                          obtain ⟨hx1, hx2, hx3⟩ := HRI.out.at_ he0 he1
                          rw [HLN.out] at hx1
                          have hf := hfo.out (Pr q) (Vr q) wr (below_step hB hBW)
                          rw [hx2] at hf
                          generalize (findE l ((Pr q).data.toList, (Vr q).data.toList)).toNat = x at *
                          have hxn : (x : Int) < (ln : Int) := by omega
                          have hg0 := Lib.hid (fun W (hW : Below w15.heap.size w15 W) => (HROW5.out.below hW).cell hx1)
                          generalize M x = Y at *
                          replace hf := Lib.hid hf
                          clear hT hx2 hx3 he0 he1
                          go_wp2_with fail
                          refine hf.out.mono ?_
                          rintro e w17 ⟨rfl, hb⟩
                          have g0 := hg0.out w17 (below_step hBW hb)
                          replace hBq := below_step hBq hb
                          clear hf hb d0 d1 z2 hg0
                          go_wp2_with fail
                          go_roundw
                          case rel => exact ⟨q + 1, Y, by omega, by go_num, rfl, HA, hBq⟩
                          case measure => simp [intOf]; omega
                      · have hqe : q = nr := by omega
                        have hqn : ¬ (q : Int) < (nr : Int) := by omega
                        have hu : M k = u := by
                          rw [HFIN.out, hT.out, hqe, List.take_of_length_le (by rw [mdF_length]; exact Nat.le_refl _)]
                        have g0 := (HROW5.out.below hBW).cell hlt
                        rw [hu] at g0
                        clear hT hq hq2 hqe hu
                        cases u
                        all_goals
                          go_wp2_with fail
                          go_roundw
                          case rel => exact ⟨k + 1, by omega, by go_num, hBW⟩
                          case measure => simp [intOf]; omega
                  · have hkn : ¬ (k : Int) < (ln : Int) := by omega
                    replace hB := below_step hB hBr
                    go_wp2_with fail
                    go_ret
                    exact ⟨rfl, hB⟩
          · have hdr : ∀ W, Below wr.heap.size wr W → ModsAt W (.slice (some ⟨b5, o5 + (j + 1) * 2, none⟩) (n2 - (j + 1)) (c2 - (j + 1))) (Bm.drop (j + 1)) := fun W hW =>
              (HX5.out.below hW).dropT (by omega)
            replace hdr := Lib.hid hdr
            go_wp2_with fail
            refine how9.out.mono ?_
            rintro e w12 ⟨⟨v9, rfl, _, L9, hL9, ho9⟩, hb9⟩
            obtain ⟨o10, w13, hap, ⟨L10, hL10, ho10⟩, hg10⟩ := app_mods w12 wr.heap.size hb9.size v9 _ L9 _ ho9 (hdr.out w12 hb9) (by have := congrArg List.length hL9; rw [mdTs_length, List.length_take] at this; omega) (by rw [List.length_drop]; omega)
            have hb10 : Below wr.heap.size wr w13 := hb9.grown hg10 hb9.size (fun q hq => (ho9.lt q hq).1)
            have hM10 := modsAt_own ho10
            rw [hL10, ← hL9, take_drop_eraseT] at hM10
            obtain ⟨a9, m9, c9, rfl⟩ := own_form ho9
            replace hB := below_step hB hb10
            replace hC := below_step hC hb10
            have HROW3 := Lib.hid (HROW2.out.below hb10)
            have hr14 := hbd.out oa on oc _ _ _ _ _ _ _ HOL.out _ hB (HO.out.below hC) _ _ hM10 HSL.out
            rw [← HOL.out, HBL.out] at hr14
            obtain ⟨a10, m10, c10, rfl⟩ := own_form ho10
            have HAP := Lib.hid hap
            replace hr14 := Lib.hid hr14
            clear hap hM10 hL10 hL9 ho9 ho10 hg10 hb9 hb10 how9 hdr HROW2
            go_wp2_with (at_builtin; refine wpList_append_run rfl _ _ 23 rfl _ _ rfl rfl _ _ HAP.out ?_)
            refine hr14.out.mono ?_
            rintro e w14 ⟨⟨x14, ev14, rfl, hf14, hx14, -⟩, hb⟩
            obtain rfl : ev14 = .nilIface := by
              rcases fault_form hf14 with ⟨_, h⟩ | ⟨h, _⟩
              · exact h
              · exact absurd rfl h
            obtain ⟨g2, M2, rfl, hrow2, hM2⟩ := (hx14 trivial).row HLN.out
            have HMM : Hid (∀ j, j < ln → M2 j = true → M j = true) := Lib.hid (fun j hj h => (HM.out j hj).2 (badP_less HRC.out HSUB.out ((hM2 j hj).1 h)))
            have HROW4 := Lib.hid (HROW3.out.below hb)
            have HR2 := Lib.hid hrow2
            replace hB := below_step hB hb
            clear hf14 hx14 hrow2 hM2 hr14 hb HROW3 HAP HSUB hC
            go_wp2_with fail
            clear hk1 hk2 hk3 hk4 hk5 hk6 hk7 hk8 hwk
            go_loopw [20] (fun i wq => ∃ k : Nat, k ≤ ln ∧ i = .int .i64 k ∧ Below w14.heap.size w14 wq) (fun i _ => ln - (intOf i).toNat)
            case atStart => exact ⟨0, Nat.zero_le _, rfl, Below.refl _ _⟩
            case round =>
              obtain ⟨k, hk, rfl, hBr⟩ := hrel
              by_cases hlt : k < ln
              · have hkn : (k : Int) < (ln : Int) := by omega
                have g0 := (HROW4.out.below hBr).cell hlt
                have g2c := (HR2.out.below hBr).cell hlt
                have hmm := HMM.out k hlt
                generalize M k = Y at *
                generalize M2 k = Y2 at *
                cases Y2
                · clear hmm
                  go_wp2_with fail
                  go_roundw
                  case rel => exact ⟨k + 1, by omega, by go_num, hBr⟩
                  case measure => simp [intOf]; omega
                · obtain rfl := hmm rfl
                  clear hmm
                  go_wp2_with fail
                  go_roundw
                  case rel => exact ⟨k + 1, by omega, by go_num, hBr⟩
                  case measure => simp [intOf]; omega
              · have hkn : ¬ (k : Int) < (ln : Int) := by omega
                have HROW5 := Lib.hid (HROW4.out.below hBr)
                replace hB := below_step hB hBr
                clear hlt hk hBr HROW4 HR2 HMM
                go_wp2_with fail
                clear hkn
                generalize wr = w15 at *
                go_loopw [21, 22, 23] (fun i _ _ wq => ∃ k : Nat, k ≤ ln ∧ i = .int .i64 k ∧ Below w15.heap.size w15 wq) (fun i _ _ _ => ln - (intOf i).toNat)
                case atStart => exact ⟨0, Nat.zero_le _, rfl, Below.refl _ _⟩
                case round =>
                  obtain ⟨k, hk, rfl, hBr⟩ := hrel
                  by_cases hlt : k < ln
                  · have hkn : (k : Int) < (ln : Int) := by omega
                    have hBW := below_step hB hBr
                    have hL0 := HLB.out wr hBW
                    obtain ⟨b1, o1, ea, hcell⟩ := hL0.at_ k hlt
                    obtain ⟨ar, nr, cr, Pr, Vr, erv, eR, hcr⟩ := (hL0.reqs k hlt).cells2
                    have c0 := hcell.c0
                    have c1 := hcell.c1
                    have hc2 := hcell.c2
                    rw [erv] at hc2
                    have hcc := hcp.out (P k) (V k) (HVS.out k hlt) wr hBW
                    have hfin := bad_any HRI.out (fun j hj => HM.out j (by rwa [HLN.out] at hj)) (k := k) (by rw [HLN.out]; exact hlt)
                    rw [HEN.out k hlt] at hfin
                    simp only at hfin
                    have HRK : Hid (∀ r ∈ R k, ∃ e ∈ l, e.md = r) := Lib.hid (fun r hr => by
                      have := HRI.out.all _ (enAt_mem (l := l) (i := k) (by rw [HLN.out]; exact hlt)) r
                      rw [HEN.out k hlt] at this
                      exact this hr)
                    rw [eR] at hfin HRK
                    generalize aboveB Bm ((P k).data.toList, (V k).data.toList) = ab at hcc hfin
                    have HFIN := Lib.hid hfin
                    have HC2 := Lib.hid hc2
                    have hnr : nr ≤ 1000000 := by
                      have h1 := HRL.out k hlt
                      rw [eR, mdF_length] at h1
                      exact h1
                    replace hcr := Lib.hid hcr
                    replace hcc := Lib.hid hcc
                    subst ea
                    clear hcell hL0 hfin hc2 erv eR
                    go_wp2_with fail
                    refine hcc.out.mono ?_
                    rintro e w16 ⟨rfl, hb⟩
                    have hB16 := below_step hBr hb
                    have hcr16 := Lib.hid (fun W (hW : Below w16.heap.size w16 W) => hcr.out W (below_step hb hW))
                    have z2 := Below.cell_some hb HC2.out
                    have HZ2 := Lib.hid z2
                    clear hcc hb hcr c0 c1 z2 HC2 hBW
                    go_wp2_with fail
                    generalize hwq : wr = wq0 at *
                    go_loopw [22, 23] (fun s q wq => ∃ (q' : Nat) (u : Bool), q' ≤ nr ∧ q = .int .i64 q' ∧ s = .bool u ∧ Hid (u = (ab || ((mdF nr Pr Vr).take q').any fun r => M (findE l r).toNat)) ∧ Below w16.heap.size w16 wq) (fun _ q _ => nr - (intOf q).toNat)
                    case atStart => exact ⟨0, ab, Nat.zero_le _, rfl, rfl, Lib.hid (by simp), Below.refl _ _⟩
                    case round =>
                      obtain ⟨q, u, hq, rfl, rfl, hT, hBq⟩ := hrel
                      have z2 := Below.cell_some hBq HZ2.out
                      have hBW := below_step hB16 hBq
                      by_cases hq2 : q < nr
                      · have hqn : (q : Int) < (nr : Int) := by omega
                        obtain ⟨br, or', er, d0, d1⟩ := hcr16.out wr hBq q hq2
                        subst er
                        have HA : Hid ((u || M (findE l ((Pr q).data.toList, (Vr q).data.toList)).toNat) = (ab || ((mdF nr Pr Vr).take (q + 1)).any fun r => M (findE l r).toNat)) := Lib.hid (by
                          rw [mdF_take_succ nr Pr Vr q hq2, List.any_append, ← Bool.or_assoc, ← hT.out]
                          simp)
                        cases u with
                        | true =>
                          clear hT
                          go_wp2_with fail
                          go_roundw
                          case rel => exact ⟨q + 1, true, by omega, by go_num, rfl, HA, hBq⟩
                          case measure => simp [intOf]; omega
                        | false =>
                          obtain ⟨e0, he0, he1⟩ := HRK.out _ (List.mem_of_getElem? (mdF_get nr Pr Vr q hq2))
                          obtain ⟨hx1, hx2, hx3⟩ := HRI.out.at_ he0 he1
                          rw [HLN.out] at hx1
                          have hf := hfo.out (Pr q) (Vr q) wr (below_step hB hBW)
                          rw [hx2] at hf
                          generalize (findE l ((Pr q).data.toList, (Vr q).data.toList)).toNat = x at *
                          have hxn : (x : Int) < (ln : Int) := by omega
                          have hg0 := Lib.hid (fun W (hW : Below w15.heap.size w15 W) => (HROW5.out.below hW).cell hx1)
                          generalize M x = Y at *
                          replace hf := Lib.hid hf
                          clear hT hx2 hx3 he0 he1
                          go_wp2_with fail
                          refine hf.out.mono ?_
                          rintro e w17 ⟨rfl, hb⟩
                          have g0 := hg0.out w17 (below_step hBW hb)
                          replace hBq := below_step hBq hb
                          clear hf hb d0 d1 z2 hg0
                          go_wp2_with fail
                          go_roundw
                          case rel => exact ⟨q + 1, Y, by omega, by go_num, rfl, HA, hBq⟩
                          case measure => simp [intOf]; omega
                      · have hqe : q = nr := by omega
                        have hqn : ¬ (q : Int) < (nr : Int) := by omega
                        have hu : M k = u := by
                          rw [HFIN.out, hT.out, hqe, List.take_of_length_le (by rw [mdF_length]; exact Nat.le_refl _)]
                        have g0 := (HROW5.out.below hBW).cell hlt
                        rw [hu] at g0
                        clear hT hq hq2 hqe hu
                        cases u
                        all_goals
                          go_wp2_with fail
                          go_roundw
                          case rel => exact ⟨k + 1, by omega, by go_num, hBW⟩
                          case measure => simp [intOf]; omega
                  · have hkn : ¬ (k : Int) < (ln : Int) := by omega
                    replace hB := below_step hB hBr
                    go_wp2_with fail
                    go_ret
                    exact ⟨rfl, hB⟩
  · obtain rfl := hn5 h0
    clear hf5 hx5 hn5 h0
    go_wp2_with fail
    go_ret
    exact ⟨rfl, hB⟩
set_option maxHeartbeats 4000000 in
theorem downAgain_calls (ks : List Nat) (A : Nat → Addr) (hks : IdxKs ks) (lv av bv : Value) (l : List En) (Am Bm : List Md) (z : Int) (w : World) (hE : EnvP ks A w) (hl : EntsAt w lv l) (ha : ModsAt w av Am) (hb : ModsAt w bv Bm) :
    Calls Tryz.prog 4 #[lv, av, bv, .int .i64 z] w fun e w' => e = .returned (.bool true) ∧ Below w.heap.size w w' := by
  obtain ⟨la, ln, lc, P, V, R, K, Bk, Rv, Kv, rfl, rfl, hin⟩ := hl
  have H : DnArgs ks A la ln lc P V R K Bk Rv Kv av bv Am Bm w := ⟨hks, hE, hin, ha, hb⟩
  cases h1 : longIdx (enF ln P V R K Bk)
  · by_cases h3 : longMods Am 15 = false ∧ longMods Bm 15 = false
    · by_cases h4 : z < 0
      · exact downAgain_long ks A la ln lc P V R K Bk Rv Kv av bv Am Bm z w H (.inr ⟨h1, .inr ⟨h3.1, h3.2, h4⟩⟩)
      · obtain ⟨j, rfl⟩ : ∃ j : Nat, z = j := ⟨z.toNat, by omega⟩
        exact downAgain_main ks A la ln lc P V R K Bk Rv Kv av bv Am Bm j w H h1 h3.1 h3.2
    · exact downAgain_long ks A la ln lc P V R K Bk Rv Kv av bv Am Bm z w H (.inr ⟨h1, .inl h3⟩)
  · exact downAgain_long ks A la ln lc P V R K Bk Rv Kv av bv Am Bm z w H (.inl h1)
end Go.Proofs.Pw
