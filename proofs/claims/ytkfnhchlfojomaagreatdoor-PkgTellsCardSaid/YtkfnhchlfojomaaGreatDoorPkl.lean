/- Pk: walks and plain laws, joined: PkgTells. Conditions: at each theorem. -/
import Derived.Test.YtkfnhchlfojomaaGreatDoorPfa
import Derived.Test.YtkfnhchlfojomaaGreatDoorPfb
import Derived.Test.YtkfnhchlfojomaaGreatDoorPfc
import Derived.Test.YtkfnhchlfojomaaGreatDoorPfd
import Derived.Test.YtkfnhchlfojomaaGreatDoorPfe
import Derived.Test.YtkfnhchlfojomaaGreatDoorPff
import Derived.Test.YtkfnhchlfojomaaGreatDoorPfg
import Derived.Test.YtkfnhchlfojomaaGreatDoorPfh
import Derived.Test.YtkfnhchlfojomaaGreatDoorPfi
import Derived.Test.YtkfnhchlfojomaaGreatDoorPfj
import Derived.Test.YtkfnhchlfojomaaGreatDoorPfk
import Derived.Test.YtkfnhchlfojomaaGreatDoorPfl
import Derived.Test.YtkfnhchlfojomaaGreatDoorPfm
import Derived.Test.YtkfnhchlfojomaaGreatDoorPfn
import Derived.Test.YtkfnhchlfojomaaGreatDoorPfo
import Derived.Test.YtkfnhchlfojomaaGreatDoorPfp
import Derived.Test.YtkfnhchlfojomaaGreatDoorPfq
import Derived.Test.YtkfnhchlfojomaaGreatDoorPfr
import Derived.Test.YtkfnhchlfojomaaGreatDoorPfs
import Derived.Test.YtkfnhchlfojomaaGreatDoorPft
import Derived.Test.YtkfnhchlfojomaaGreatDoorPfu
import Derived.Test.YtkfnhchlfojomaaGreatDoorPfv
import Derived.Test.YtkfnhchlfojomaaGreatDoorPfw
import Derived.Test.YtkfnhchlfojomaaGreatDoorPfx
import Derived.Test.YtkfnhchlfojomaaGreatDoorPfy
import Derived.Test.YtkfnhchlfojomaaGreatDoorPfz
import Derived.Test.YtkfnhchlfojomaaGreatDoorPfza
import Derived.Test.YtkfnhchlfojomaaGreatDoorPfzb
import Derived.Test.YtkfnhchlfojomaaGreatDoorPfzc
import Derived.Test.YtkfnhchlfojomaaGreatDoorPfze
import Derived.Test.YtkfnhchlfojomaaGreatDoorPka
import Derived.Test.YtkfnhchlfojomaaGreatDoorPkb
import Derived.Test.YtkfnhchlfojomaaGreatDoorPkc
import Derived.Test.YtkfnhchlfojomaaGreatDoorPkd
import Derived.Test.YtkfnhchlfojomaaGreatDoorPke
import Derived.Test.YtkfnhchlfojomaaGreatDoorPkf
import Derived.Test.YtkfnhchlfojomaaGreatDoorPkg
import Derived.Test.YtkfnhchlfojomaaGreatDoorPkh
import Derived.Test.YtkfnhchlfojomaaGreatDoorPki
import Derived.Test.YtkfnhchlfojomaaGreatDoorPkj
import Derived.Test.YtkfnhchlfojomaaGreatDoorPkk

namespace Go.Proofs.Pw
open Go.RowKit Go.Sort
open Go.Lib hiding intOf
theorem ofErr_le (l : List En) (sel : List Md) (p : Str) : (ofErr l sel p).1 ≤ 10 := by
  unfold ofErr
  refine orE_le (idxErr_le l) ?_
  split
  · exact Nat.le_trans (pathErr_le p) (by decide)
  · refine orE_le (rootsErr_le l sel) ?_
    split <;> decide
theorem StrsAt.fltP {w : World} {b : Nat} {v : Value} {l : List Str} {x y : Int} (hm : StrsAt w v l) (hb : Box2 w b (.int .i64 x) (.int .i64 y)) (u0 u1 : Value) : StrsAt ((w.setCell ⟨b, 0, none⟩ u0).setCell ⟨b, 1, none⟩ u1) v l := by
  have key : ∀ (q : Addr) (s : ByteArray), w.cell? q = some (.string s) → ((w.setCell ⟨b, 0, none⟩ u0).setCell ⟨b, 1, none⟩ u1).cell? q = some (.string s) := fun q s hq => by
    rw [World.cell?_setCell_other _ _ _ _ (fun e => by rw [← e, hb.c1] at hq; cases hq), World.cell?_setCell_other _ _ _ _ (fun e => by rw [← e, hb.c0] at hq; cases hq)]
    exact hq
  obtain ⟨a, n, cap, L, e, e2, h3, h4, h5⟩ := hm
  exact ⟨a, n, cap, L, e, e2, h3, h4, fun j hj => let ⟨b', o', e', c0⟩ := h5 j hj; ⟨b', o', e', key _ _ c0⟩⟩
structure PtArgs (ks : List Nat) (A : Nat → Addr) (la : Option Addr) (ln lc : Nat) (P V : Nat → ByteArray) (R : Nat → List Md) (K : Nat → List Str) (Bk : Nat → Bool) (Rv Kv : Nat → Value) (sv : Value) (sel : List Md) (w : World) : Prop where
  idx : IdxKs ks
  env : EnvP ks A w
  envC : EnvC A w
  l : EntsIn w la ln lc P V R K Bk Rv Kv
  s : ModsAt w sv sel
theorem longI_isP (l : List Md) (most : Nat) : longI l most = if longMods l most then 1 else 0 := rfl
theorem ofM_bytes (m : Md) : ∃ p v : ByteArray, p = ⟨m.1.toArray⟩ ∧ v = ⟨m.2.toArray⟩ := ⟨_, _, rfl, rfl⟩
set_option maxHeartbeats 4000000 in
set_option maxRecDepth 100000 in
theorem pkgTells_long (ks : List Nat) (A : Nat → Addr) (la : Option Addr) (ln lc : Nat) (P V : Nat → ByteArray) (R : Nat → List Md) (K : Nat → List Str) (Bk : Nat → Bool) (Rv Kv : Nat → Value) (sv : Value) (sel : List Md) (p : ByteArray) (w : World) (H : PtArgs ks A la ln lc P V R K Bk Rv Kv sv sel w)
    (hlong : longIdx (enF ln P V R K Bk) = true ∨ (longIdx (enF ln P V R K Bk) = false ∧ (longMods sel 15 = true ∨ (longMods sel 15 = false ∧ 100 < p.size)))) :
    Calls Tryz.prog 9 #[.slice la ln lc, sv, .string p] w fun e w' => e = .returned (.bool true) ∧ Below w.heap.size w w' := by
  have hre := packed_calls ks A H.idx w H.env
  have hlx := fun (W : World) (hb : Below w.heap.size w W) => longIndex_in la ln lc P V R K Bk Rv Kv W (H.l.below hb)
  have hlm := fun (W : World) (hb : Below w.heap.size w W) => longMods_calls sv sel 15 W (H.s.below hb)
  rw [longI_isP] at hlm
  replace hre := Lib.hid hre
  replace hlx := Lib.hid hlx
  replace hlm := Lib.hid hlm
  clear H
  rcases hlong with h1 | ⟨h1, h2 | ⟨h2, h3⟩⟩
  · rw [longII_yes h1] at hlx
    clear h1
    go_enter Tryz.func9, Tryz.ntmps9
    go_wp2_with fail
    refine hre.out.mono ?_
    rintro e w1 ⟨rfl, hB⟩
    go_wp2_with fail
    refine (hlx.out _ hB).mono ?_
    rintro e w' ⟨rfl, rfl⟩
    clear hlx hre
    go_wp2_with fail
    go_ret
    exact ⟨rfl, hB⟩
  · rw [longII_no h1] at hlx
    rw [h2] at hlm
    simp only [if_true] at hlm
    clear h1 h2
    go_enter Tryz.func9, Tryz.ntmps9
    go_wp2_with fail
    refine hre.out.mono ?_
    rintro e w1 ⟨rfl, hB⟩
    go_wp2_with fail
    refine (hlx.out _ hB).mono ?_
    rintro e w' ⟨rfl, rfl⟩
    clear hlx hre
    go_wp2_with fail
    refine (hlm.out _ hB).mono ?_
    rintro e w' ⟨rfl, rfl⟩
    go_wp2_with fail
    go_ret
    exact ⟨rfl, hB⟩
  · rw [longII_no h1] at hlx
    rw [h2] at hlm
    simp only [Bool.false_eq_true, if_false] at hlm
    have h3' : decide ((100 : Int) < (p.size : Int)) = true := decide_eq_true (by omega)
    clear h1 h2
    go_enter Tryz.func9, Tryz.ntmps9
    go_wp2_with fail
    refine hre.out.mono ?_
    rintro e w1 ⟨rfl, hB⟩
    go_wp2_with fail
    refine (hlx.out _ hB).mono ?_
    rintro e w' ⟨rfl, rfl⟩
    clear hlx hre
    go_wp2_with fail
    refine (hlm.out _ hB).mono ?_
    rintro e w' ⟨rfl, rfl⟩
    go_wp2_with fail
    go_ret
    exact ⟨rfl, hB⟩
set_option maxHeartbeats 16000000 in
set_option maxRecDepth 100000 in
theorem pkgTells_main (ks : List Nat) (A : Nat → Addr) (la : Option Addr) (ln lc : Nat) (P V : Nat → ByteArray) (R : Nat → List Md) (K : Nat → List Str) (Bk : Nat → Bool) (Rv Kv : Nat → Value) (sv : Value) (sel : List Md) (p : ByteArray) (w : World) (H : PtArgs ks A la ln lc P V R K Bk Rv Kv sv sel w)
    (h1 : longIdx (enF ln P V R K Bk) = false) (h2 : longMods sel 15 = false) (h3 : p.size ≤ 100) :
    Calls Tryz.prog 9 #[.slice la ln lc, sv, .string p] w fun e w' => e = .returned (.bool true) ∧ Below w.heap.size w w' := by
  have hre := packed_calls ks A H.idx w H.env
  have hlx := fun (W : World) (hb : Below w.heap.size w W) => longIndex_in la ln lc P V R K Bk Rv Kv W (H.l.below hb)
  have hlm := fun (W : World) (hb : Below w.heap.size w W) => longMods_calls sv sel 15 W (H.s.below hb)
  rw [longI_isP, h2] at hlm
  simp only [Bool.false_eq_true, if_false] at hlm
  have hsi := longIdx_short h1
  have hsm := longIdx_small h1
  have hs15 := (longMods_small h2).1
  have h3' : decide ((100 : Int) < (p.size : Int)) = false := decide_eq_false (by omega)
  have HH := Lib.hid H
  have how := fun (W : World) (hb : Below w.heap.size w W) => ownIndex_calls (.slice la ln lc) (enF ln P V R K Bk) W ⟨la, ln, lc, P, V, R, K, Bk, Rv, Kv, rfl, rfl, HH.out.l.below hb⟩ (by have := hsm.1; omega) (fun e he => by
    have h4 := longEn_small (hsm.2 e he)
    have h5 := longMods_small h4.2.2.1
    exact ⟨by omega, by omega⟩)
  have hom := fun (W : World) (hb : Below w.heap.size w W) => ownMods_calls sv sel W (HH.out.s.below hb) (by omega)
  have hlp : ∀ e ∈ enF ln P V R K Bk, e.md.1.length ≤ 100 := fun e he => by
    have h4 := longEn_small (hsm.2 e he)
    omega
  obtain ⟨l, hl0⟩ : ∃ l, enF ln P V R K Bk = l := ⟨_, rfl⟩
  have hop := fun (W : World) (hb : Below w.heap.size w W) => refOfPack_in la ln lc P V R K Bk Rv Kv sv sel p l hl0 W (HH.out.l.below hb) (HH.out.s.below hb) (by rw [← hl0]; exact hsi) (by omega) (by omega)
  have hap := fun (W : World) (hb : Below w.heap.size w W) => refAllPacks_in la ln lc P V R K Bk Rv Kv sv sel l hl0 W (HH.out.l.below hb) (HH.out.s.below hb) (by rw [← hl0]; exact hsi) (by omega)
  have hwh := fun (W : World) (hb : Below w.heap.size w W) => refWho_in la ln lc P V R K Bk Rv Kv p l hl0 W (HH.out.l.below hb) (by rw [← hl0]; exact hsi) (by rw [← hl0]; exact hlp) (by omega)
  simp only [hl0] at hsi hlx how h1
  have hpo := fun (oa : Option Addr) (on oc : Nat) P' V' R' K' B' Rv' Kv' (hOl : l = enF on P' V' R' K' B') (v : Value) (W : World) (hb : Below w.heap.size w W) (hO : EntsIn W oa on oc P' V' R' K' B' Rv' Kv') (hv : ModsAt W v sel) => pkgOf_in ks A HH.out.idx oa on oc P' V' R' K' B' Rv' Kv' v sel p l hOl.symm W (HH.out.env.below hb) hO hsi hv (by omega) (by omega)
  have hpa := fun (oa : Option Addr) (on oc : Nat) P' V' R' K' B' Rv' Kv' (hOl : l = enF on P' V' R' K' B') (v : Value) (W : World) (hb : Below w.heap.size w W) (hO : EntsIn W oa on oc P' V' R' K' B' Rv' Kv') (hv : ModsAt W v sel) => pkgAll_in ks A HH.out.idx oa on oc P' V' R' K' B' Rv' Kv' v sel l hOl.symm W (HH.out.env.below hb) hO hsi hv (by omega)
  have hpw := fun (oa : Option Addr) (on oc : Nat) P' V' R' K' B' Rv' Kv' (hOl : l = enF on P' V' R' K' B') (W : World) (hb : Below w.heap.size w W) (hO : EntsIn W oa on oc P' V' R' K' B' Rv' Kv') => pkgWho_in ks A HH.out.idx oa on oc P' V' R' K' B' Rv' Kv' p l hOl.symm W (HH.out.env.below hb) hO hsi
  rw [longII_no h1] at hlx
  have l1 := ofErr_le l sel p.data.toList
  have l2 := startErr_le l sel
  have l3 := idxErr_le l
  have hf1 := fun (W : World) (ev : Value) (h1 : Below w.heap.size w W) (h2 : FaultAt A W ev (ofErr l sel p.data.toList)) => faulted3_calls A ev _ W (HH.out.envC.below h1) h2 l1
  have hf2 := fun (W : World) (ev : Value) (h1 : Below w.heap.size w W) (h2 : FaultAt A W ev (allErr l sel)) => faulted3_calls A ev _ W (HH.out.envC.below h1) h2 l2
  have hf3 := fun (W : World) (ev : Value) (h1 : Below w.heap.size w W) (h2 : FaultAt A W ev (idxErr l)) => faulted3_calls A ev _ W (HH.out.envC.below h1) h2 l3
  obtain ⟨mp, mv, hmp, hmv⟩ := ofM_bytes (ofM l sel p.data.toList)
  simp only [← hmp, ← hmv] at hop hpo
  unfold fltV at hop hap hwh
  obtain ⟨E1, hE1⟩ : ∃ x, x = ofErr l sel p.data.toList := ⟨_, rfl⟩
  obtain ⟨E2, hE2⟩ : ∃ x, x = allErr l sel := ⟨_, rfl⟩
  obtain ⟨E3, hE3⟩ : ∃ x, x = idxErr l := ⟨_, rfl⟩
  simp only [← hE1, ← hE2, ← hE3] at hop hpo hap hpa hwh hpw hf1 hf2 hf3
  obtain ⟨e1c, e1a⟩ := E1
  obtain ⟨e2c, e2a⟩ := E2
  obtain ⟨e3c, e3a⟩ := E3
  simp only at hop hpo hap hpa hwh hpw hf1 hf2 hf3
  have hst := fun (l : List Str) (v1 v2 : Value) (W : World) (g1 : StrsAt W v1 l) (g2 : StrsAt W v2 l) => refSame_calls v1 v2 l l W g1 g2
  have hsd := fun (l : List Md) (v1 v2 : Value) (W : World) (g1 : ModsAt W v1 l) (g2 : ModsAt W v2 l) => sameMods_calls v1 v2 l l W g1 g2
  simp only [decide_true] at hst hsd
  have hnq := fun W => md_neq mp mv mp mv W
  simp only [and_self, decide_true, Bool.not_true] at hnq
  replace hre := Lib.hid hre
  replace hlx := Lib.hid hlx
  replace hlm := Lib.hid hlm
  replace how := Lib.hid how
  replace hom := Lib.hid hom
  replace hop := Lib.hid hop
  replace hap := Lib.hid hap
  replace hwh := Lib.hid hwh
  replace hpo := Lib.hid hpo
  replace hpa := Lib.hid hpa
  replace hpw := Lib.hid hpw
  replace hf1 := Lib.hid hf1
  replace hf2 := Lib.hid hf2
  replace hf3 := Lib.hid hf3
  replace hst := Lib.hid hst
  replace hsd := Lib.hid hsd
  clear h1 h2 h3 hsi hsm hs15 H hlp hl0 l1 l2 l3 hmp hmv hE1 hE2 hE3
  go_enter Tryz.func9, Tryz.ntmps9
  go_wp2_with fail
  refine hre.out.mono ?_
  rintro e w1 ⟨rfl, hB⟩
  go_wp2_with fail
  refine (hlx.out _ hB).mono ?_
  rintro e w' ⟨rfl, rfl⟩
  clear hlx hre
  go_wp2_with fail
  refine (hlm.out _ hB).mono ?_
  rintro e w' ⟨rfl, rfl⟩
  go_wp2_with fail
  clear h3' hlm
  refine (how.out _ hB).mono ?_
  rintro e w2 ⟨⟨ov, rfl, hOE⟩, hb⟩
  replace hB := below_step hB hb
  obtain ⟨oa, on, oc, P', V', R', K', B', Rv', Kv', rfl, hOl, hO⟩ := hOE
  have hpo2 := fun v W hb hc hv => hpo.out oa on oc _ _ _ _ _ _ _ hOl v W hb (hO.below (w' := W) hc) hv
  have hpa2 := fun v W hb hc hv => hpa.out oa on oc _ _ _ _ _ _ _ hOl v W hb (hO.below (w' := W) hc) hv
  have hpw2 := fun W hb hc => hpw.out oa on oc _ _ _ _ _ _ _ hOl W hb (hO.below (w' := W) hc)
  have HB2 := Lib.hid hB
  have hC := Below.refl w2.heap.size w2
  replace hpo2 := Lib.hid hpo2
  replace hpa2 := Lib.hid hpa2
  replace hpw2 := Lib.hid hpw2
  clear hO hb how hOl hpo hpa hpw hB
  go_wp2_with fail
  refine (hom.out _ HB2.out).mono ?_
  rintro e w3 ⟨⟨mv1, rfl, hm1, L1, hL1, hoL1⟩, hb⟩
  replace hC := below_step hC hb
  obtain ⟨a3, n3, c3, rfl⟩ := own_form hoL1
  have hpo3 := hpo2.out _ _ (below_step HB2.out hC) hC hm1
  replace hpo3 := Lib.hid hpo3
  clear hb hpo2 hm1 hL1 hoL1
  go_wp2_with fail
  refine hpo3.out.mono ?_
  rintro e w4 ⟨⟨ev1, rfl, hv1⟩, hb⟩
  replace hC := below_step hC hb
  clear hb hpo3
  have hba := below_alloc w4 (.cells #[.string mp, .string mv] 29)
  have hm := box2_alloc w4 (.string mp) (.string mv) 29
  replace hC := below_step hC hba
  replace hv1 := hv1.below hba
  clear hba
  go_wp2_with fail
  generalize w4.alloc (.cells #[.string mp, .string mv] 29) = w5 at *
  generalize w4.heap.size = bm at *
  refine (hop.out _ (below_step HB2.out hC)).mono ?_
  rintro e w6 ⟨rfl, hb⟩
  replace hC := below_step hC hb
  replace hv1 := hv1.below hb
  replace hm := hm.below hb
  clear hb hop
  have hbw := hC.size
  have hba1 := below_alloc w6 (.cells #[.string mp, .string mv] 29)
  have hm2a := box2_alloc w6 (.string mp) (.string mv) 29
  have hba2 := below_alloc (w6.alloc (.cells #[.string mp, .string mv] 29)) (.cells #[.int .i64 (e1c : Nat), .int .i64 e1a] 46)
  have hz := box2_alloc (w6.alloc (.cells #[.string mp, .string mv] 29)) (.int .i64 (e1c : Nat)) (.int .i64 e1a) 46
  simp only [World.size_alloc] at hz
  have hm2 := hm2a.below hba2
  have hba := below_step hba1 hba2
  replace hC := below_step hC hba
  replace hv1 := hv1.below hba
  replace hm := hm.below hba
  have hfb := hf1.out _ ev1 (below_step HB2.out hC) hv1
  replace hfb := Lib.hid hfb
  clear hba hba1 hba2 hm2a hf1 hv1
  go_wp2_with fail
  generalize (w6.alloc (.cells #[.string mp, .string mv] 29)).alloc (.cells #[.int .i64 (e1c : Nat), .int .i64 e1a] 46) = w7 at *
  generalize w6.heap.size = bw at *
  refine hfb.out.mono ?_
  rintro e w8 ⟨rfl, hb⟩
  replace hC := below_step hC hb
  replace hz := hz.below hb
  obtain ⟨m0, m1, mf⟩ := hm.below hb
  obtain ⟨n0, n1, nf⟩ := hm2.below hb
  clear hb hfb hm hm2
  go_wp2_with fail
  clear m0 m1 mf n0 n1 nf hnq
  refine (hom.out _ (below_step HB2.out hC)).mono ?_
  rintro e w9 ⟨⟨mv2, rfl, hm3, L2, hL2, hoL2⟩, hb⟩
  replace hC := below_step hC hb
  replace hz := hz.below hb
  obtain ⟨a4, n4, c4, rfl⟩ := own_form hoL2
  have hpa3 := hpa2.out _ _ (below_step HB2.out hC) hC hm3
  replace hpa3 := Lib.hid hpa3
  clear hb hpa2 hm3 hL2 hoL2 hom
  go_wp2_with fail
  refine hpa3.out.mono ?_
  rintro e w10 ⟨⟨v5, ev2, rfl, hs5, hv2⟩, hb⟩
  replace hC := below_step hC hb
  replace hz := hz.below hb
  obtain ⟨a5, n5, c5, _, e5, -⟩ := id hs5
  subst e5
  clear hb hpa3
  go_wp2_with fail
  refine (hap.out _ (below_step HB2.out hC)).mono ?_
  rintro e w11 ⟨⟨v6, rfl, hs6⟩, hb⟩
  replace hC := below_step hC hb
  replace hz := hz.below hb
  replace hs5 := hs5.below hb
  replace hv2 := hv2.below hb
  obtain ⟨a6, n6, c6, _, e6, -⟩ := id hs6
  subst e6
  have hs5b := StrsAt.fltP hs5 hz (.int .i64 (e2c : Nat)) (.int .i64 e2a)
  have hs6b := StrsAt.fltP hs6 hz (.int .i64 (e2c : Nat)) (.int .i64 e2a)
  have hv2b := hv2.flt hz (.int .i64 (e2c : Nat)) (.int .i64 e2a)
  have hC2 := below_sto2 hC (show w2.heap.size ≤ bw + 1 by omega) (.int .i64 (e2c : Nat)) (.int .i64 e2a)
  have hz2 := hz.sto (.int .i64 (e2c : Nat)) (.int .i64 e2a)
  have hfb := hf2.out _ ev2 (below_step HB2.out hC2) hv2b
  obtain ⟨z0, z1, zf⟩ := id hz
  replace hfb := Lib.hid hfb
  clear hb hap hs5 hs6 hv2 hf2
  go_wp2_with fail
  refine hfb.out.mono ?_
  rintro e w12 ⟨rfl, hb⟩
  have hsm := hst.out _ _ _ _ (hs5b.below hb) (hs6b.below hb)
  replace hC := below_step hC2 hb
  replace hz := hz2.below hb
  replace hsm := Lib.hid hsm
  clear hb hfb hs5b hs6b hv2b hC2 hz2 z0 z1 zf hst
  go_wp2_with fail
  refine hsm.out.mono ?_
  rintro e w13 ⟨rfl, hb⟩
  replace hC := below_step hC hb
  replace hz := hz.below hb
  have hpw3 := hpw2.out _ (below_step HB2.out hC) hC
  replace hpw3 := Lib.hid hpw3
  clear hb hsm hpw2
  go_wp2_with fail
  refine hpw3.out.mono ?_
  rintro e w14 ⟨⟨v7, ev3, rfl, hs7, hv3⟩, hb⟩
  replace hC := below_step hC hb
  replace hz := hz.below hb
  obtain ⟨a7, n7, c7, _, _, e7, -⟩ := id hs7
  subst e7
  clear hb hpw3
  go_wp2_with fail
  refine (hwh.out _ (below_step HB2.out hC)).mono ?_
  rintro e w15 ⟨⟨v8, rfl, hs8⟩, hb⟩
  replace hC := below_step hC hb
  replace hz := hz.below hb
  replace hs7 := hs7.below hb
  replace hv3 := hv3.below hb
  obtain ⟨a8, n8, c8, _, _, e8, -⟩ := id hs8
  subst e8
  have hs7b := hs7.flt hz (.int .i64 (e3c : Nat)) (.int .i64 e3a)
  have hs8b := hs8.flt hz (.int .i64 (e3c : Nat)) (.int .i64 e3a)
  have hv3b := hv3.flt hz (.int .i64 (e3c : Nat)) (.int .i64 e3a)
  have hC2 := below_sto2 hC (show w2.heap.size ≤ bw + 1 by omega) (.int .i64 (e3c : Nat)) (.int .i64 e3a)
  have hfb := hf3.out _ ev3 (below_step HB2.out hC2) hv3b
  obtain ⟨z0, z1, zf⟩ := id hz
  replace hfb := Lib.hid hfb
  clear hb hwh hs7 hs8 hv3 hf3
  go_wp2_with fail
  refine hfb.out.mono ?_
  rintro e w16 ⟨rfl, hb⟩
  have hsm := hsd.out _ _ _ _ (hs7b.below hb) (hs8b.below hb)
  replace hC := below_step hC2 hb
  replace hsm := Lib.hid hsm
  clear hb hfb hs7b hs8b hv3b hC2 z0 z1 zf hsd
  go_wp2_with fail
  refine hsm.out.mono ?_
  rintro e w17 ⟨rfl, hb⟩
  go_wp2_with fail
  go_ret
  exact ⟨by simp, below_step HB2.out (below_step hC hb)⟩
set_option maxHeartbeats 4000000 in
theorem pkgTells_calls (ks : List Nat) (A : Nat → Addr) (hks : IdxKs ks) (lv sv : Value) (l : List En) (sel : List Md) (p : ByteArray) (w : World) (hE : EnvP ks A w) (hC : EnvC A w) (hl : EntsAt w lv l) (hs : ModsAt w sv sel) :
    Calls Tryz.prog 9 #[lv, sv, .string p] w fun e w' => e = .returned (.bool true) ∧ Below w.heap.size w w' := by
  obtain ⟨la, ln, lc, P, V, R, K, Bk, Rv, Kv, rfl, rfl, hin⟩ := hl
  have H : PtArgs ks A la ln lc P V R K Bk Rv Kv sv sel w := ⟨hks, hE, hC, hin, hs⟩
  cases h1 : longIdx (enF ln P V R K Bk)
  · cases h2 : longMods sel 15
    · by_cases h3 : p.size ≤ 100
      · exact pkgTells_main ks A la ln lc P V R K Bk Rv Kv sv sel p w H h1 h2 h3
      · exact pkgTells_long ks A la ln lc P V R K Bk Rv Kv sv sel p w H (.inr ⟨h1, .inr ⟨h2, by omega⟩⟩)
    · exact pkgTells_long ks A la ln lc P V R K Bk Rv Kv sv sel p w H (.inr ⟨h1, .inl h2⟩)
  · exact pkgTells_long ks A la ln lc P V R K Bk Rv Kv sv sel p w H (.inl h1)
end Go.Proofs.Pw
