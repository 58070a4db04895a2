/- Ia: walks and plain laws, joined: IdxTells Env EnvP Open. Conditions: at each theorem. -/
import Derived.Test.YtnanklfbmmionaaGreatDoorIat
import Derived.Test.YtnanklfbmmionaaGreatDoorIau
import Derived.Test.YtnanklfbmmionaaGreatDoorIay
import Derived.Test.YtnanklfbmmionaaGreatDoorIaz
import Derived.Deep.RegionHeld2
import Derived.Test.YtnanklfbmmionaaGreatDoorIab
import Derived.Stop.LaidErr
import Derived.LaidHandle
import Derived.SliceStrings
import Derived.Test.YtnanklfbmmionaaGreatDoorIad
import Derived.Deep.Slices
import Derived.Deep.Fields

namespace Go.Proofs.Pw
open Go.RowKit
open Go.Lib hiding intOf
structure ItArgs (ks : List Nat) (A : Nat → Addr) (la : Option Addr) (ln lc : Nat) (P V : Nat → ByteArray) (R : Nat → List Md) (K : Nat → List Str) (Bk : Nat → Bool) (Rv Kv : Nat → Value) (w : World) : Prop where
  idx : IdxKs ks
  env : EnvP ks A w
  envC : EnvC A w
  l : EntsIn w la ln lc P V R K Bk Rv Kv
set_option maxHeartbeats 4000000 in
set_option maxRecDepth 100000 in
theorem idxTells_long (ks : List Nat) (A : Nat → Addr) (la : Option Addr) (ln lc : Nat) (P V : Nat → ByteArray) (R : Nat → List Md) (K : Nat → List Str) (Bk : Nat → Bool) (Rv Kv : Nat → Value) (p v : ByteArray) (w : World) (H : ItArgs ks A la ln lc P V R K Bk Rv Kv w)
    (hlong : longIdx (enF ln P V R K Bk) = true ∨ (longIdx (enF ln P V R K Bk) = false ∧ (70 < p.size ∨ (p.size ≤ 70 ∧ 60 < v.size)))) :
    Calls Tryz.prog 12 #[.slice la ln lc, .agg #[.string p, .string v]] w fun e w' => e = .returned (.bool true) ∧ Below w.heap.size w w' := by
  have hb0 := below_alloc w (.cells #[.string p, .string v] 29)
  have hm := box2_alloc w (.string p) (.string v) 29
  have hre := indexed_calls ks A H.idx _ (H.env.below hb0) (H.envC.below hb0)
  have hlx := fun (W : World) (hb : Below w.heap.size w W) => longIndex_in la ln lc P V R K Bk Rv Kv W (H.l.below hb)
  replace hre := Lib.hid hre
  replace hlx := Lib.hid hlx
  clear H
  rcases hlong with h1 | ⟨h1, h2 | ⟨h2, h3⟩⟩
  · rw [longII_yes h1] at hlx
    clear h1
    go_enter Tryz.func12, Tryz.ntmps12
    go_wp2_with fail
    generalize w.alloc (.cells #[.string p, .string v] 29) = w0 at *
    refine hre.out.mono ?_
    rintro e w1 ⟨rfl, hb⟩
    have hB := below_step hb0 hb
    replace hm := hm.below hb
    clear hb hb0 hre
    obtain ⟨z0, z1, zf⟩ := id hm
    go_wp2_with fail
    refine (hlx.out _ hB).mono ?_
    rintro e w' ⟨rfl, rfl⟩
    clear hlx
    go_wp2_with fail
    go_ret
    exact ⟨rfl, hB⟩
  · rw [longII_no h1] at hlx
    have h2' : decide ((70 : Int) < (p.size : Int)) = true := decide_eq_true (by omega)
    clear h1
    go_enter Tryz.func12, Tryz.ntmps12
    go_wp2_with fail
    generalize w.alloc (.cells #[.string p, .string v] 29) = w0 at *
    refine hre.out.mono ?_
    rintro e w1 ⟨rfl, hb⟩
    have hB := below_step hb0 hb
    replace hm := hm.below hb
    clear hb hb0 hre
    obtain ⟨z0, z1, zf⟩ := id hm
    go_wp2_with fail
    refine (hlx.out _ hB).mono ?_
    rintro e w' ⟨rfl, rfl⟩
    clear hlx
    go_wp2_with fail
    go_ret
    exact ⟨rfl, hB⟩
  · rw [longII_no h1] at hlx
    have h2' : decide ((70 : Int) < (p.size : Int)) = false := decide_eq_false (by omega)
    have h3' : decide ((60 : Int) < (v.size : Int)) = true := decide_eq_true (by omega)
    clear h1
    go_enter Tryz.func12, Tryz.ntmps12
    go_wp2_with fail
    generalize w.alloc (.cells #[.string p, .string v] 29) = w0 at *
    refine hre.out.mono ?_
    rintro e w1 ⟨rfl, hb⟩
    have hB := below_step hb0 hb
    replace hm := hm.below hb
    clear hb hb0 hre
    obtain ⟨z0, z1, zf⟩ := id hm
    go_wp2_with fail
    refine (hlx.out _ hB).mono ?_
    rintro e w' ⟨rfl, rfl⟩
    clear hlx
    go_wp2_with fail
    go_ret
    exact ⟨rfl, hB⟩
set_option maxHeartbeats 8000000 in
set_option maxRecDepth 100000 in
theorem idxTells_main (ks : List Nat) (A : Nat → Addr) (la : Option Addr) (ln lc : Nat) (P V : Nat → ByteArray) (R : Nat → List Md) (K : Nat → List Str) (Bk : Nat → Bool) (Rv Kv : Nat → Value) (p v : ByteArray) (w : World) (H : ItArgs ks A la ln lc P V R K Bk Rv Kv w)
    (h1 : longIdx (enF ln P V R K Bk) = false) (h2 : p.size ≤ 70) (h3 : v.size ≤ 60) :
    Calls Tryz.prog 12 #[.slice la ln lc, .agg #[.string p, .string v]] w fun e w' => e = .returned (.bool true) ∧ Below w.heap.size w w' := by
  have hb0 := below_alloc w (.cells #[.string p, .string v] 29)
  have hm := box2_alloc w (.string p) (.string v) 29
  have hre := indexed_calls ks A H.idx _ (H.env.below hb0) (H.envC.below hb0)
  have hlx := fun (W : World) (hb : Below w.heap.size w W) => longIndex_in la ln lc P V R K Bk Rv Kv W (H.l.below hb)
  have hsi := longIdx_short h1
  have hsm := longIdx_small h1
  have hln : ln ≤ 101 := by have := hsm.1; rwa [enF_length] at this
  have h2' : decide ((70 : Int) < (p.size : Int)) = false := decide_eq_false (by omega)
  have h3' : decide ((60 : Int) < (v.size : Int)) = false := decide_eq_false (by omega)
  have HH := Lib.hid H
  have HSI := Lib.hid hsi
  have how := fun (W : World) (hb : Below w.heap.size w W) => ownIndex_calls (.slice la ln lc) (enF ln P V R K Bk) W ⟨la, ln, lc, P, V, R, K, Bk, Rv, Kv, rfl, rfl, HH.out.l.below hb⟩ (by have := hsm.1; omega) (fun e he => by
    have h4 := longEn_small (hsm.2 e he)
    have h5 := longMods_small h4.2.2.1
    exact ⟨by omega, by omega⟩)
  have hif := fun (W : World) (hb : Below w.heap.size w W) => indexFault_in la ln lc P V R K Bk Rv Kv W (HH.out.l.below hb) HSI.out
  have hfo := fun (W : World) (hb : Below w.heap.size w W) => findOf_in la ln lc P V R K Bk Rv Kv p v W (HH.out.l.below hb) (by omega)
  have hvo := fun (W : World) (hb : Below w.heap.size w W) => refVersOf_in la ln lc P V R K Bk Rv Kv p W (HH.out.l.below hb) HSI.out
  have hpo := fun (W : World) (hb : Below w.heap.size w W) => pathsOf_in la ln lc P V R K Bk Rv Kv W (HH.out.l.below hb) HSI.out
  have hlo := fun (W : World) (hb : Below w.heap.size w W) => latestOf_in la ln lc P V R K Bk Rv Kv p W (HH.out.l.below hb) HSI.out
  have hE := fun (W : World) (hb : Below w.heap.size w W) => HH.out.env.below hb
  have hEC := fun (W : World) (hb : Below w.heap.size w W) => HH.out.envC.below hb
  have hss := fun (l : List Str) (v1 v2 : Value) (W : World) (g1 : StrsAt W v1 l) (g2 : StrsAt W v2 l) => refSame_calls v1 v2 l l W g1 g2
  simp only [decide_true] at hss
  rw [longII_no h1] at hlx
  have HI := Lib.hid HH.out.idx
  generalize hl0 : enF ln P V R K Bk = l at *
  have hck := fun (oa : Option Addr) (on oc : Nat) P' V' R' K' B' Rv' Kv' (hOl : l = enF on P' V' R' K' B') (W : World) (hb : Below w.heap.size w W) (hO : EntsIn W oa on oc P' V' R' K' B' Rv' Kv') => idxCheck_in ks A HI.out oa on oc P' V' R' K' B' Rv' Kv' W (hE W hb) hO (by rw [← hOl]; exact HSI.out)
  have hif2 := fun (oa : Option Addr) (on oc : Nat) P' V' R' K' B' Rv' Kv' (hOl : l = enF on P' V' R' K' B') (W : World) (hO : EntsIn W oa on oc P' V' R' K' B' Rv' Kv') => idxFind_in oa on oc P' V' R' K' B' Rv' Kv' p v W hO (by have := HSI.out.len; rw [hOl, enF_length] at this; exact this)
  have hvs := fun (oa : Option Addr) (on oc : Nat) P' V' R' K' B' Rv' Kv' (hOl : l = enF on P' V' R' K' B') (W : World) (hb : Below w.heap.size w W) (hO : EntsIn W oa on oc P' V' R' K' B' Rv' Kv') => idxVersions_in ks A oa on oc P' V' R' K' B' Rv' Kv' p W (hE W hb) hO (by rw [← hOl]; exact HSI.out)
  have hps := fun (oa : Option Addr) (on oc : Nat) P' V' R' K' B' Rv' Kv' (hOl : l = enF on P' V' R' K' B') (W : World) (hO : EntsIn W oa on oc P' V' R' K' B' Rv' Kv') => idxPaths_in oa on oc P' V' R' K' B' Rv' Kv' W hO (by rw [← hOl]; exact HSI.out)
  have hls := fun (oa : Option Addr) (on oc : Nat) P' V' R' K' B' Rv' Kv' (hOl : l = enF on P' V' R' K' B') (W : World) (hb : Below w.heap.size w W) (hO : EntsIn W oa on oc P' V' R' K' B' Rv' Kv') => idxLatest_in ks A oa on oc P' V' R' K' B' Rv' Kv' p W (hE W hb) hO (by rw [← hOl]; exact HSI.out)
  have lI := idxErr_le l
  have hfa := fun (W : World) (ev : Value) (h1 : Below w.heap.size w W) (h2 : FaultAt A W ev (idxErr l)) => faulted1_calls A ev _ W (hEC W h1) h2 lI
  unfold fltV at hif
  obtain ⟨IE, hIE⟩ : ∃ x, x = idxErr l := ⟨_, rfl⟩
  simp only [← hIE] at hif hfa
  obtain ⟨ic, ia⟩ := IE
  simp only at hif hfa
  have HIE := Lib.hid hIE
  replace hre := Lib.hid hre
  replace hlx := Lib.hid hlx
  replace how := Lib.hid how
  replace hif := Lib.hid hif
  replace hfo := Lib.hid hfo
  replace hvo := Lib.hid hvo
  replace hpo := Lib.hid hpo
  replace hlo := Lib.hid hlo
  replace hE := Lib.hid hE
  replace hss := Lib.hid hss
  replace hck := Lib.hid hck
  replace hif2 := Lib.hid hif2
  replace hvs := Lib.hid hvs
  replace hps := Lib.hid hps
  replace hls := Lib.hid hls
  replace hfa := Lib.hid hfa
  clear h1 h2 h3 hsi hsm H hl0 hEC lI hIE
  go_enter Tryz.func12, Tryz.ntmps12
  go_wp2_with fail
  generalize w.alloc (.cells #[.string p, .string v] 29) = w0 at *
  refine hre.out.mono ?_
  rintro e w1 ⟨rfl, hb⟩
  have hB := below_step hb0 hb
  replace hm := hm.below hb
  clear hb hb0 hre
  obtain ⟨z0, z1, zf⟩ := id hm
  go_wp2_with fail
  refine (hlx.out _ hB).mono ?_
  rintro e w' ⟨rfl, rfl⟩
  clear hlx
  go_wp2_with fail
  clear h2' h3'
  refine (how.out _ hB).mono ?_
  rintro e w2 ⟨⟨ov, rfl, hOE⟩, hb⟩
  replace hB := below_step hB hb
  replace hm := hm.below hb
  clear z0 z1 zf
  obtain ⟨oa, on, oc, P', V', R', K', B', Rv', Kv', rfl, hOl, hO⟩ := hOE
  have HO := Lib.hid hO
  have HOL := Lib.hid hOl
  clear hO hOl hb how
  have hck2 := fun W hb hc => hck.out oa on oc _ _ _ _ _ _ _ HOL.out W hb (HO.out.below hc)
  have hif3 := fun W hc => hif2.out oa on oc _ _ _ _ _ _ _ HOL.out W (HO.out.below hc)
  have hvs2 := fun W hb hc => hvs.out oa on oc _ _ _ _ _ _ _ HOL.out W hb (HO.out.below hc)
  have hps2 := fun W hc => hps.out oa on oc _ _ _ _ _ _ _ HOL.out W (HO.out.below hc)
  have hls2 := fun W hb hc => hls.out oa on oc _ _ _ _ _ _ _ HOL.out W hb (HO.out.below hc)
  simp only [← HOL.out] at hck2 hif3 hvs2 hps2 hls2
  simp only [← HIE.out] at hck2
  obtain ⟨FX, hFX⟩ : ∃ x, x = findE l (p.data.toList, v.data.toList) := ⟨_, rfl⟩
  obtain ⟨LX, hLX⟩ : ∃ x : ByteArray, x = ⟨(latestL l p.data.toList).toArray⟩ := ⟨_, rfl⟩
  rw [← hFX] at hif3
  rw [← hLX] at hls2
  have hfo2 := hfo.out
  have hlo2 := hlo.out
  rw [← hFX] at hfo2
  rw [← hLX] at hlo2
  have HM2 := Lib.hid hm
  have HB2 := Lib.hid hB
  have hbW := (Below.refl w2.heap.size w2).drew
  replace hck2 := Lib.hid hck2
  replace hif3 := Lib.hid hif3
  replace hvs2 := Lib.hid hvs2
  replace hps2 := Lib.hid hps2
  replace hls2 := Lib.hid hls2
  replace hfo2 := Lib.hid hfo2
  replace hlo2 := Lib.hid hlo2
  clear hm hB hck hif2 hvs hps hls hfo hlo hFX hLX HIE
  go_wp2_with fail
  go_region_held2 (fun W => (W.cell? ⟨w.heap.size, 0, none⟩ = some (.string p) ∧ W.cell? ⟨w.heap.size, 1, none⟩ = some (.string v)) ∧ Below w2.heap.size w2 W) (exact ⟨⟨(HM2.out.below hbW).c0, (HM2.out.below hbW).c1⟩, hbW⟩) (first
    | (go_at_call 41; refine (hck2.out _ (below_step HB2.out hbW) hbW).mono ?_; rintro e w7 ⟨⟨ev, rfl, hv⟩, hb7⟩; replace hbW := below_step hbW hb7)
    | (go_at_call 64; refine (hif.out _ (below_step HB2.out hbW)).mono ?_; rintro e w7 ⟨rfl, hb7⟩; replace hbW := below_step hbW hb7; try replace hv := hv.below hb7)
    | (go_at_call 63; refine (hfa.out _ _ (below_step HB2.out hbW) hv).mono ?_; rintro e w7 ⟨rfl, hb7⟩; replace hbW := below_step hbW hb7)
    | (go_at_call 61; refine (hif3.out _ hbW).mono ?_; rintro e w7 ⟨rfl, hb7⟩; replace hbW := below_step hbW hb7; try replace hv := hv.below hb7)
    | (go_at_call 35; refine (hfo2.out _ (below_step HB2.out hbW)).mono ?_; rintro e w7 ⟨rfl, hb7⟩; replace hbW := below_step hbW hb7; try replace hv := hv.below hb7))
  all_goals
    try clear hv
    clear hck2 hif hfa hif3 hfo2
    replace hbW := hbW.drew
    go_wp2_with fail
    go_region_held2 (fun W => (W.cell? ⟨w.heap.size, 0, none⟩ = some (.string p) ∧ W.cell? ⟨w.heap.size, 1, none⟩ = some (.string v)) ∧ Below w2.heap.size w2 W) (exact ⟨⟨(HM2.out.below hbW).c0, (HM2.out.below hbW).c1⟩, hbW⟩) (first
      | (go_at_call 42; refine (hvs2.out _ (below_step HB2.out hbW) hbW).mono ?_; rintro e w7 ⟨⟨s1, rfl, hs1⟩, hb7⟩; replace hbW := below_step hbW hb7)
      | (go_at_call 66; refine (hvo.out _ (below_step HB2.out hbW)).mono ?_; rintro e w7 ⟨⟨s2, rfl, hs2⟩, hb7⟩; replace hbW := below_step hbW hb7; try replace hs1 := hs1.below hb7)
      | (go_at_call 65; refine (hss.out _ _ _ _ hs1 hs2).mono ?_; rintro e w7 ⟨rfl, hb7⟩; replace hbW := below_step hbW hb7; clear hs1 hs2)
      | (go_at_call 59; refine (hps2.out _ hbW).mono ?_; rintro e w7 ⟨⟨s3, rfl, hs3⟩, hb7⟩; replace hbW := below_step hbW hb7)
      | (go_at_call 67; refine (hpo.out _ (below_step HB2.out hbW)).mono ?_; rintro e w7 ⟨⟨s4, rfl, hs4⟩, hb7⟩; replace hbW := below_step hbW hb7; try replace hs3 := hs3.below hb7)
      | (go_at_call 65; refine (hss.out _ _ _ _ hs3 hs4).mono ?_; rintro e w7 ⟨rfl, hb7⟩; replace hbW := below_step hbW hb7; clear hs3 hs4))
    all_goals
      clear hvs2 hvo hss hps2 hpo
      replace hbW := hbW.drew
      go_wp2_with fail
      go_region_held2 (fun W => (W.cell? ⟨w.heap.size, 0, none⟩ = some (.string p) ∧ W.cell? ⟨w.heap.size, 1, none⟩ = some (.string v)) ∧ Below w2.heap.size w2 W) (exact ⟨⟨(HM2.out.below hbW).c0, (HM2.out.below hbW).c1⟩, hbW⟩) (first
        | (go_at_call 60; refine (hls2.out _ (below_step HB2.out hbW) hbW).mono ?_; rintro e w7 ⟨rfl, hb7⟩; replace hbW := below_step hbW hb7)
        | (go_at_call 68; refine (hlo2.out _ (below_step HB2.out hbW)).mono ?_; rintro e w7 ⟨rfl, hb7⟩; replace hbW := below_step hbW hb7))
      all_goals
        go_wp2_with fail
        go_ret
        exact ⟨rfl, below_step HB2.out hbW⟩
set_option maxHeartbeats 4000000 in
theorem idxTells_calls (ks : List Nat) (A : Nat → Addr) (hks : IdxKs ks) (lv : Value) (l : List En) (p v : ByteArray) (w : World) (hE : EnvP ks A w) (hC : EnvC A w) (hl : EntsAt w lv l) :
    Calls Tryz.prog 12 #[lv, .agg #[.string p, .string v]] w fun e w' => e = .returned (.bool true) ∧ Below w.heap.size w w' := by
  obtain ⟨la, ln, lc, P, V, R, K, Bk, Rv, Kv, rfl, rfl, hin⟩ := hl
  have H : ItArgs ks A la ln lc P V R K Bk Rv Kv w := ⟨hks, hE, hC, hin⟩
  cases h1 : longIdx (enF ln P V R K Bk)
  · by_cases h2 : p.size ≤ 70
    · by_cases h3 : v.size ≤ 60
      · exact idxTells_main ks A la ln lc P V R K Bk Rv Kv p v w H h1 h2 h3
      · exact idxTells_long ks A la ln lc P V R K Bk Rv Kv p v w H (.inr ⟨h1, .inr ⟨h2, by omega⟩⟩)
    · exact idxTells_long ks A la ln lc P V R K Bk Rv Kv p v w H (.inr ⟨h1, .inl (by omega)⟩)
  · exact idxTells_long ks A la ln lc P V R K Bk Rv Kv p v w H (.inl h1)
end Go.Proofs.Pw

namespace Go.Proofs.Pw
open Go.RowKit Go.ChangeShapes
def sentD (text : List UInt8) : DataW Unit := .iface "*errors.errorString" (.ptr (.agg [.lit (.string text)]))
theorem Tryz.star : "*" ++ "errors.errorString" = "*errors.errorString" := by decide
theorem Tryz.rowES : ∀ u, Tryz.prog.typeName? 3 u = some "*errors.errorString" → u = 317 := fun u h =>
  typeName_ptr_named (P := Tryz.prog) (nm := "errors.errorString") (by rw [Tryz.star]; kernel_rfl) (by kernel_rfl) (by decide) u (by rw [Tryz.star]; exact h)
section
variable {W : World}
set_option maxRecDepth 100000 in
theorem sent_mem {n : String} {text : List UInt8} : ∀ {l : List (String × DataW Unit)} {ps : List MemPlace}, DataW.LaidVars Tryz.prog W l ps →
    (∀ b off, MemPlace.cell b off ∈ ps → (∃ c t, W.heap[b]? = some (.cells c t (0, 0))) ∧ ∀ u v, W.cell? ⟨b, off, none⟩ = some (.iface u v) → Value.okWide Tryz.prog W .any 0 u v) →
    (n, sentD text) ∈ l → (∀ g, Tryz.prog.globalNamed n = some g → (Tryz.prog.globals[g]?).map (·.type) = some 41) →
    ∃ (g : Nat) (a : Addr), Tryz.prog.globalNamed n = some g ∧ W.cell? ⟨g, 0, none⟩ = some (.iface 317 (.pointer (some a))) ∧ MemPlace.cell a.block a.off ∈ ps
  | [], _, _, _, hm, _ => by cases hm
  | (n0, d0) :: r, ps, h, hrows, hm, ht => by
    obtain ⟨g, t, cs, fuel, p, q, hg, htt, hv, hd, hq, rfl⟩ := h
    rcases List.mem_cons.1 hm with he | hm
    · obtain ⟨rfl, rfl⟩ := Prod.mk.injEq .. ▸ he
      obtain rfl := Option.some.inj ((ht g hg).symm.trans htt)
      obtain ⟨l0⟩ := cs
      have ok0 : ∀ u v, l0 = [.iface u v] → Value.okWide Tryz.prog W .any 0 u v := fun u v e => by
        subst e
        exact (hrows g 0 (by simp [MemPlace.row])).2 u v (by simpa using World.var?_cell hg hv 0)
      obtain ⟨a, s, rfl, _, _, _, rfl⟩ := errorString_of_trod Tryz.underlying41 Tryz.rowES Tryz.underlying317 Tryz.underlying319 rfl rfl Tryz.underlying9 (by kernel_rfl) (by kernel_rfl) hd ok0
      exact ⟨g, a, hg, by simpa using World.var?_cell hg hv 0, by simp [MemPlace.row]⟩
    · obtain ⟨g', a, h1, h2, h3⟩ := sent_mem hq (fun b off hm => hrows b off (List.mem_append_right _ hm)) hm ht
      exact ⟨g', a, h1, h2, List.mem_append_right _ h3⟩
set_option maxRecDepth 100000 in
theorem sent_ne {n n' : String} {text text' : List UInt8} (hnn : n ≠ n') : ∀ {l : List (String × DataW Unit)} {ps : List MemPlace}, DataW.LaidVars Tryz.prog W l ps → ps.Nodup →
    (∀ b off, MemPlace.cell b off ∈ ps → (∃ c t, W.heap[b]? = some (.cells c t (0, 0))) ∧ ∀ u v, W.cell? ⟨b, off, none⟩ = some (.iface u v) → Value.okWide Tryz.prog W .any 0 u v) →
    (n, sentD text) ∈ l → (n', sentD text') ∈ l → (∀ g, Tryz.prog.globalNamed n = some g → (Tryz.prog.globals[g]?).map (·.type) = some 41) → (∀ g, Tryz.prog.globalNamed n' = some g → (Tryz.prog.globals[g]?).map (·.type) = some 41) →
    ∀ (g g' : Nat) (a a' : Addr), Tryz.prog.globalNamed n = some g → Tryz.prog.globalNamed n' = some g' → W.cell? ⟨g, 0, none⟩ = some (.iface 317 (.pointer (some a))) → W.cell? ⟨g', 0, none⟩ = some (.iface 317 (.pointer (some a'))) → a ≠ a'
  | [], _, _, _, _, hm, _, _, _ => by cases hm
  | (n0, d0) :: r, ps, h, hnd, hrows, hm, hm', ht, ht' => by
    intro g g' a a' hg hg' hc hc'
    obtain ⟨g0, t0, cs, fuel, p, q, hg0, htt, hv, hd, hq, rfl⟩ := h
    have hrq : ∀ b off, MemPlace.cell b off ∈ q → (∃ c t, W.heap[b]? = some (.cells c t (0, 0))) ∧ ∀ u v, W.cell? ⟨b, off, none⟩ = some (.iface u v) → Value.okWide Tryz.prog W .any 0 u v := fun b off hm => hrows b off (List.mem_append_right _ hm)
    have head : ∀ {m : String} {tx : List UInt8} {gm : Nat} {am : Addr}, (m, sentD tx) = (n0, d0) → (∀ g, Tryz.prog.globalNamed m = some g → (Tryz.prog.globals[g]?).map (·.type) = some 41) → Tryz.prog.globalNamed m = some gm → W.cell? ⟨gm, 0, none⟩ = some (.iface 317 (.pointer (some am))) → MemPlace.cell am.block am.off ∈ p := by
      intro m tx gm am he htm hgm hcm
      obtain ⟨rfl, rfl⟩ := Prod.mk.injEq .. ▸ he
      obtain rfl := Option.some.inj (hg0.symm.trans hgm)
      obtain rfl := Option.some.inj ((htm g0 hg0).symm.trans htt)
      obtain ⟨l0⟩ := cs
      have ok0 : ∀ u v, l0 = [.iface u v] → Value.okWide Tryz.prog W .any 0 u v := fun u v e => by
        subst e
        exact (hrows g0 0 (by simp [MemPlace.row])).2 u v (by simpa using World.var?_cell hg0 hv 0)
      obtain ⟨a1, s, rfl, _, _, _, rfl⟩ := errorString_of_trod Tryz.underlying41 Tryz.rowES Tryz.underlying317 Tryz.underlying319 rfl rfl Tryz.underlying9 (by kernel_rfl) (by kernel_rfl) hd ok0
      have e := World.var?_cell hg0 hv 0
      rw [hcm] at e
      simp at e
      subst e
      simp [MemPlace.row]
    have tail : ∀ {m : String} {tx : List UInt8} {gm : Nat} {am : Addr}, (m, sentD tx) ∈ r → (∀ g, Tryz.prog.globalNamed m = some g → (Tryz.prog.globals[g]?).map (·.type) = some 41) → Tryz.prog.globalNamed m = some gm → W.cell? ⟨gm, 0, none⟩ = some (.iface 317 (.pointer (some am))) → MemPlace.cell am.block am.off ∈ q := by
      intro m tx gm am hmm htm hgm hcm
      obtain ⟨g2, a2, h1, h2, h3⟩ := sent_mem hq hrq hmm htm
      obtain rfl := Option.some.inj (hgm.symm.trans h1)
      rw [hcm] at h2
      simp at h2
      subst h2
      exact h3
    rw [List.nodup_append] at hnd
    have hpq : ∀ x, x ∈ p → x ∈ q → False := fun x hx hy => hnd.2.2 x (List.mem_append_right _ hx) x hy rfl
    rcases List.mem_cons.1 hm with he | hm
    · rcases List.mem_cons.1 hm' with he' | hm'
      · exact absurd ((Prod.mk.inj he).1.trans (Prod.mk.inj he').1.symm) hnn
      · intro e
        subst e
        exact hpq _ (head he ht hg hc) (tail hm' ht' hg' hc')
    · rcases List.mem_cons.1 hm' with he' | hm'
      · intro e
        subst e
        exact hpq _ (head he' ht' hg' hc') (tail hm ht hg hc)
      · exact sent_ne hnn hq hnd.2.1 hrq hm hm' ht ht' g g' a a' hg hg' hc hc'
end
def errA (W : World) (k : Nat) : Addr := match W.cell? ⟨errG k, 0, none⟩ with
  | some (.iface _ (.pointer (some a))) => a
  | _ => default
theorem envE_of {W : World} {l : List (String × DataW Unit)} (h : laidMet Tryz.prog l W) (ks : List Nat) (nm : Nat → String) (tx : Nat → List UInt8)
    (hm : ∀ k ∈ ks, (nm k, sentD (tx k)) ∈ l) (hg : ∀ k ∈ ks, Tryz.prog.globalNamed (nm k) = some (errG k)) (ht : ∀ k ∈ ks, (Tryz.prog.globals[errG k]?).map (·.type) = some 41)
    (hne : ∀ j ∈ ks, ∀ k ∈ ks, j ≠ k → nm j ≠ nm k) : EnvE ks (errA W) W := by
  obtain ⟨ps, hv, hnd, hrows⟩ := h
  have htt : ∀ k ∈ ks, ∀ g, Tryz.prog.globalNamed (nm k) = some g → (Tryz.prog.globals[g]?).map (·.type) = some 41 := fun k hk g h => by
    obtain rfl := Option.some.inj ((hg k hk).symm.trans h)
    exact ht k hk
  have cell : ∀ k ∈ ks, W.cell? ⟨errG k, 0, none⟩ = some (.iface 317 (.pointer (some (errA W k)))) ∧ MemPlace.cell (errA W k).block (errA W k).off ∈ ps := fun k hk => by
    obtain ⟨g, a, h1, h2, h3⟩ := sent_mem hv hrows (hm k hk) (htt k hk)
    obtain rfl := Option.some.inj ((hg k hk).symm.trans h1)
    have e : errA W k = a := by unfold errA; rw [h2]
    rw [e]
    exact ⟨h2, h3⟩
  refine ⟨fun k hk => (cell k hk).1, fun k hk => (hrows _ _ (cell k hk).2).1, fun j hj k hk e => ?_⟩
  rcases Nat.decEq j k with hjk | hjk
  · exact absurd e (sent_ne (hne j hj k hk hjk) hv hnd hrows (hm j hj) (hm k hk) (htt j hj) (htt k hk) _ _ _ _ (hg j hj) (hg k hk) (cell j hj).1 (cell k hk).1)
  · exact hjk
theorem Tryz.et : Tryz.prog.globalNamed "errors.errorType" = some 10 := by kernel_rfl
theorem Tryz.rt : (Tryz.prog.cutTypes.find? (·.1 == "internal/reflectlite.rtype")).map (·.2) = some 257 := by kernel_rfl
theorem Tryz.oneRow : ((List.range 353).filter fun t => Tryz.prog.rowNamed t [101, 114, 114, 111, 114]) = [41] := by kernel_rfl
theorem Tryz.typesSize : Tryz.prog.types.size = 353 := by kernel_rfl
theorem handle_of {W : World} {hs : List (String × DataW Unit)} (h : handlesMet Tryz.prog hs W)
    (hm : ("errors.errorType", (.iface "internal/reflectlite.rtype" (.agg [.ptr (.lit (.string [101, 114, 114, 111, 114]))]) : DataW Unit)) ∈ hs) :
    W.cell? ⟨10, 0, none⟩ = some (.iface 257 (.agg #[.pointer (some ⟨19, 41, none⟩)])) := by
  obtain ⟨name, u, ty, e1, e2, e3, e4, e5⟩ := h _ hm
  have en : name = [101, 114, 114, 111, 114] := (Option.some.inj e1).symm
  subst en
  obtain rfl := Option.some.inj (Tryz.rt.symm.trans e2)
  have hmm : ty ∈ (List.range 353).filter fun t => Tryz.prog.rowNamed t [101, 114, 114, 111, 114] := List.mem_filter.2 ⟨List.mem_range.2 (by rw [← Tryz.typesSize]; exact e3), e4⟩
  rw [Tryz.oneRow] at hmm
  obtain rfl := List.mem_singleton.1 hmm
  have hh : typeHandle Tryz.prog 41 = .pointer (some ⟨19, 41, none⟩) := by kernel_rfl
  rw [hh] at e5
  simpa using World.var?_cell Tryz.et e5 0
end Go.Proofs.Pw

namespace Go.Proofs.Pw
open Go.RowKit Go.ChangeShapes
theorem tab_mem {W : World} {n : String} {k : IntKind} {zs : List Int} {g : Nat} {t e : TypeId} {m : Nat}
    (hg : Tryz.prog.globalNamed n = some g) (hty : (Tryz.prog.globals[g]?).map (·.type) = some t) (ht : Tryz.prog.underlying t = some (.array m e)) (he : Tryz.prog.underlying e = some (.int k)) (hce : Tryz.prog.cellsOf e = 1) (hct : Tryz.prog.cellsOf t = m) :
    ∀ {l : List (String × DataW Unit)} {ps : List MemPlace}, DataW.LaidVars Tryz.prog W l ps → (n, Lib.tabData k zs) ∈ l → Lib.TabIs Tryz.prog W n k zs
  | [], _, _, hm => by cases hm
  | (n0, d0) :: r, ps, h, hm => by
    obtain ⟨g', t', cs, fuel, p, q, hg', ht', hvar, hd, hq, rfl⟩ := h
    rcases List.mem_cons.1 hm with heq | hm
    · obtain ⟨rfl, rfl⟩ := Prod.mk.injEq .. ▸ heq
      obtain rfl := Option.some.inj (hg.symm.trans hg')
      obtain rfl := Option.some.inj (hty.symm.trans ht')
      unfold Lib.TabIs
      rw [hvar, ← Lib.cells_of_tab ht he hce hct hd]
    · exact tab_mem hg hty ht he hce hct hq hm
def errNm : Nat → String
  | 1 => "pewholder/api.ErrText" | 2 => "pewholder/api.ErrBound" | 3 => "pewholder/api.ErrShape" | 4 => "pewholder/api.ErrMajor" | 5 => "pewholder/api.ErrNone"
  | 6 => "pewholder/api.ErrExist" | 7 => "pewholder/api.ErrFull" | 8 => "pewholder/api.ErrOrder" | 9 => "pewholder/api.ErrClash" | _ => "pewholder/api.ErrSum"
def errTx : Nat → List UInt8
  | 1 => [112, 101, 119, 104, 111, 108, 100, 101, 114, 58, 32, 116, 101, 120, 116]
  | 2 => [112, 101, 119, 104, 111, 108, 100, 101, 114, 58, 32, 98, 111, 117, 110, 100]
  | 3 => [112, 101, 119, 104, 111, 108, 100, 101, 114, 58, 32, 115, 104, 97, 112, 101]
  | 4 => [112, 101, 119, 104, 111, 108, 100, 101, 114, 58, 32, 109, 97, 106, 111, 114]
  | 5 => [112, 101, 119, 104, 111, 108, 100, 101, 114, 58, 32, 110, 111, 110, 101]
  | 6 => [112, 101, 119, 104, 111, 108, 100, 101, 114, 58, 32, 101, 120, 105, 115, 116]
  | 7 => [112, 101, 119, 104, 111, 108, 100, 101, 114, 58, 32, 102, 117, 108, 108]
  | 8 => [112, 101, 119, 104, 111, 108, 100, 101, 114, 58, 32, 111, 114, 100, 101, 114]
  | 9 => [112, 101, 119, 104, 111, 108, 100, 101, 114, 58, 32, 99, 108, 97, 115, 104]
  | _ => [112, 101, 119, 104, 111, 108, 100, 101, 114, 58, 32, 115, 117, 109]
def rangeTx : List UInt8 := [118, 97, 108, 117, 101, 32, 111, 117, 116, 32, 111, 102, 32, 114, 97, 110, 103, 101]
theorem maxLenEnv {W : World} (h : W.ShapedOpen Tryz.prog) : EnvM W := by
  obtain ⟨m, hm⟩ := Tryz.laysM143.s1_3 W h
  exact ⟨m, hm⟩
theorem envP_of {W : World} {l : List (String × DataW Unit)} (h : laidMet Tryz.prog l W) (hsh : W.ShapedOpen Tryz.prog) (ks : List Nat) (hks : 1 ∈ ks ∧ 2 ∈ ks)
    (hm : ∀ k ∈ ks, (errNm k, sentD (errTx k)) ∈ l) (hg : ∀ k ∈ ks, Tryz.prog.globalNamed (errNm k) = some (errG k)) (ht : ∀ k ∈ ks, (Tryz.prog.globals[errG k]?).map (·.type) = some 41)
    (hne : ∀ j ∈ ks, ∀ k ∈ ks, j ≠ k → errNm j ≠ errNm k) (hr : ("strconv.ErrRange", sentD rangeTx) ∈ l) (hp : ("internal/strconv.uint64pow10", Lib.tabData .u64 Lib.pow10Tab) ∈ l) : EnvP ks (errA W) W := by
  refine { m := maxLenEnv hsh, errs := envE_of h ks errNm errTx hm hg ht hne, has := hks, range := ?_, pow10 := ?_ }
  · obtain ⟨ps, hv, hnd, hrows⟩ := h
    obtain ⟨g, a, h1, h2, _⟩ := sent_mem hv hrows hr (fun g hg => by
      obtain rfl := Option.some.inj ((show Tryz.prog.globalNamed "strconv.ErrRange" = some 14 by kernel_rfl).symm.trans hg)
      kernel_rfl)
    obtain rfl := Option.some.inj ((show Tryz.prog.globalNamed "strconv.ErrRange" = some 14 by kernel_rfl).symm.trans h1)
    exact ⟨_, _, h2⟩
  · obtain ⟨ps, hv, _, _⟩ := h
    exact tab_mem (g := 11) (by kernel_rfl) (by kernel_rfl) (Tryz.underlying274) (Tryz.underlying128) (by kernel_rfl) (by kernel_rfl) hv hp
theorem strsAt_open {w : World} {a : Addr} {len cap : Nat} {ss : List ByteArray} (hl : len ≤ cap) (hm : cap ≤ maxLen) (hlen : len ≤ ss.length) (hc : ∀ i, i < ss.length → w.cell? (a.add i) = some (.string (ss.getD i ByteArray.empty))) :
    StrsAt w (.slice (some a) len cap) (lstF len fun j => ss.getD j ByteArray.empty) := by
  refine ⟨some a, len, cap, _, rfl, rfl, hl, by unfold maxLen at hm; exact hm, fun j hj => ?_⟩
  have h0 := hc 0 (by omega)
  have hs : a.spot = none := by
    have e : a.add 0 = a := rfl
    rw [e] at h0
    unfold World.cell? at h0
    split at h0
    · split at h0
      · cases h0
      · rename_i h
        simpa using h
    · cases h0
  obtain ⟨b, o, s⟩ := a
  obtain rfl : s = none := hs
  refine ⟨b, o, rfl, ?_⟩
  have := hc j (by omega)
  have e : (⟨b, o, none⟩ : Addr).add j = ⟨b, o + j, none⟩ := by unfold Addr.add; split <;> simp_all
  rw [e] at this
  exact this
end Go.Proofs.Pw

namespace Go.Proofs.Pw
open Go.RowKit Go.ChangeShapes Go.WideShapes
theorem spot_none {w : World} {a : Addr} {v : Value} (h : w.cell? a = some v) : a.spot = none := by
  unfold World.cell? at h
  split at h
  · split at h
    · cases h
    · rename_i hs
      simpa using hs
  · cases h
theorem add_off (b o i : Nat) : (⟨b, o, none⟩ : Addr).add i = ⟨b, o + i, none⟩ := by unfold Addr.add; split <;> simp_all
set_option maxRecDepth 100000 in
theorem mdTrod {H : Type} {enc : TypeId × Value → H} {w : World} {base : Nat} {spare : Nat → Bool} {held : Bool} {fuel : Nat} {cs : List Value} {x : DataW H × List MemPlace}
    (h : DataW.trod enc Tryz.prog w base spare held fuel 29 cs = some x) : ∃ p v : ByteArray, cs = [.string p, .string v] := by
  obtain ⟨xs, n, _, _, hl, hx, hf⟩ := DataW.trod_struct Tryz.underlying29 h
  have hc : Tryz.prog.cellsOf 29 = 2 := by kernel_rfl
  have hs : Tryz.prog.cellsOf 9 = 1 := by kernel_rfl
  have h0 : DataW.trod enc Tryz.prog w base spare held n 9 ((cs.drop 0).take (Tryz.prog.cellsOf 9)) = xs[0]? := hf 0 _ rfl
  have h1 : DataW.trod enc Tryz.prog w base spare held n 9 ((cs.drop 1).take (Tryz.prog.cellsOf 9)) = xs[1]? := hf 1 _ rfl
  match cs, hl.trans hc with
  | [c0, c1], _ =>
    rw [hs] at h0 h1
    match xs, hx with
    | [x0, x1], _ =>
      obtain ⟨p, e0, _⟩ := DataW.trod_string Tryz.underlying9 h0
      obtain ⟨v, e1, _⟩ := DataW.trod_string Tryz.underlying9 h1
      simp at e0 e1
      exact ⟨p, v, by rw [e0, e1]⟩
set_option maxRecDepth 100000 in
theorem mdOpen {H : Type} {enc : TypeId × Value → H} {W : World} {base : Nat} {v : Value} {d : DataW H} {p : List MemPlace} (hv : Value.okWide Tryz.prog W .any base 29 v)
    (h : DataW.Trod enc Tryz.prog W 0 (fun _ => true) true 29 v d p) : ∃ p v' : ByteArray, v = .agg #[.string p, .string v'] := by
  obtain ⟨cs, rfl, _⟩ := okWide_struct Tryz.underlying29 hv
  obtain ⟨fuel, hf⟩ := h
  obtain ⟨p, v', e⟩ := mdTrod hf
  obtain ⟨l⟩ := cs
  simp [Value.cells] at e
  exact ⟨p, v', by rw [e]⟩
set_option maxRecDepth 100000 in
theorem modsCells {H : Type} {enc : TypeId × Value → H} {W : World} {fuel : Nat} {cs : List Value} {x : DataW H × List MemPlace}
    (h : DataW.trod enc Tryz.prog W 0 (fun _ => true) true fuel 23 cs = some x) : ∃ a n cap l, cs = [.slice a n cap] ∧ ModsAt W (.slice a n cap) l := by
  rcases Go.Deep.open_slice Tryz.underlying23 h with ⟨rfl, _⟩ | ⟨a, len, cap, m, n, D, Pl, rfl, _, hl, hm, hmm, _, hi⟩
  · exact ⟨none, 0, 0, [], rfl, ModsAt.nil W⟩
  · have hc : Tryz.prog.cellsOf 29 = 2 := by kernel_rfl
    rw [if_pos rfl] at hmm
    have key : ∀ i, i < len → ∃ p v : ByteArray, W.cell? (a.add (i * 2)) = some (.string p) ∧ W.cell? (a.add (i * 2 + 1)) = some (.string v) := fun i h => by
      obtain ⟨cs', h1, h2⟩ := hi i (by omega)
      rw [hc] at h1
      obtain ⟨p, v, rfl⟩ := mdTrod h2
      obtain ⟨_, _, hat⟩ := World.cells?_some h1
      have a0 := hat 0 (by decide)
      have a1 := hat 1 (by decide)
      rw [Go.Deep.add_add] at a0 a1
      exact ⟨p, v, a0, a1⟩
    classical
    let P : Nat → ByteArray := fun i => if h : i < len then (key i h).choose else ByteArray.empty
    let V : Nat → ByteArray := fun i => if h : i < len then (key i h).choose_spec.choose else ByteArray.empty
    refine ⟨some a, len, cap, mdF len P V, rfl, some a, len, cap, P, V, rfl, rfl, hl, by unfold maxLen at hm; exact hm, fun j hj => ?_⟩
    have h0 := (key j hj).choose_spec.choose_spec
    have hs : a.spot = none := by
      have := (key 0 (by omega)).choose_spec.choose_spec.1
      exact spot_none (a := a) this
    obtain ⟨b, o, s⟩ := a
    obtain rfl : s = none := hs
    refine ⟨b, o, rfl, ?_, ?_⟩
    · refine (congrArg W.cell? (add_off b o (j * 2)).symm).trans (h0.1.trans ?_)
      show _ = some (Value.string (if h : j < len then (key j h).choose else ByteArray.empty))
      rw [dif_pos hj]
    · refine (congrArg W.cell? (add_off b o (j * 2 + 1)).symm).trans (h0.2.trans ?_)
      show _ = some (Value.string (if h : j < len then (key j h).choose_spec.choose else ByteArray.empty))
      rw [dif_pos hj]
end Go.Proofs.Pw
