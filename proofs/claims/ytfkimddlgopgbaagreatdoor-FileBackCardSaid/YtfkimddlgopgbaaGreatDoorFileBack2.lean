/- FileBack: its walk, of what is not too long. -/
import Derived.Test.YtfkimddlgopgbaaGreatDoorFileBack
namespace Go.Proofs.Pw
open Go.RowKit
open Go.Lib hiding intOf

theorem short_ofB {l : List Md} (h : l.length ≤ 26 ∧ ∀ m ∈ l, m.1.length ≤ 90 ∧ m.2.length ≤ 60) : Short l := ⟨by omega, fun m hm => by have := h.2 m hm; omega⟩



set_option maxHeartbeats 8000000 in
set_option maxRecDepth 100000 in
theorem fileBack_main (ks : List Nat) (A : Nat → Addr) (hks : FileKs ks) (p mp mv : ByteArray) (rv xv : Value) (R X : List Md) (w : World) (hE : EnvP ks A w) (hr : ModsAt w rv R) (hx : ModsAt w xv X)
    (h1 : p.size ≤ 90) (h2 : longMods R 25 = false) (h3 : longMods X 25 = false) (h4 : mp.size ≤ 90) (h5 : mv.size ≤ 60) :
    Calls Tryz.prog 3 #[.agg #[.string p, rv, xv], .agg #[.string mp, .string mv]] w fun e w' => e = .returned (.bool true) ∧ Below w.heap.size w w' := by
  have HR := longMods_no h2
  have HX := longMods_no h3
  have hsr : Short R := short_ofB ⟨by omega, fun m hm => by have := HR.2 m hm; omega⟩
  have hsx : Short X := short_ofB ⟨by omega, fun m hm => by have := HX.2 m hm; omega⟩
  have how := fun W (hb : Below w.heap.size w W) => ownFile_calls p rv xv R X W (hr.below hb) (hx.below hb) hsr.1 hsx.1
  have hck := fun v1 v2 W hW m1 m2 => fileCheck_calls ks A hks p v1 v2 R X W hW m1 m2 (by omega) hsr hsx
  have htx := fun v1 v2 W hW m1 m2 => fileText_calls ks A hks p v1 v2 R X W hW m1 m2 (by omega) hsr hsx
  have hst := fun v1 v2 W hW m1 m2 => fileSet_calls ks A hks p mp mv v1 v2 R X W hW m1 m2 (by omega) hsr hsx (by have := hsr.1; have := HR.1; omega) (by omega) (by omega)
  have hxT := fun (h0 : (fileErr ⟨p.data.toList, R, X⟩).1 = 0) => fileTxt_le (f := ⟨p.data.toList, R, X⟩) h0 (by rw [size_eq] at h1; exact h1) HR.2 HX.2
  have hE0 := Lib.hid (fun W (hb : Below w.heap.size w W) => hE.below hb)
  replace how := Lib.hid how
  replace hck := Lib.hid hck
  replace htx := Lib.hid htx
  replace hst := Lib.hid hst
  replace hxT := Lib.hid hxT
  replace HR := Lib.hid HR
  replace HX := Lib.hid HX
  replace hsr := Lib.hid hsr
  replace hsx := Lib.hid hsx
  obtain ⟨a1, n1, c1, _, _, rfl, _⟩ := id hr
  obtain ⟨a3, n3, c3, _, _, rfl, _⟩ := id hx
  have hb1 := below_alloc w (.cells #[.string p, .slice a1 n1 c1, .slice a3 n3 c3] 24)
  have hb2 := below_alloc (w.alloc (.cells #[.string p, .slice a1 n1 c1, .slice a3 n3 c3] 24)) (.cells #[.string mp, .string mv] 26)
  have hB := below_step hb1 hb2
  have hz := (box3f_alloc w (.string p) (.slice a1 n1 c1) (.slice a3 n3 c3) 24).below hb2
  have cm0 : ((w.alloc (.cells #[.string p, .slice a1 n1 c1, .slice a3 n3 c3] 24)).alloc (.cells #[.string mp, .string mv] 26)).cell? ⟨(w.alloc (.cells #[.string p, .slice a1 n1 c1, .slice a3 n3 c3] 24)).heap.size, 0, none⟩ = some (.string mp) := by simp
  have cm1 : ((w.alloc (.cells #[.string p, .slice a1 n1 c1, .slice a3 n3 c3] 24)).alloc (.cells #[.string mp, .string mv] 26)).cell? ⟨(w.alloc (.cells #[.string p, .slice a1 n1 c1, .slice a3 n3 c3] 24)).heap.size, 1, none⟩ = some (.string mv) := by simp
  simp only [World.size_alloc] at cm0 cm1
  have hfd := filed_calls ks A hks _ (hE.below hB)
  have hl1 : ∀ W, ModsAt W (.slice a1 n1 c1) R → Calls Tryz.prog 9 #[.slice a1 n1 c1, .int .i64 25] W fun e w' => e = .returned (.int .i64 (longI R 25)) ∧ Below W.heap.size W w' := fun W h => (longMods_calls _ R 25 W h).mono fun _ _ ⟨h1, h2⟩ => ⟨h1, h2 ▸ Below.refl _ _⟩
  have hl2 : ∀ W, ModsAt W (.slice a3 n3 c3) X → Calls Tryz.prog 9 #[.slice a3 n3 c3, .int .i64 25] W fun e w' => e = .returned (.int .i64 (longI X 25)) ∧ Below W.heap.size W w' := fun W h => (longMods_calls _ X 25 W h).mono fun _ _ ⟨h1, h2⟩ => ⟨h1, h2 ▸ Below.refl _ _⟩
  replace hfd := Lib.hid hfd
  clear hb1 hb2
  obtain ⟨z0, z1, z2, zf⟩ := id hz
  go_enter Tryz.func3, Tryz.ntmps3
  go_wp2_with fail
  refine hfd.out.mono ?_
  generalize hw2 : (w.alloc (.cells #[.string p, .slice a1 n1 c1, .slice a3 n3 c3] 24)).alloc (.cells #[.string mp, .string mv] 26) = w2 at *
  clear hw2 hfd
  rintro e w3 ⟨rfl, hb⟩
  replace hz := hz.below hb
  replace cm0 := Below.cell_some hb cm0
  replace cm1 := Below.cell_some hb cm1
  replace hB := below_step hB hb
  clear hb z0 z1 z2 zf
  obtain ⟨z0, z1, z2, zf⟩ := id hz
  have h1' : ¬ (90 : Int) < (p.size : Int) := by omega
  have h4' : ¬ (90 : Int) < (mp.size : Int) := by omega
  have h5' : ¬ (60 : Int) < (mv.size : Int) := by omega
  rw [longI_no h2] at hl1
  rw [longI_no h3] at hl2
  replace hl1 := Lib.hid hl1
  replace hl2 := Lib.hid hl2
  clear h2 h3
  go_wp2_with fail
  have q1 : decide ((90 : Int) < (p.size : Int)) = false := decide_eq_false (by omega)
  try have q2 : decide ((90 : Int) < (mp.size : Int)) = false := decide_eq_false (by omega)
  try have q3 : decide ((60 : Int) < (mv.size : Int)) = false := decide_eq_false (by omega)
  have kR := Lib.hid (fun d os => hr.below (below_step hB (below_patch w3 d os)))
  have kX := Lib.hid (fun d os => hx.below (below_step hB (below_patch w3 d os)))
  have kqz0 := fun d os => cell_patch (d := d) (os := os) z0
  have kqz1 := fun d os => cell_patch (d := d) (os := os) z1
  have kqz2 := fun d os => cell_patch (d := d) (os := os) z2
  have kqcm0 := fun d os => cell_patch (d := d) (os := os) cm0
  have kqcm1 := fun d os => cell_patch (d := d) (os := os) cm1
  refine wp_region_quiet_patch (by kernel_rfl) (by kernel_rfl) ?_
  repeat (go_big_quiet_step (first | (go_at_call_of 9 (Value.slice a1 n1 c1); exact Calls.patch_of (hl1.out _ (kR.out _ _))) | (go_at_call_of 9 (Value.slice a3 n3 c3); exact Calls.patch_of (hl2.out _ (kX.out _ _)))))
  refine wpQuiet_nil ?_
  intro _ hw'
  obtain ⟨⟨dq, osq⟩, hw''⟩ := hw'
  subst hw''
  clear kqz0 kqz1 kqz2 kqcm0 kqcm1
  have hb := below_patch w3 dq osq
  replace hz := hz.below hb
  replace cm0 := Below.cell_some hb cm0
  replace cm1 := Below.cell_some hb cm1
  replace hB := below_step hB hb
  clear hb
  generalize patch w3 dq osq = w4 at hz cm0 cm1 hB ⊢
  clear z0 z1 z2 zf hl1 hl2 h1' h4' h5' kR kX q1 q2 q3
  obtain ⟨z0, z1, z2, zf⟩ := id hz
  go_wp2_with fail
  refine (how.out _ hB).mono ?_
  rintro e w5 ⟨⟨v1, v2, rfl, hM1, hM2⟩, hb⟩
  obtain ⟨a5, n5, c5, _, _, rfl, _⟩ := id hM1
  obtain ⟨a6, n6, c6, _, _, rfl, _⟩ := id hM2
  have hbO := below_alloc w5 (.cells #[.string p, .slice a5 n5 c5, .slice a6 n6 c6] 24)
  have ho := box3f_alloc w5 (.string p) (.slice a5 n5 c5) (.slice a6 n6 c6) 24
  have hs5 : w.heap.size + 1 < w5.heap.size := Nat.lt_of_lt_of_le (lt_of_cell cm0) hb.size
  replace hb := below_step hb hbO
  replace hM1 := hM1.below hbO
  replace hM2 := hM2.below hbO
  replace hz := hz.below hb
  replace cm0 := Below.cell_some hb cm0
  replace cm1 := Below.cell_some hb cm1
  replace hB := below_step hB hb
  obtain ⟨o0, o1, o2, of⟩ := id ho
  clear z0 z1 z2 zf how hb hbO
  go_wp2_with fail
  generalize w5.alloc (.cells #[.string p, .slice a5 n5 c5, .slice a6 n6 c6] 24) = w6 at *
  generalize w5.heap.size = bo at *
  refine (hck.out _ _ _ (hE0.out _ hB) hM1 hM2).mono ?_
  rintro e w7 ⟨⟨v, rfl, hv⟩, hb⟩
  replace hz := hz.below hb
  replace ho := ho.below hb
  replace cm0 := Below.cell_some hb cm0
  replace cm1 := Below.cell_some hb cm1
  replace hM1 := hM1.below hb
  replace hM2 := hM2.below hb
  replace hB := below_step hB hb
  clear o0 o1 o2 of hck hb
  obtain ⟨o0, o1, o2, of⟩ := id ho
  have ht := htx.out _ _ _ (hE0.out _ hB) hM1 hM2
  clear htx
  rcases fault_form hv with ⟨h0, rfl⟩ | ⟨h0, ty, q, rfl⟩
  · have hT8 := hxT.out h0
    obtain ⟨TX, hTX, hTX2⟩ : ∃ TX : ByteArray, TX = ⟨(fileText ⟨p.data.toList, R, X⟩).toArray⟩ ∧ TX.data.toList = fileTxt ⟨p.data.toList, R, X⟩ := ⟨_, rfl, by unfold fileText; rw [if_pos h0]⟩
    rw [← hTX] at ht
    have hrd := fun W hW => fileRead_calls ks A hks TX W hW (by rw [size_eq, hTX2]; omega)
    unfold ReadOut at hrd
    rw [hTX2, file_back h0 hT8] at hrd
    have hsm := fun r x W (h1 : ModsAt W r R) (h2 : ModsAt W x X) (hb : Below w.heap.size w W) => sameFile_calls p p r x (.slice a1 n1 c1) (.slice a3 n3 c3) R X R X W h1 h2 (hr.below hb) (hx.below hb)
    simp only [decide_true, Bool.and_self] at hsm
    have hst1 := fun W hW m1 m2 => hst.out (.slice a5 n5 c5) (.slice a6 n6 c6) W hW m1 m2
    replace ht := Lib.hid ht
    replace hrd := Lib.hid hrd
    replace hsm := Lib.hid hsm
    replace h0 := Lib.hid h0
    clear hst hv hTX hTX2 hT8 hxT
    go_wp2_with fail
    refine ht.out.mono ?_
    rintro e w8 ⟨rfl, hb⟩
    replace hz := hz.below hb
    replace ho := ho.below hb
    replace cm0 := Below.cell_some hb cm0
    replace cm1 := Below.cell_some hb cm1
    replace hM1 := hM1.below hb
    replace hM2 := hM2.below hb
    replace hB := below_step hB hb
    clear o0 o1 o2 of hb ht
    go_wp2_with fail
    refine (hrd.out _ (hE0.out _ hB)).mono ?_
    rintro e w9 ⟨⟨p', r', x', ev, rfl, hp', hr', hx', hf⟩, hb⟩
    obtain rfl : p' = p := bytes_eq.1 hp'
    have hev : ev = .nilIface := by
      rcases hf with ⟨_, _, h⟩ | ⟨h, _⟩ | ⟨h, _⟩
      · exact h
      · exact absurd rfl h
      · exact absurd rfl h
    subst hev
    obtain ⟨a7, n7, c7, _, _, rfl, _⟩ := id hr'
    obtain ⟨a8, n8, c8, _, _, rfl, _⟩ := id hx'
    have hbX := below_alloc w9 (.cells #[.string p', .slice a7 n7 c7, .slice a8 n8 c8] 24)
    have hxb := box3f_alloc w9 (.string p') (.slice a7 n7 c7) (.slice a8 n8 c8) 24
    have hs9 : bo < w9.heap.size := Nat.lt_of_lt_of_le (lt_of_cell ho.c0) hb.size
    replace hb := below_step hb hbX
    replace hr' := hr'.below hbX
    replace hx' := hx'.below hbX
    replace hz := hz.below hb
    replace ho := ho.below hb
    replace cm0 := Below.cell_some hb cm0
    replace cm1 := Below.cell_some hb cm1
    replace hM1 := hM1.below hb
    replace hM2 := hM2.below hb
    replace hB := below_step hB hb
    clear hf hp' hrd hb hbX
    obtain ⟨z0, z1, z2, zf⟩ := id hz
    obtain ⟨x0, x1, x2, xf⟩ := id hxb
    go_wp2_with fail
    generalize w9.alloc (.cells #[.string p', .slice a7 n7 c7, .slice a8 n8 c8] 24) = w10 at *
    generalize w9.heap.size = bx at *
    refine (hsm.out _ _ _ hr' hx' hB).mono ?_
    rintro e w11 ⟨rfl, hb⟩
    replace hz := hz.below hb
    replace ho := ho.below hb
    replace hxb := hxb.below hb
    replace cm0 := Below.cell_some hb cm0
    replace cm1 := Below.cell_some hb cm1
    replace hM1 := hM1.below hb
    replace hM2 := hM2.below hb
    replace hB := below_step hB hb
    clear z0 z1 z2 zf x0 x1 x2 xf hb hsm hr' hx'
    have hsR := hsr.out
    obtain ⟨o0, o1, o2, of⟩ := id ho
    by_cases h6 : (fileErr ⟨p'.data.toList, setAt R (mp.data.toList, mv.data.toList), X⟩).1 = 0
    · rw [fileSet_ok (f := ⟨p'.data.toList, R, X⟩) h0.out h6] at hst1
      have hBk := backed h0.out h6
      have hrR := right_of h6
      have hsS : Short (setAt R (mp.data.toList, mv.data.toList)) := ⟨by have := hrR.reqs; simp only at this; omega, fun m hm => by
        rcases setAt_mem hm with rfl | hm
        · rw [size_eq] at h4 h5
          exact ⟨by simp only; omega, by simp only; omega⟩
        · exact hsR.2 m hm⟩
      have hS9 : (setAt R (mp.data.toList, mv.data.toList)).length ≤ 20 := hrR.reqs
      have hR9 : R.length ≤ 20 := (right_of h0.out).reqs
      generalize setAt R (mp.data.toList, mv.data.toList) = S at *
      generalize R.filter (fun y => !hasP (mp.data.toList, mv.data.toList).1 y) = Y at *
      generalize lowAt (mp.data.toList, mv.data.toList).1 R = kk at *
      replace hst1 := Lib.hid hst1
      replace hBk := Lib.hid hBk
      replace hsS := Lib.hid hsS
      clear hrR h6
      go_wp2_with fail
      refine (hst1.out _ (hE0.out _ hB) hM1 hM2).mono ?_
      rintro e w12 ⟨⟨p2, r2, x2v, rfl, hp2, hr2, hx2⟩, hb⟩
      obtain rfl : p2 = p' := bytes_eq.1 hp2
      obtain ⟨a9, c9, rfl⟩ := modsAt_form hr2
      obtain ⟨a0, n0, c0, _, _, rfl, _⟩ := id hx2
      rw [errV_zero]
      replace hz := hz.below hb
      replace hxb := hxb.below hb
      replace cm0 := Below.cell_some hb cm0
      replace cm1 := Below.cell_some hb cm1
      replace hB := below_step hB hb
      have hsz := hb.size
      clear o0 o1 o2 of ho hM1 hM2 hb hst1 hp2
      obtain ⟨x0, x1, x2, xf⟩ := id hxb
      have hbx : w.heap.size ≤ bx := by omega
      replace hr2 := ModsAt.st_away hxb hr2 (.string p2) (.slice a9 S.length c9) (.slice a0 n0 c0)
      replace hx2 := ModsAt.st_away hxb hx2 (.string p2) (.slice a9 S.length c9) (.slice a0 n0 c0)
      replace hz := hz.sto (c := bx) (by omega) (.string p2) (.slice a9 S.length c9) (.slice a0 n0 c0)
      replace cm0 := cell_sto (c := bx) cm0 (by omega) (.string p2) (.slice a9 S.length c9) (.slice a0 n0 c0)
      replace cm1 := cell_sto (c := bx) cm1 (by omega) (.string p2) (.slice a9 S.length c9) (.slice a0 n0 c0)
      replace hB := below_sto hB hbx (.string p2) (.slice a9 S.length c9) (.slice a0 n0 c0)
      replace hxb := hxb.st (.string p2) (.slice a9 S.length c9) (.slice a0 n0 c0)
      have hfp : ∀ W, ModsAt W (.slice a9 S.length c9) S → Calls Tryz.prog 16 #[.slice a9 S.length c9, .string mp] W fun e w' => e = .returned (.int .i64 (kk : Nat)) ∧ W = w' := fun W h => by
        have h' := findPath_calls (.slice a9 S.length c9) S mp W h
        rw [show findI (fun m : Md => decide (m.1 = mp.data.toList)) S = (kk : Int) from hBk.out.at_] at h'
        exact h'
      have hfw := fun W (hb : Below w.heap.size w W) => findPath_calls (.slice a1 n1 c1) R mp W (hr.below hb)
      obtain ⟨wz, hwz⟩ : ∃ wz : Int, findI (fun m : Md => decide (m.1 = mp.data.toList)) R = wz := ⟨_, rfl⟩
      have hmore := hBk.out.more
      have hsame := hBk.out.same
      have hn1 : n1 = R.length := by
        obtain ⟨_, _, e⟩ := modsAt_form hr
        injection e
      simp only [hwz] at hmore hsame hfw
      unfold st3 at hr2 hx2 hz cm0 cm1 hB hxb
      have hk0 : ¬ ((kk : Int) < 0) := by omega
      have HN1 := Lib.hid hn1
      replace hfp := Lib.hid hfp
      replace hfw := Lib.hid hfw
      replace hmore := Lib.hid hmore
      replace hsame := Lib.hid hsame
      clear hn1 hwz
      go_wp2_with fail
      generalize ((w12.setCell ⟨bx, 0, none⟩ (.string p2)).setCell ⟨bx, 1, none⟩ (.slice a9 S.length c9)).setCell ⟨bx, 2, none⟩ (.slice a0 n0 c0) = w13 at *
      clear x0 x1 x2 xf
      obtain ⟨x0, x1, x2, xf⟩ := id hxb
      obtain ⟨z0, z1, z2, zf⟩ := id hz
      refine (hfp.out _ hr2).mono ?_
      rintro e w' ⟨rfl, rfl⟩
      go_wp2_with fail
      refine (hfw.out _ hB).mono ?_
      rintro e w' ⟨rfl, rfl⟩
      obtain ⟨b2, o2, c2, e2, hkS, d1, d2⟩ := hr2.cell hBk.out.get
      injection e2 with e3 e4 e5
      subst e3 e5
      have hkS2 : (kk : Int) < (S.length : Int) := by omega
      have hg := Tryz.md_guard
      have hq := md_neq
      have hd := decide_eq_true (p := mp = mp ∧ mv = mv) ⟨rfl, rfl⟩
      have hdr := fun W hW m1 m2 => fileDrop_calls ks A hks p2 mp (.slice (some ⟨b2, o2, none⟩) S.length c9) (.slice a0 n0 c0) S X W hW m1 m2 (by omega) hsS.out hsx.out (by omega)
      rw [show fileDrop ⟨p2.data.toList, S, X⟩ mp.data.toList = (⟨p2.data.toList, Y, X⟩, 0) from hBk.out.drop] at hdr
      have hless := hBk.out.less
      have hwr2 := wrap_nat Y.length (by omega)
      rw [show (Y.length : Int) = (S.length : Int) - 1 by omega] at hwr2
      have hne3 : (((Y.length : Nat) : Int) != ((S.length : Nat) : Int) - 1) = false := by rw [show ((Y.length : Nat) : Int) = (S.length : Int) - 1 by omega]; simp
      have hn1 := HN1.out
      have hmore := hmore.out
      have hsame := hsame.out
      replace hdr := Lib.hid hdr
      clear hless e4 hfp hfw hkS
      by_cases hw0 : wz < 0
      · have hSl := hmore hw0
        have hw1 : ¬ (0 ≤ wz) := by omega
        have hwr := wrap_nat S.length (by omega)
        rw [show (S.length : Int) = (n1 : Int) + 1 by omega] at hwr
        have hne : (((S.length : Nat) : Int) != (n1 : Int) + 1) = false := by rw [show ((S.length : Nat) : Int) = (n1 : Int) + 1 by omega]; simp
        clear hmore hsame hSl hn1
        go_wp2_with fail
        have q1 : decide ((0 : Int) ≤ wz) = false := decide_eq_false (by omega)
        have kqz1 := fun d os => cell_patch (d := d) (os := os) z1
        have kqcm0 := fun d os => cell_patch (d := d) (os := os) cm0
        have kqcm1 := fun d os => cell_patch (d := d) (os := os) cm1
        have kqx1 := fun d os => cell_patch (d := d) (os := os) x1
        have kqd1 := fun d os => cell_patch (d := d) (os := os) d1
        have kqd2 := fun d os => cell_patch (d := d) (os := os) d2
        refine wp_region_quiet_patch (by kernel_rfl) (by kernel_rfl) ?_
        repeat (go_big_quiet_step (fail))
        refine wpQuiet_nil ?_
        intro _ hw'
        obtain ⟨⟨dq, osq⟩, hw''⟩ := hw'
        subst hw''
        clear kqz1 kqcm0 kqcm1 kqx1 kqd1 kqd2
        have hb := below_patch w13 dq osq
        replace hz := hz.below hb
        replace hxb := hxb.below hb
        replace cm0 := Below.cell_some hb cm0
        replace cm1 := Below.cell_some hb cm1
        replace hr2 := hr2.below hb
        replace hx2 := hx2.below hb
        replace hB := below_step hB hb
        clear hb
        generalize patch w13 dq osq = w14 at hz hxb cm0 cm1 hr2 hx2 hB ⊢
        clear z0 z1 z2 zf x0 x1 x2 xf d1 d2 hd
        obtain ⟨x0, x1, x2, xf⟩ := id hxb
        go_wp2_with fail
        refine (hdr.out _ (hE0.out _ hB) hr2 hx2).mono ?_
        rintro e w15 ⟨⟨p3, r3, x3v, rfl, hp3, hr3, hx3⟩, hb⟩
        obtain rfl : p3 = p2 := bytes_eq.1 hp3
        obtain ⟨aY, cY, rfl⟩ := modsAt_form hr3
        obtain ⟨aZ, nZ, cZ, _, _, rfl, _⟩ := id hx3
        simp only
        rw [errV_zero]
        have hbY := below_alloc w15 (.cells #[.string p3, .slice aY Y.length cY, .slice aZ nZ cZ] 24)
        have hyb := box3f_alloc w15 (.string p3) (.slice aY Y.length cY) (.slice aZ nZ cZ) 24
        replace hb := below_step hb hbY
        replace hz := hz.below hb
        replace hxb := hxb.below hb
        replace cm0 := Below.cell_some hb cm0
        replace cm1 := Below.cell_some hb cm1
        replace hr3 := hr3.below hbY
        replace hB := below_step hB hb
        clear x0 x1 x2 xf hb hbY hdr hp3 hx3 hr2 hx2
        obtain ⟨fy, hfy⟩ : ∃ fy : Int, findI (fun m : Md => decide (m.1 = mp.data.toList)) Y = fy := ⟨_, rfl⟩
        have hfy0 : fy < 0 := by have := hBk.out.none; simp only at this; rw [hfy] at this; exact this
        have hfy1 : ¬ (0 ≤ fy) := by omega
        have hfy2 : decide ((0 : Int) ≤ fy) = false := decide_eq_false (by omega)
        have hfn := fun W h => findPath_calls (.slice aY Y.length cY) Y mp W h
        rw [hfy] at hfn
        replace hfn := Lib.hid hfn
        obtain ⟨z0, z1, z2, zf⟩ := id hz
        obtain ⟨x0, x1, x2, xf⟩ := id hxb
        obtain ⟨y0, y1, y2, yf⟩ := id hyb
        go_wp2_with fail
        generalize w15.alloc (.cells #[.string p3, .slice aY Y.length cY, .slice aZ nZ cZ] 24) = w16 at *
        generalize w15.heap.size = bY at *
        refine (hfn.out _ hr3).mono ?_
        rintro e w' ⟨rfl, rfl⟩
        go_wp2_with fail
        clear hfn x0 x1 x2 xf y0 y1 y2 yf z0 z1 z2 zf hxb hwr2 hfy hfy0 hfy1 hfy2 hne3
        go_loopw [13] (fun i wr => ∃ k : Nat, k ≤ n1 ∧ i = .int .i64 k ∧ Below w16.heap.size w16 wr) (fun i _ => n1 - (intOf i).toNat)
        case atStart => exact ⟨0, Nat.zero_le _, rfl, Below.refl _ _⟩
        case round =>
          obtain ⟨k, hk, rfl, hB7⟩ := hrel
          have hBw := below_step hB hB7
          obtain ⟨z0, z1, z2, zf⟩ := id (hz.below hB7)
          obtain ⟨y0, y1, y2, yf⟩ := id (hyb.below hB7)
          have cm8 := Below.cell_some hB7 cm0
          have hr4 := hr3.below hB7
          by_cases hlt : k < n1
          · obtain ⟨P, V, hPV⟩ : ∃ P V : ByteArray, R[k]? = some (P.data.toList, V.data.toList) := by
              obtain ⟨_, _, P, V, _, hl, _⟩ := hr.cells
              exact ⟨P k, V k, by rw [hl]; exact mdF_get _ P V k (by have := HN1.out; omega)⟩
            obtain ⟨b3, o3, c3', e3, _, d1, d2⟩ := (hr.below hBw).cell hPV
            injection e3 with e4 e5 e6
            subst e4 e6
            clear e5
            have hst := hBk.out.stay _ (List.mem_of_getElem? hPV)
            simp only at hst
            have hfi := fun W h => findPath_calls (.slice aY Y.length cY) Y P W h
            have hkn : (k : Int) < (n1 : Int) := by omega
            obtain ⟨at', hat⟩ : ∃ at' : Int, findI (fun m : Md => decide (m.1 = P.data.toList)) Y = at' := ⟨_, rfl⟩
            rw [hat] at hst hfi
            have hwk := wrap_nat (k + 1) (by omega)
            by_cases h7 : at' < 0
            · have hpm := hst.1.1 h7
              have hpm2 : P = mp := bytes_eq.1 hpm
              have hpm3 : (P.toList == mp.toList) = true := by rw [hpm2]; simp
              have hpm4 : P.toList = mp.toList := by rw [hpm2]
              have h8 : ¬ (0 ≤ at') := by omega
              replace hfi := Lib.hid hfi
              clear hst hpm hpm2 hat hPV
              have kY := Lib.hid (fun d os => hr4.below (below_patch wr d os))
              go_wp2_with fail
              have kqy1 := fun d os => cell_patch (d := d) (os := os) y1
              have kqz1 := fun d os => cell_patch (d := d) (os := os) z1
              have kqd1 := fun d os => cell_patch (d := d) (os := os) d1
              refine wp_region_quiet_patch (by kernel_rfl) (by kernel_rfl) ?_
              repeat (go_big_quiet_step ((go_at_call_of 16 (Value.slice aY Y.length cY); exact Calls.patch_of ((hfi.out _ (kY.out _ _)).mono (fun _ _ h => ⟨h.1, h.2 ▸ Below.refl _ _⟩)))))
              refine wpQuiet_nil ?_
              intro _ hw'
              obtain ⟨⟨dq, osq⟩, hw''⟩ := hw'
              subst hw''
              clear kqy1 kqz1 kqd1
              have hb := below_patch wr dq osq
              replace hB7 := below_step hB7 hb
              replace y1 := Below.cell_some hb y1
              replace z1 := Below.cell_some hb z1
              replace d1 := Below.cell_some hb d1
              replace cm8 := Below.cell_some hb cm8
              clear hb
              generalize patch wr dq osq = wr1 at hB7 y1 z1 d1 cm8 ⊢
              go_wp2_with fail
              have kqz1 := fun d os => cell_patch (d := d) (os := os) z1
              have kqd1 := fun d os => cell_patch (d := d) (os := os) d1
              have kqcm8 := fun d os => cell_patch (d := d) (os := os) cm8
              refine wp_region_quiet_patch (by kernel_rfl) (by kernel_rfl) ?_
              repeat (go_big_quiet_step (fail))
              refine wpQuiet_nil ?_
              intro _ hw'
              obtain ⟨⟨dq, osq⟩, hw''⟩ := hw'
              subst hw''
              clear kqz1 kqd1 kqcm8
              have hb := below_patch wr1 dq osq
              replace hB7 := below_step hB7 hb
              replace y1 := Below.cell_some hb y1
              replace z1 := Below.cell_some hb z1
              replace d1 := Below.cell_some hb d1
              replace cm8 := Below.cell_some hb cm8
              clear hb
              generalize patch wr1 dq osq = wr2 at hB7 y1 z1 d1 cm8 ⊢
              go_wp2_with fail
              go_roundw
              case rel => exact ⟨k + 1, by omega, by go_num, hB7⟩
              case measure => simp [intOf]; omega
            · obtain ⟨j, rfl⟩ : ∃ j : Nat, at' = j := ⟨at'.toNat, by omega⟩
              have hpm : P.data.toList ≠ mp.data.toList := fun e => h7 (hst.1.2 e)
              have hpm3 : (P.toList == mp.toList) = false := by rw [toList_data, toList_data]; exact beq_eq_false_iff_ne.2 hpm
              have hpm4 : P.toList ≠ mp.toList := by rw [toList_data, toList_data]; exact hpm
              have h8 : (0 : Int) ≤ (j : Int) := by omega
              obtain ⟨b4, o4, c4, e7, hj, d3, d4⟩ := hr4.cell (hst.2 j rfl)
              injection e7 with e8 e9 e10
              subst e8 e10
              clear e9
              have hjn : (j : Int) < (Y.length : Int) := by omega
              have hd := decide_eq_true (p := P = P ∧ V = V) ⟨rfl, rfl⟩
              replace hfi := Lib.hid hfi
              clear hst hpm hat hPV
              have kY := Lib.hid (fun d os => hr4.below (below_patch wr d os))
              go_wp2_with fail
              have kqy1 := fun d os => cell_patch (d := d) (os := os) y1
              have kqz1 := fun d os => cell_patch (d := d) (os := os) z1
              have kqd1 := fun d os => cell_patch (d := d) (os := os) d1
              refine wp_region_quiet_patch (by kernel_rfl) (by kernel_rfl) ?_
              repeat (go_big_quiet_step ((go_at_call_of 16 (Value.slice (some ⟨b4, o4, none⟩) Y.length cY); exact Calls.patch_of ((hfi.out _ (kY.out _ _)).mono (fun _ _ h => ⟨h.1, h.2 ▸ Below.refl _ _⟩)))))
              refine wpQuiet_nil ?_
              intro _ hw'
              obtain ⟨⟨dq, osq⟩, hw''⟩ := hw'
              subst hw''
              clear kqy1 kqz1 kqd1
              have hb := below_patch wr dq osq
              replace hB7 := below_step hB7 hb
              replace y1 := Below.cell_some hb y1
              replace z1 := Below.cell_some hb z1
              replace d1 := Below.cell_some hb d1
              replace cm8 := Below.cell_some hb cm8
              replace d2 := Below.cell_some hb d2
              replace d3 := Below.cell_some hb d3
              replace d4 := Below.cell_some hb d4
              clear hb
              generalize patch wr dq osq = wr1 at hB7 y1 z1 d1 cm8 d2 d3 d4 ⊢
              go_wp2_with fail
              have kqz1 := fun d os => cell_patch (d := d) (os := os) z1
              have kqd1 := fun d os => cell_patch (d := d) (os := os) d1
              have kqcm8 := fun d os => cell_patch (d := d) (os := os) cm8
              refine wp_region_quiet_patch (by kernel_rfl) (by kernel_rfl) ?_
              repeat (go_big_quiet_step (fail))
              refine wpQuiet_nil ?_
              intro _ hw'
              obtain ⟨⟨dq, osq⟩, hw''⟩ := hw'
              subst hw''
              clear kqz1 kqd1 kqcm8
              have hb := below_patch wr1 dq osq
              replace hB7 := below_step hB7 hb
              replace y1 := Below.cell_some hb y1
              replace z1 := Below.cell_some hb z1
              replace d1 := Below.cell_some hb d1
              replace cm8 := Below.cell_some hb cm8
              replace d2 := Below.cell_some hb d2
              replace d3 := Below.cell_some hb d3
              replace d4 := Below.cell_some hb d4
              clear hb
              generalize patch wr1 dq osq = wr2 at hB7 y1 z1 d1 cm8 d2 d3 d4 ⊢
              go_wp2_with fail
              have kqy1 := fun d os => cell_patch (d := d) (os := os) y1
              have kqz1 := fun d os => cell_patch (d := d) (os := os) z1
              have kqd1 := fun d os => cell_patch (d := d) (os := os) d1
              have kqd2 := fun d os => cell_patch (d := d) (os := os) d2
              have kqd3 := fun d os => cell_patch (d := d) (os := os) d3
              have kqd4 := fun d os => cell_patch (d := d) (os := os) d4
              refine wp_region_quiet_patch (by kernel_rfl) (by kernel_rfl) ?_
              repeat (go_big_quiet_step (fail))
              refine wpQuiet_nil ?_
              intro _ hw'
              obtain ⟨⟨dq, osq⟩, hw''⟩ := hw'
              subst hw''
              clear kqy1 kqz1 kqd1 kqd2 kqd3 kqd4
              have hb := below_patch wr2 dq osq
              replace hB7 := below_step hB7 hb
              replace y1 := Below.cell_some hb y1
              replace z1 := Below.cell_some hb z1
              replace d1 := Below.cell_some hb d1
              replace cm8 := Below.cell_some hb cm8
              replace d2 := Below.cell_some hb d2
              replace d3 := Below.cell_some hb d3
              replace d4 := Below.cell_some hb d4
              clear hb
              generalize patch wr2 dq osq = wr3 at hB7 y1 z1 d1 cm8 d2 d3 d4 ⊢
              go_wp2_with fail
              go_roundw
              case rel => exact ⟨k + 1, by omega, by go_num, hB7⟩
              case measure => simp [intOf]; omega
          · obtain rfl : k = n1 := by omega
            go_wp2_with fail
            go_ret
            exact ⟨rfl, hBw⟩
      · have hSl := hsame (by omega)
        have hw1 : 0 ≤ wz := by omega
        have hne : (((S.length : Nat) : Int) != (n1 : Int)) = false := by rw [show ((S.length : Nat) : Int) = (n1 : Int) by omega]; simp
        clear hmore hsame hSl hn1
        go_wp2_with fail
        have q1 : decide (wz < (0 : Int)) = false := decide_eq_false (by omega)
        have kqz1 := fun d os => cell_patch (d := d) (os := os) z1
        have kqcm0 := fun d os => cell_patch (d := d) (os := os) cm0
        have kqcm1 := fun d os => cell_patch (d := d) (os := os) cm1
        have kqx1 := fun d os => cell_patch (d := d) (os := os) x1
        have kqd1 := fun d os => cell_patch (d := d) (os := os) d1
        have kqd2 := fun d os => cell_patch (d := d) (os := os) d2
        refine wp_region_quiet_patch (by kernel_rfl) (by kernel_rfl) ?_
        repeat (go_big_quiet_step (fail))
        refine wpQuiet_nil ?_
        intro _ hw'
        obtain ⟨⟨dq, osq⟩, hw''⟩ := hw'
        subst hw''
        clear kqz1 kqcm0 kqcm1 kqx1 kqd1 kqd2
        have hb := below_patch w13 dq osq
        replace hz := hz.below hb
        replace hxb := hxb.below hb
        replace cm0 := Below.cell_some hb cm0
        replace cm1 := Below.cell_some hb cm1
        replace hr2 := hr2.below hb
        replace hx2 := hx2.below hb
        replace hB := below_step hB hb
        clear hb
        generalize patch w13 dq osq = w14 at hz hxb cm0 cm1 hr2 hx2 hB ⊢
        clear z0 z1 z2 zf x0 x1 x2 xf d1 d2 hd
        obtain ⟨x0, x1, x2, xf⟩ := id hxb
        go_wp2_with fail
        refine (hdr.out _ (hE0.out _ hB) hr2 hx2).mono ?_
        rintro e w15 ⟨⟨p3, r3, x3v, rfl, hp3, hr3, hx3⟩, hb⟩
        obtain rfl : p3 = p2 := bytes_eq.1 hp3
        obtain ⟨aY, cY, rfl⟩ := modsAt_form hr3
        obtain ⟨aZ, nZ, cZ, _, _, rfl, _⟩ := id hx3
        simp only
        rw [errV_zero]
        have hbY := below_alloc w15 (.cells #[.string p3, .slice aY Y.length cY, .slice aZ nZ cZ] 24)
        have hyb := box3f_alloc w15 (.string p3) (.slice aY Y.length cY) (.slice aZ nZ cZ) 24
        replace hb := below_step hb hbY
        replace hz := hz.below hb
        replace hxb := hxb.below hb
        replace cm0 := Below.cell_some hb cm0
        replace cm1 := Below.cell_some hb cm1
        replace hr3 := hr3.below hbY
        replace hB := below_step hB hb
        clear x0 x1 x2 xf hb hbY hdr hp3 hx3 hr2 hx2
        obtain ⟨fy, hfy⟩ : ∃ fy : Int, findI (fun m : Md => decide (m.1 = mp.data.toList)) Y = fy := ⟨_, rfl⟩
        have hfy0 : fy < 0 := by have := hBk.out.none; simp only at this; rw [hfy] at this; exact this
        have hfy1 : ¬ (0 ≤ fy) := by omega
        have hfy2 : decide ((0 : Int) ≤ fy) = false := decide_eq_false (by omega)
        have hfn := fun W h => findPath_calls (.slice aY Y.length cY) Y mp W h
        rw [hfy] at hfn
        replace hfn := Lib.hid hfn
        obtain ⟨z0, z1, z2, zf⟩ := id hz
        obtain ⟨x0, x1, x2, xf⟩ := id hxb
        obtain ⟨y0, y1, y2, yf⟩ := id hyb
        go_wp2_with fail
        generalize w15.alloc (.cells #[.string p3, .slice aY Y.length cY, .slice aZ nZ cZ] 24) = w16 at *
        generalize w15.heap.size = bY at *
        refine (hfn.out _ hr3).mono ?_
        rintro e w' ⟨rfl, rfl⟩
        go_wp2_with fail
        clear hfn x0 x1 x2 xf y0 y1 y2 yf z0 z1 z2 zf hxb hwr2 hfy hfy0 hfy1 hfy2 hne3
        go_loopw [13] (fun i wr => ∃ k : Nat, k ≤ n1 ∧ i = .int .i64 k ∧ Below w16.heap.size w16 wr) (fun i _ => n1 - (intOf i).toNat)
        case atStart => exact ⟨0, Nat.zero_le _, rfl, Below.refl _ _⟩
        case round =>
          obtain ⟨k, hk, rfl, hB7⟩ := hrel
          have hBw := below_step hB hB7
          obtain ⟨z0, z1, z2, zf⟩ := id (hz.below hB7)
          obtain ⟨y0, y1, y2, yf⟩ := id (hyb.below hB7)
          have cm8 := Below.cell_some hB7 cm0
          have hr4 := hr3.below hB7
          by_cases hlt : k < n1
          · obtain ⟨P, V, hPV⟩ : ∃ P V : ByteArray, R[k]? = some (P.data.toList, V.data.toList) := by
              obtain ⟨_, _, P, V, _, hl, _⟩ := hr.cells
              exact ⟨P k, V k, by rw [hl]; exact mdF_get _ P V k (by have := HN1.out; omega)⟩
            obtain ⟨b3, o3, c3', e3, _, d1, d2⟩ := (hr.below hBw).cell hPV
            injection e3 with e4 e5 e6
            subst e4 e6
            clear e5
            have hst := hBk.out.stay _ (List.mem_of_getElem? hPV)
            simp only at hst
            have hfi := fun W h => findPath_calls (.slice aY Y.length cY) Y P W h
            have hkn : (k : Int) < (n1 : Int) := by omega
            obtain ⟨at', hat⟩ : ∃ at' : Int, findI (fun m : Md => decide (m.1 = P.data.toList)) Y = at' := ⟨_, rfl⟩
            rw [hat] at hst hfi
            have hwk := wrap_nat (k + 1) (by omega)
            by_cases h7 : at' < 0
            · have hpm := hst.1.1 h7
              have hpm2 : P = mp := bytes_eq.1 hpm
              have hpm3 : (P.toList == mp.toList) = true := by rw [hpm2]; simp
              have hpm4 : P.toList = mp.toList := by rw [hpm2]
              have h8 : ¬ (0 ≤ at') := by omega
              replace hfi := Lib.hid hfi
              clear hst hpm hpm2 hat hPV
              have kY := Lib.hid (fun d os => hr4.below (below_patch wr d os))
              go_wp2_with fail
              have kqy1 := fun d os => cell_patch (d := d) (os := os) y1
              have kqz1 := fun d os => cell_patch (d := d) (os := os) z1
              have kqd1 := fun d os => cell_patch (d := d) (os := os) d1
              refine wp_region_quiet_patch (by kernel_rfl) (by kernel_rfl) ?_
              repeat (go_big_quiet_step ((go_at_call_of 16 (Value.slice aY Y.length cY); exact Calls.patch_of ((hfi.out _ (kY.out _ _)).mono (fun _ _ h => ⟨h.1, h.2 ▸ Below.refl _ _⟩)))))
              refine wpQuiet_nil ?_
              intro _ hw'
              obtain ⟨⟨dq, osq⟩, hw''⟩ := hw'
              subst hw''
              clear kqy1 kqz1 kqd1
              have hb := below_patch wr dq osq
              replace hB7 := below_step hB7 hb
              replace y1 := Below.cell_some hb y1
              replace z1 := Below.cell_some hb z1
              replace d1 := Below.cell_some hb d1
              replace cm8 := Below.cell_some hb cm8
              clear hb
              generalize patch wr dq osq = wr1 at hB7 y1 z1 d1 cm8 ⊢
              go_wp2_with fail
              have kqz1 := fun d os => cell_patch (d := d) (os := os) z1
              have kqd1 := fun d os => cell_patch (d := d) (os := os) d1
              have kqcm8 := fun d os => cell_patch (d := d) (os := os) cm8
              refine wp_region_quiet_patch (by kernel_rfl) (by kernel_rfl) ?_
              repeat (go_big_quiet_step (fail))
              refine wpQuiet_nil ?_
              intro _ hw'
              obtain ⟨⟨dq, osq⟩, hw''⟩ := hw'
              subst hw''
              clear kqz1 kqd1 kqcm8
              have hb := below_patch wr1 dq osq
              replace hB7 := below_step hB7 hb
              replace y1 := Below.cell_some hb y1
              replace z1 := Below.cell_some hb z1
              replace d1 := Below.cell_some hb d1
              replace cm8 := Below.cell_some hb cm8
              clear hb
              generalize patch wr1 dq osq = wr2 at hB7 y1 z1 d1 cm8 ⊢
              go_wp2_with fail
              go_roundw
              case rel => exact ⟨k + 1, by omega, by go_num, hB7⟩
              case measure => simp [intOf]; omega
            · obtain ⟨j, rfl⟩ : ∃ j : Nat, at' = j := ⟨at'.toNat, by omega⟩
              have hpm : P.data.toList ≠ mp.data.toList := fun e => h7 (hst.1.2 e)
              have hpm3 : (P.toList == mp.toList) = false := by rw [toList_data, toList_data]; exact beq_eq_false_iff_ne.2 hpm
              have hpm4 : P.toList ≠ mp.toList := by rw [toList_data, toList_data]; exact hpm
              have h8 : (0 : Int) ≤ (j : Int) := by omega
              obtain ⟨b4, o4, c4, e7, hj, d3, d4⟩ := hr4.cell (hst.2 j rfl)
              injection e7 with e8 e9 e10
              subst e8 e10
              clear e9
              have hjn : (j : Int) < (Y.length : Int) := by omega
              have hd := decide_eq_true (p := P = P ∧ V = V) ⟨rfl, rfl⟩
              replace hfi := Lib.hid hfi
              clear hst hpm hat hPV
              have kY := Lib.hid (fun d os => hr4.below (below_patch wr d os))
              go_wp2_with fail
              have kqy1 := fun d os => cell_patch (d := d) (os := os) y1
              have kqz1 := fun d os => cell_patch (d := d) (os := os) z1
              have kqd1 := fun d os => cell_patch (d := d) (os := os) d1
              refine wp_region_quiet_patch (by kernel_rfl) (by kernel_rfl) ?_
              repeat (go_big_quiet_step ((go_at_call_of 16 (Value.slice (some ⟨b4, o4, none⟩) Y.length cY); exact Calls.patch_of ((hfi.out _ (kY.out _ _)).mono (fun _ _ h => ⟨h.1, h.2 ▸ Below.refl _ _⟩)))))
              refine wpQuiet_nil ?_
              intro _ hw'
              obtain ⟨⟨dq, osq⟩, hw''⟩ := hw'
              subst hw''
              clear kqy1 kqz1 kqd1
              have hb := below_patch wr dq osq
              replace hB7 := below_step hB7 hb
              replace y1 := Below.cell_some hb y1
              replace z1 := Below.cell_some hb z1
              replace d1 := Below.cell_some hb d1
              replace cm8 := Below.cell_some hb cm8
              replace d2 := Below.cell_some hb d2
              replace d3 := Below.cell_some hb d3
              replace d4 := Below.cell_some hb d4
              clear hb
              generalize patch wr dq osq = wr1 at hB7 y1 z1 d1 cm8 d2 d3 d4 ⊢
              go_wp2_with fail
              have kqz1 := fun d os => cell_patch (d := d) (os := os) z1
              have kqd1 := fun d os => cell_patch (d := d) (os := os) d1
              have kqcm8 := fun d os => cell_patch (d := d) (os := os) cm8
              refine wp_region_quiet_patch (by kernel_rfl) (by kernel_rfl) ?_
              repeat (go_big_quiet_step (fail))
              refine wpQuiet_nil ?_
              intro _ hw'
              obtain ⟨⟨dq, osq⟩, hw''⟩ := hw'
              subst hw''
              clear kqz1 kqd1 kqcm8
              have hb := below_patch wr1 dq osq
              replace hB7 := below_step hB7 hb
              replace y1 := Below.cell_some hb y1
              replace z1 := Below.cell_some hb z1
              replace d1 := Below.cell_some hb d1
              replace cm8 := Below.cell_some hb cm8
              replace d2 := Below.cell_some hb d2
              replace d3 := Below.cell_some hb d3
              replace d4 := Below.cell_some hb d4
              clear hb
              generalize patch wr1 dq osq = wr2 at hB7 y1 z1 d1 cm8 d2 d3 d4 ⊢
              go_wp2_with fail
              have kqy1 := fun d os => cell_patch (d := d) (os := os) y1
              have kqz1 := fun d os => cell_patch (d := d) (os := os) z1
              have kqd1 := fun d os => cell_patch (d := d) (os := os) d1
              have kqd2 := fun d os => cell_patch (d := d) (os := os) d2
              have kqd3 := fun d os => cell_patch (d := d) (os := os) d3
              have kqd4 := fun d os => cell_patch (d := d) (os := os) d4
              refine wp_region_quiet_patch (by kernel_rfl) (by kernel_rfl) ?_
              repeat (go_big_quiet_step (fail))
              refine wpQuiet_nil ?_
              intro _ hw'
              obtain ⟨⟨dq, osq⟩, hw''⟩ := hw'
              subst hw''
              clear kqy1 kqz1 kqd1 kqd2 kqd3 kqd4
              have hb := below_patch wr2 dq osq
              replace hB7 := below_step hB7 hb
              replace y1 := Below.cell_some hb y1
              replace z1 := Below.cell_some hb z1
              replace d1 := Below.cell_some hb d1
              replace cm8 := Below.cell_some hb cm8
              replace d2 := Below.cell_some hb d2
              replace d3 := Below.cell_some hb d3
              replace d4 := Below.cell_some hb d4
              clear hb
              generalize patch wr2 dq osq = wr3 at hB7 y1 z1 d1 cm8 d2 d3 d4 ⊢
              go_wp2_with fail
              go_roundw
              case rel => exact ⟨k + 1, by omega, by go_num, hB7⟩
              case measure => simp [intOf]; omega
          · obtain rfl : k = n1 := by omega
            go_wp2_with fail
            go_ret
            exact ⟨rfl, hBw⟩
    · rw [fileSet_err2 (f := ⟨p'.data.toList, R, X⟩) h0.out h6] at hst1
      have H6 := Lib.hid h6
      replace hst1 := Lib.hid hst1
      clear h6
      go_wp2_with fail
      refine (hst1.out _ (hE0.out _ hB) hM1 hM2).mono ?_
      rintro e w12 ⟨⟨p2, r2, x2v, rfl, hp2, hr2, hx2⟩, hb⟩
      obtain rfl : p2 = ⟨#[]⟩ := bytes_eq.1 hp2
      obtain ⟨a9, c9, rfl⟩ := modsAt_form hr2
      obtain ⟨a0, n0, c0, _, _, rfl, _⟩ := id hx2
      simp only
      rw [errV_pos A H6.out]
      replace hxb := hxb.below hb
      replace hB := below_step hB hb
      clear o0 o1 o2 of ho hM1 hM2 hb hst1 hp2
      obtain ⟨x0, x1, x2, xf⟩ := id hxb
      have hbx : w.heap.size ≤ bx := by omega
      have hB4 := below_sto hB hbx (.string ⟨#[]⟩) (.slice a9 0 c9) (.slice a0 n0 c0)
      unfold st3 at hB4
      simp only [show noFl.reqs.length = 0 from rfl]
      go_wp2_with fail
      go_ret
      exact ⟨rfl, hB4⟩
  · have ht2 : Calls Tryz.prog 12 #[.agg #[.string p, .slice a5 n5 c5, .slice a6 n6 c6]] w7 fun e w' => e = .returned (.string ⟨#[]⟩) ∧ Below w7.heap.size w7 w' := by
      rw [show fileText ⟨p.data.toList, R, X⟩ = [] by unfold fileText; rw [if_neg h0]] at ht
      exact ht
    replace ht2 := Lib.hid ht2
    clear ht hv hst hxT
    go_wp2_with fail
    refine ht2.out.mono ?_
    rintro e w8 ⟨rfl, hb⟩
    go_wp2_with fail
    go_ret
    exact ⟨rfl, below_step hB hb⟩
end Go.Proofs.Pw
