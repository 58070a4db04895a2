/- Ge: walks and plain laws, joined: GetStays2. Conditions: at each theorem. -/
import Derived.Test.YtmnojbbcaboagaaGreatDoorGezo

namespace Go.Proofs.Pw
open Go.RowKit
open Go.Lib hiding intOf
theorem GetAns.ok {A : Nat → Addr} {r : GetR} {w : World} {e : Ending} (h : GetAns A r w e) : ∃ p ar nr cr ax nx cx as1 ns cs ev, e = .returned (.tuple #[.agg #[.string p, .slice ar nr cr, .slice ax nx cx], .slice as1 ns cs, ev]) ∧ FaultAt A w ev r.err ∧ p.data.toList = r.file.path ∧ ModsAt w (.slice ar nr cr) r.file.reqs ∧ ModsAt w (.slice ax nx cx) r.file.excl ∧ ModsAt w (.slice as1 ns cs) r.sel ∧ nr = r.file.reqs.length ∧ nx = r.file.excl.length ∧ ns = r.sel.length := by
  obtain ⟨p, rv, xv, sv, ev, rfl, hf, hp, hr, hx, hs⟩ := h
  obtain ⟨ar, nr, cr, P1, V1, rfl, e1, _⟩ := id hr
  obtain ⟨ax, nx, cx, P2, V2, rfl, e2, _⟩ := id hx
  obtain ⟨as1, ns, cs, P3, V3, rfl, e3, _⟩ := id hs
  exact ⟨p, ar, nr, cr, ax, nx, cx, as1, ns, cs, ev, rfl, hf, hp, hr, hx, hs, by rw [e1, mdF_length], by rw [e2, mdF_length], by rw [e3, mdF_length]⟩
theorem mods_short {l : List Md} {most : Nat} (h : longMods l most = false) (hm : most ≤ 1000000) : Short l := by
  have h1 := longMods_no h
  exact ⟨by omega, fun m hm => by have := h1.2 m hm; omega⟩
theorem getGet_at (ks : List Nat) (A : Nat → Addr) (hks : GetKs ks) (ov : Value) (l : List En) (path : ByteArray) (rv xv av : Value) (reqs excl : List Md) (args : List Str) (w : World) (hE : EnvP ks A w) (h : EntsAt w ov l) (hs : ShortI l) (hr : ModsAt w rv reqs) (hx : ModsAt w xv excl) (hp : path.size ≤ 1000000) (hsr : Short reqs) (hsx : Short excl) (ha : StrsAt w av args) (hal : ∀ s ∈ args, s.length ≤ 1000000) :
    Calls Tryz.prog 12 #[ov, .agg #[.string path, rv, xv], av] w fun e w' => GetAns A (getR l ⟨path.data.toList, reqs, excl⟩ args) w' e ∧ Below w.heap.size w w' := by
  obtain ⟨a, n, cap, P, V, R, K, B, Rv, Kv, rfl, rfl, h⟩ := h
  exact getGet_in ks A hks a n cap P V R K B Rv Kv path rv xv av reqs excl args w hE h hs hr hx hp hsr hsx ha hal
theorem mvsBuild_at (ks : List Nat) (A : Nat → Addr) (hks : IdxKs ks) (ov : Value) (l : List En) (rv : Value) (roots : List Md) (w : World) (hE : EnvP ks A w) (h : EntsAt w ov l) (hs : ShortI l) (hr : ModsAt w rv roots) (hl : roots.length ≤ 100000) :
    Calls Tryz.prog 10 #[ov, rv] w fun e w' => (∃ x ev, e = .returned (.tuple #[x, ev]) ∧ FaultAt A w' ev (startErr l roots) ∧ ModsAt w' x (buildR l roots)) ∧ Below w.heap.size w w' := by
  obtain ⟨a, n, cap, P, V, R, K, B, Rv, Kv, rfl, rfl, h⟩ := h
  exact mvsBuild_in ks A hks a n cap P V R K B Rv Kv rv roots w hE h hs hr hl
set_option maxHeartbeats 16000000 in
set_option maxRecDepth 100000 in
theorem getStays_main (ks : List Nat) (A : Nat → Addr) (la : Option Addr) (ln lc : Nat) (P V : Nat → ByteArray) (R : Nat → List Md) (K : Nat → List Str) (Bk : Nat → Bool) (Rv Kv : Nat → Value) (fp : ByteArray) (rv xv av : Value) (reqs excl : List Md) (args : List Str) (w : World) (H : GlArgs ks A la ln lc P V R K Bk Rv Kv rv xv av reqs excl args w)
    (h1 : longIdx (enF ln P V R K Bk) = false) (h2 : ln ≤ 30) (h3 : fp.size ≤ 70) (h4 : longMods reqs 25 = false) (h5 : longMods excl 25 = false) (h6 : longArgs args = false) :
    Calls Tryz.prog 3 #[.slice la ln lc, .agg #[.string fp, rv, xv], av] w fun e w' => e = .returned (.bool true) ∧ Below w.heap.size w w' := by
  obtain ⟨ar, nr, cr, _, _, rfl, -⟩ := id H.r
  obtain ⟨ax, nx, cx, _, _, rfl, -⟩ := id H.x
  obtain ⟨aa, na, ca, _, rfl, -⟩ := id H.a
  have hB := below_alloc w (.cells #[.string fp, .slice ar nr cr, .slice ax nx cx] 25)
  have hz := box3f_alloc w (.string fp) (.slice ar nr cr) (.slice ax nx cx) 25
  have hre := got_calls ks A H.gk _ (H.env.below hB)
  have hlx : ∀ W, Below w.heap.size w W → Calls Tryz.prog 6 #[.slice la ln lc] W fun e w' => e = .returned (.int .i64 (longII (enF ln P V R K Bk))) ∧ Below W.heap.size W w' := fun W h => (longIndex_in la ln lc P V R K Bk Rv Kv W (H.l.below h)).mono fun _ _ ⟨h1, h2⟩ => ⟨h1, h2 ▸ Below.refl _ _⟩
  have hl1 : ∀ W, Below w.heap.size w W → Calls Tryz.prog 7 #[.slice ar nr cr, .int .i64 25] W fun e w' => e = .returned (.int .i64 (longI reqs 25)) ∧ Below W.heap.size W w' := fun W h => (longMods_calls _ reqs 25 W (H.r.below h)).mono fun _ _ ⟨h1, h2⟩ => ⟨h1, h2 ▸ Below.refl _ _⟩
  have hl2 : ∀ W, Below w.heap.size w W → Calls Tryz.prog 7 #[.slice ax nx cx, .int .i64 25] W fun e w' => e = .returned (.int .i64 (longI excl 25)) ∧ Below W.heap.size W w' := fun W h => (longMods_calls _ excl 25 W (H.x.below h)).mono fun _ _ ⟨h1, h2⟩ => ⟨h1, h2 ▸ Below.refl _ _⟩
  have hla : ∀ W, Below w.heap.size w W → Calls Tryz.prog 8 #[.slice aa na ca] W fun e w' => e = .returned (.bool (longArgs args)) ∧ Below W.heap.size W w' := fun W h => (longArgs_calls _ args W (H.a.below h)).mono fun _ _ ⟨h1, h2⟩ => ⟨h1, h2 ▸ Below.refl _ _⟩
  have hq1 := Lib.hid (decide_eq_false (p := (30 : Int) < (ln : Int)) (by omega))
  have hq2 := Lib.hid (decide_eq_false (p := (70 : Int) < (fp.size : Int)) (by omega))
  simp only [longII_no h1] at hlx
  simp only [longI_no h4] at hl1
  simp only [longI_no h5] at hl2
  simp only [h6] at hla
  have hsi := longIdx_short h1
  have hsm := longIdx_small h1
  have hsr := mods_short h4 (by decide)
  have hsx := mods_short h5 (by decide)
  have hag := longArgs_short h6
  have HH := Lib.hid H
  have how := fun (W : World) (hb : Below w.heap.size w W) => ownIndex_calls (.slice la ln lc) (enF ln P V R K Bk) W ⟨la, ln, lc, P, V, R, K, Bk, Rv, Kv, rfl, rfl, HH.out.l.below hb⟩ (by have := hsm.1; omega) (fun e he => by
    have h4 := longEn_small (hsm.2 e he)
    have h5 := longMods_small h4.2.2.1
    exact ⟨by omega, by omega⟩)
  have hom := fun (W : World) (hb : Below w.heap.size w W) => ownMods_calls (.slice ar nr cr) reqs W (HH.out.r.below hb) hsr.1
  have hof := fun (W : World) (hb : Below w.heap.size w W) => ownFile_calls fp (.slice ar nr cr) (.slice ax nx cx) reqs excl W (HH.out.r.below hb) (HH.out.x.below hb) hsr.1 hsx.1
  have HSR := Lib.hid (And.intro hsr hsx)
  have HSI := Lib.hid hsi
  have HSM0 := Lib.hid hsm
  have HAG := Lib.hid hag
  have HFP := Lib.hid h3
  have HR4 := Lib.hid (And.intro (longMods_no h4) (longMods_no h5))
  replace hre := Lib.hid hre
  replace hlx := Lib.hid hlx
  replace hl1 := Lib.hid hl1
  replace hl2 := Lib.hid hl2
  replace hla := Lib.hid hla
  replace how := Lib.hid how
  replace hom := Lib.hid hom
  replace hof := Lib.hid hof
  clear h1 h2 h3 h4 h5 h6 H hsi hsm hsr hsx hag
  obtain ⟨z0, z1, z2, zf⟩ := id hz
  go_enter Tryz.func3, Tryz.ntmps3
  go_wp2_with fail
  refine hre.out.mono ?_
  generalize hw2 : w.alloc (.cells #[.string fp, .slice ar nr cr, .slice ax nx cx] 25) = w2 at *
  have hsw : w.heap.size < w2.heap.size := by rw [← hw2]; simp
  clear hw2 hre
  rintro e w3 ⟨rfl, hb⟩
  replace hz := hz.below hb
  replace hB := below_step hB hb
  replace hsw : w.heap.size < w3.heap.size := Nat.lt_of_lt_of_le hsw hb.size
  clear hb z0 z1 z2 zf
  obtain ⟨z0, z1, z2, zf⟩ := id hz
  go_wp2_with fail
  try have q1 := hq1.out
  try have q2 := hq2.out
  try have q3 := hq3.out
  have kqz0 := fun d os => cell_patch (d := d) (os := os) z0
  have kqz1 := fun d os => cell_patch (d := d) (os := os) z1
  have kqz2 := fun d os => cell_patch (d := d) (os := os) z2
  refine wp_region_quiet_patch (by kernel_rfl) (by kernel_rfl) ?_
  repeat (go_big_quiet_step (first | (go_at_call 6; exact Calls.patch_of (hlx.out _ (below_step hB (below_patch w3 _ _)))) | (go_at_call_of 7 (Value.slice ar nr cr); exact Calls.patch_of (hl1.out _ (below_step hB (below_patch w3 _ _)))) | (go_at_call_of 7 (Value.slice ax nx cx); exact Calls.patch_of (hl2.out _ (below_step hB (below_patch w3 _ _)))) | (go_at_call 8; exact Calls.patch_of (hla.out _ (below_step hB (below_patch w3 _ _))))))
  refine wpQuiet_nil ?_
  intro _ hw'
  obtain ⟨⟨dq, osq⟩, hw''⟩ := hw'
  subst hw''
  clear kqz0 kqz1 kqz2
  have hb := below_patch w3 dq osq
  replace hz := hz.below hb
  replace hB := below_step hB hb
  clear hb
  generalize patch w3 dq osq = w4 at hz hB ⊢
  clear hlx hl1 hl2 hla z0 z1 z2 zf
  go_wp2_with fail
  refine (how.out _ hB).mono ?_
  rintro e w5 ⟨⟨ov, rfl, hO⟩, hb⟩
  replace hB := below_step hB hb
  replace hz := hz.below hb
  obtain ⟨l, hll⟩ : ∃ x, enF ln P V R K Bk = x := ⟨_, rfl⟩
  rw [hll] at hO
  have HSL : Hid (ShortI l) := Lib.hid (by rw [← hll]; exact HSI.out)
  have HSM : Hid (∀ e ∈ l, e.md.1.length ≤ 70 ∧ e.md.2.length ≤ 60) := Lib.hid (by rw [← hll]; exact fun e he => ⟨(longEn_small (HSM0.out.2 e he)).1, (longEn_small (HSM0.out.2 e he)).2.1⟩)
  have HO := Lib.hid hO
  have hbf : w.heap.size < w5.heap.size := lt_of_cell hz.c0
  have hom1 := hom.out w5 hB
  obtain ⟨z0, z1, z2, zf⟩ := id hz
  replace hom1 := Lib.hid hom1
  clear hb how hO hll hom HSI
  go_wp2_with fail
  refine hom1.out.mono ?_
  rintro e w6 ⟨⟨v6, rfl, hM6, -⟩, hb⟩
  replace hB := below_step hB hb
  replace hz := hz.below hb
  have HO6 := Lib.hid (HO.out.below hb)
  have hbu1 := mvsBuild_at ks A HH.out.gk.1 ov l v6 reqs w6 (HH.out.env.below hB) HO6.out HSL.out hM6 (by have := HR4.out.1.1; omega)
  replace hbu1 := Lib.hid hbu1
  clear hb hM6 hom1 z0 z1 z2 zf HO
  go_wp2_with fail
  refine hbu1.out.mono ?_
  rintro e w7 ⟨⟨x7, ev7, rfl, hf7, hx7⟩, hb⟩
  replace hB := below_step hB hb
  replace hz := hz.below hb
  have HO7 := Lib.hid (HO6.out.below hb)
  obtain ⟨a7, n7, c7, _, _, rfl, -⟩ := id hx7
  clear hb hbu1 HO6
  rcases fault_form hf7 with ⟨h0, rfl⟩ | ⟨h0, ty, q, rfl⟩
  · have HG := Lib.hid (rightG_of h0)
    have hbl : buildR l reqs = buildL l reqs := by unfold buildR; rw [if_pos h0]
    rw [hbl] at hx7
    have HX7 := Lib.hid hx7
    have hof1 := hof.out w7 hB
    obtain ⟨z0, z1, z2, zf⟩ := id hz
    replace hof1 := Lib.hid hof1
    clear h0 hf7 hbl hx7
    go_wp2_with fail
    refine hof1.out.mono ?_
    rintro e w8 ⟨⟨v1, v2, rfl, hM1, hM2⟩, hb⟩
    replace hB := below_step hB hb
    replace hz := hz.below hb
    have HO8 := Lib.hid (HO7.out.below hb)
    have HX8 := Lib.hid (HX7.out.below hb)
    have hg1 := getGet_at ks A HH.out.gk ov l fp v1 v2 (.slice none 0 0) reqs excl [] w8 (HH.out.env.below hB) HO8.out HSL.out hM1 hM2 (by have := HFP.out; omega) HSR.out.1 HSR.out.2 (StrsAt.nil _) (fun s hs => by cases hs)
    obtain ⟨ff, hff⟩ : ∃ x : Fl, (⟨fp.data.toList, reqs, excl⟩ : Fl) = x := ⟨_, rfl⟩
    rw [hff] at hg1
    have HFF := Lib.hid hff
    have HNO : Hid ((getR l ff []).err.1 = 0 → (getR l ff []).sel = buildL l reqs ∧ (getR l ff []).file.path = fp.data.toList) := Lib.hid (fun h => by
      have h1 := get_nothing (f := ff) (by rw [← hff]; exact HG.out) h
      rw [h1.1, h1.2, ← hff]
      exact ⟨rfl, rfl⟩)
    generalize getR l ff [] = GN at *
    replace hg1 := Lib.hid hg1
    clear hb hof1 hM1 hM2 hff z0 z1 z2 zf HO7 HX7
    go_wp2_with fail
    refine hg1.out.mono ?_
    rintro e w9 ⟨hans, hb⟩
    obtain ⟨p1, ar1, nr1, cr1, ax1, nx1, cx1, as1, ns1, cs1, ev1, rfl, hf1, hp1, -, -, hs1, -, -, -⟩ := hans.ok
    replace hB := below_step hB hb
    replace hz := hz.below hb
    have HO9 := Lib.hid (HO8.out.below hb)
    have HX9 := Lib.hid (HX8.out.below hb)
    have HBX : Hid (w.heap.size < w9.heap.size) := Lib.hid (lt_of_cell hz.c0)
    have hfb0 := fileBox_new w9 p1 ar1 nr1 cr1 ax1 nx1 cx1
    have hba := below_alloc w9 (.cells #[.string p1, .slice ar1 nr1 cr1, .slice ax1 nx1 cx1] 25)
    have hxb := box3f_alloc w9 (.string p1) (.slice ar1 nr1 cr1) (.slice ax1 nx1 cx1) 25
    replace hB := below_step hB hba
    replace hz := hz.below hba
    have HO10 := Lib.hid (HO9.out.below hba)
    have HX10 := Lib.hid (HX9.out.below hba)
    have hs10 := hs1.below hba
    have HD0 := hba
    clear hb hg1 hans HO8 HX8 HX9
    obtain ⟨w10, hW10⟩ : ∃ W, w9.alloc (.cells #[.string p1, .slice ar1 nr1 cr1, .slice ax1 nx1 cx1] 25) = W := ⟨_, rfl⟩
    obtain ⟨bx, hbx⟩ : ∃ x, w9.heap.size = x := ⟨_, rfl⟩
    rw [hW10, hbx] at hxb hfb0
    rw [hW10] at hB hz HO10 HX10 hs10 HD0
    rw [hbx] at HBX
    have HBE := Lib.hid hbx
    have HD := Lib.hid HD0
    have HFB := Lib.hid hfb0
    clear HD0 hfb0
    obtain ⟨z0, z1, z2, zf⟩ := id hz
    obtain ⟨x0, x1, x2, xf⟩ := id hxb
    rcases fault_form hf1 with ⟨h0, rfl⟩ | ⟨h0, ty, q, rfl⟩
    · obtain ⟨n1, n2⟩ := HNO.out h0
      rw [n1] at hs10
      have hpf : fp = p1 := (bytes_eq.1 (hp1.trans n2)).symm
      subst hpf
      have hsm := sameMods_calls _ _ _ _ _ hs10 HX10.out
      simp only [decide_true] at hsm
      replace hsm := Lib.hid hsm
      clear h0 hf1 hp1 n1 n2 hs10 HNO hs1 hba
      go_wp2_with fail
      refine hsm.out.mono ?_
      rintro e w11 ⟨rfl, hb⟩
      replace hB := below_step hB hb
      replace hz := hz.below hb
      replace hxb := hxb.below hb
      have HO11 := Lib.hid (HO10.out.below hb)
      replace HD := Lib.hid (below_step HD.out hb)
      replace HFB := Lib.hid (HFB.out.below hb)
      clear hb hsm z0 z1 z2 zf x0 x1 x2 xf HX10 HO10
      obtain ⟨z0, z1, z2, zf⟩ := id hz
      obtain ⟨x0, x1, x2, xf⟩ := id hxb
      have hof2 := hof.out w11 hB
      replace hof2 := Lib.hid hof2
      go_wp2_with fail
      refine hof2.out.mono ?_
      rintro e w12 ⟨⟨v3, v4, rfl, hM3, hM4⟩, hb⟩
      replace hB := below_step hB hb
      replace hz := hz.below hb
      replace hxb := hxb.below hb
      have HO12 := Lib.hid (HO11.out.below hb)
      replace HD := Lib.hid (below_step HD.out hb)
      replace HFB := Lib.hid (HFB.out.below hb)
      have hg2 := getGet_at ks A HH.out.gk ov l fp v3 v4 (.slice aa na ca) reqs excl args w12 (HH.out.env.below hB) HO12.out HSL.out hM3 hM4 (by have := HFP.out; omega) HSR.out.1 HSR.out.2 (HH.out.a.below hB) (fun s hs => by have := HAG.out.2 s hs; omega)
      replace hg2 := Lib.hid hg2
      clear hof2 hM3 hM4 hb z0 z1 z2 zf x0 x1 x2 xf
      obtain ⟨x0, x1, x2, xf⟩ := id hxb
      go_wp2_with fail
      refine hg2.out.mono ?_
      rintro e w13 ⟨hans, hb⟩
      obtain ⟨p2, ar2, nr2, cr2, ax2, nx2, cx2, as2, ns2, cs2, ev2, rfl, hf2, hp2, hr2, hx2, hs2, hn1, hn2, hn3⟩ := hans.ok
      replace hB := below_step hB hb
      replace hz := hz.below hb
      replace hxb := hxb.below hb
      have HO13 := Lib.hid (HO12.out.below hb)
      replace HD := Lib.hid (below_step HD.out hb)
      replace HFB := Lib.hid (HFB.out.below hb)
      clear hb hg2 hans HO12 x0 x1 x2 xf
      obtain ⟨x0, x1, x2, xf⟩ := id hxb
      have hxc := ((hxb.set0 (.string p2)).set1 (.slice ar2 nr2 cr2)).set2 (.slice ax2 nx2 cx2)
      obtain ⟨w14, hW14⟩ : ∃ W, ((w13.setCell ⟨bx, 0, none⟩ (.string p2)).setCell ⟨bx, 1, none⟩ (.slice ar2 nr2 cr2)).setCell ⟨bx, 2, none⟩ (.slice ax2 nx2 cx2) = W := ⟨_, rfl⟩
      rw [hW14] at hxc
      have hB14 : Below w.heap.size w w14 := by rw [← hW14]; exact below_set3 hB (by have := HBX.out; omega) _ _ _
      rcases fault_form hf2 with ⟨h0, rfl⟩ | ⟨h0, ty2, q2, rfl⟩
      · skip
        obtain ⟨S, sel, hk⟩ := getR_good h0
        have hsf : StayF l fp.data.toList excl sel (trimR l sel) := stayF_of hk.selOk HSM.out
        have HAE : Hid (∀ j, j < args.length → argE (args.getD j []) = 0) := Lib.hid (by
          have h := hk.chk
          unfold chkErr at h
          rw [orE_zero, orE_zero, orE_zero] at h
          exact firstE_zero h.2.2.2)
        have HPIN : Hid (∀ s ∈ args, contains (argP s) dots = false → (verErr (argQ s) = 0 ∨ argQ s = noneS) → (argQ s = noneS → findI (hasP (argP s)) sel < 0) ∧ (argQ s ≠ noneS → 0 ≤ findI (hasP (argP s)) sel ∧ (mdAt sel (findI (hasP (argP s)) sel).toNat).2 = argQ s)) := Lib.hid (fun s hs hw hq => hk.pinned hs hw hq)
        rw [hk.is] at hp2 hr2 hx2 hs2 hn1 hn2 hn3
        simp only at hp2 hr2 hx2 hs2 hn1 hn2 hn3
        have HSF := Lib.hid hsf
        generalize trimR l sel = TR at *
        have hpf2 : fp = p2 := (bytes_eq.1 hp2).symm
        subst hpf2
        have hoff : OffOne bx w13 w14 := by rw [← hW14]; exact offOne3 w13 bx _ _ _
        have H14 := Lib.hid (And.intro (hr2.off HFB.out hoff) (And.intro (hx2.off HFB.out hoff) (hs2.off HFB.out hoff)))
        have HO14 := Lib.hid (HO9.out.below (by rw [← hW14]; exact below_set3 HD.out (by rw [HBE.out]; exact Nat.le_refl _) _ _ _ : Below w9.heap.size w9 w14))
        have hz14 : Box3f w14 w.heap.size (.string fp) (.slice ar nr cr) (.slice ax nx cx) := by
          rw [← hW14]
          have hne : w.heap.size ≠ bx := Nat.ne_of_lt HBX.out
          exact ((hz.other hne _).other hne _).other hne _
        have HN3 := Lib.hid hn3
        have HHX := Lib.hid (And.intro hxc hz14)
        have HW14 := Lib.hid hW14
        obtain ⟨a', n', c', LA, ea, hla, -, -, hca⟩ := id HH.out.a
        injection ea with e1 e2 e3
        subst e1
        subst e2
        subst e3
        have HLA : Hid (∀ W, Below w.heap.size w W → ∀ j, j < na → ∃ b o, aa = some ⟨b, o, none⟩ ∧ W.cell? ⟨b, o + j, none⟩ = some (.string (LA j))) := Lib.hid (fun W hW j hj => by obtain ⟨b, o, e, c0⟩ := hca j hj; exact ⟨b, o, e, Below.cell_some hW c0⟩)
        have HNA : Hid (na ≤ 12) := Lib.hid (by have := HAG.out.1; rw [hla, lstF_length] at this; exact this)
        have HLS : Hid (∀ j, j < na → (LA j).data.toList ∈ args ∧ argE (LA j).data.toList = 0 ∧ (LA j).data.toList.length ≤ 80) := Lib.hid (fun j hj => by
          have hg := lstF_get na LA j hj
          rw [← hla] at hg
          have hm := List.mem_of_getElem? hg
          have h1 := HAE.out j (by rw [hla, lstF_length]; exact hj)
          rw [List.getD_eq_getElem?_getD, hg] at h1
          exact ⟨hm, h1, HAG.out.2 _ hm⟩)
        obtain ⟨y0, y1, y2, yf⟩ := id hxc
        obtain ⟨u0, u1, u2, uf⟩ := id hz14
        have hga := fun (s : ByteArray) (W : World) (hb : Below w.heap.size w W) (hs : s.size ≤ 1000000) => getArg_calls ks A HH.out.gk.1.2.1 s W (HH.out.env.below hb) hs
        replace hga := Lib.hid hga
        have HB14 := Lib.hid hB14
        clear h0 hf2 hp2 hr2 hx2 hs2 hn1 hn2 hn3 hk hsf hoff hz14 hxc hca hla hB14 hxb u0 u1 u2 uf hB hz
        go_wp2_with fail
        clear x0 x1 x2 xf y0 y1 y2 yf
        go_loopw [13, 14, 15, 16, 17] (fun i _ _ _ _ wr => ∃ k : Nat, k ≤ na ∧ i = .int .i64 k ∧ Below w14.heap.size w14 wr) (fun i _ _ _ _ _ => na - (intOf i).toNat)
        case atStart => exact ⟨0, Nat.zero_le _, rfl, Below.refl _ _⟩
        case round =>
          clear hW14
          have hna12 : na ≤ 12 := HNA.out
          obtain ⟨k, hk, rfl, hBr⟩ := hrel
          by_cases hlt : k < na
          · have hkn : (k : Int) < (na : Int) := by omega
            have hBw := below_step HB14.out hBr
            obtain ⟨b1, o1, ea, c0⟩ := HLA.out wr hBw k hlt
            have HLK := Lib.hid (HLS.out k hlt)
            have hg := hga.out (LA k) wr hBw (by rw [size_eq]; have := HLK.out.2.2; omega)
            have hPK := HPIN.out _ HLK.out.1
            subst ea
            generalize LA k = s at c0 hg hPK HLK
            have HPK := Lib.hid hPK
            replace hg := Lib.hid hg
            clear hBw hPK
            go_wp2_with fail
            refine hg.out.mono ?_
            rintro e w15 ⟨⟨p, q, he, hpq, -⟩, hb⟩
            have he' : e = .returned (.tuple #[.string p, .string q, .nilIface]) := by rw [he, HLK.out.2.1]; rfl
            clear he
            subst he'
            obtain ⟨hp1, hq1⟩ := hpq HLK.out.2.1
            replace hBr := below_step hBr hb
            have hBw := below_step HB14.out hBr
            have hpl : p.size ≤ 1000000 := by rw [size_eq, hp1]; exact argP_len (by have := HLK.out.2.2; omega)
            have hql : q.size ≤ 1000000 := by rw [size_eq, hq1]; exact argQ_len (by have := HLK.out.2.2; omega)
            have hPK := HPK.out
            rw [← hp1, ← hq1] at hPK
            have hwi := wild_calls p w15 (HH.out.env.below hBw).m (by omega)
            have hvc := verCheck_calls ks A q w15 (HH.out.env.below hBw) (by omega)
            have hfp := findPath_calls (.slice as2 ns2 cs2) sel p w15 (H14.out.2.2.below hBr)
            have hfp2 : ∀ W, Below w15.heap.size w15 W → Calls Tryz.prog 18 #[.slice as2 ns2 cs2, .string p] W fun e w' => e = .returned (.int .i64 (findI (hasP p.data.toList) sel)) ∧ W = w' := fun W hW => findPath_calls (.slice as2 ns2 cs2) sel p W ((H14.out.2.2.below hBr).below hW)
            clear hfp
            replace HPK := Lib.hid hPK
            replace hwi := Lib.hid hwi
            replace hvc := Lib.hid hvc
            replace hfp2 := Lib.hid hfp2
            clear hb hg hpq hp1 hq1 hBw c0 hPK hpl hql
            cases hcw : contains p.data.toList dots with
            | true =>
              rw [hcw] at hwi
              clear hcw
              go_wp2_with fail
              refine hwi.out.mono ?_
              rintro e w' ⟨rfl, rfl⟩
              clear hwi
              go_wp2_with fail
              go_roundw
              case rel => exact ⟨k + 1, by omega, by go_num, hBr⟩
              case measure => simp [intOf]; omega
            | false =>
              rw [hcw] at hwi
              have HPK2 := Lib.hid (HPK.out hcw)
              clear hcw HPK
              have hn0 := noneB_is q
              have HNB : Hid (noneB q = true ↔ q.data.toList = noneS) := Lib.hid (by unfold noneB; exact decide_eq_true_iff)
              obtain ⟨NB, hNB⟩ : ∃ x, noneB q = x := ⟨_, rfl⟩
              rw [hNB] at hn0
              have HNB2 : Hid (NB = true ↔ q.data.toList = noneS) := Lib.hid (by rw [← hNB]; exact HNB.out)
              clear HNB hNB
              have HVV : Hid (verErr q.data.toList = 0 ∨ NB = true → (NB = true → findI (hasP p.data.toList) sel < 0) ∧ (NB = false → 0 ≤ findI (hasP p.data.toList) sel ∧ (mdAt sel (findI (hasP p.data.toList) sel).toNat).2 = q.data.toList)) := Lib.hid (fun h => by
                have h1 := HPK2.out (h.imp_right HNB2.out.1)
                refine ⟨fun e => h1.1 (HNB2.out.1 e), fun e => h1.2 fun e2 => ?_⟩
                rw [HNB2.out.2 e2] at e
                cases e)
              clear HPK2 HNB2
              obtain ⟨fi, hfi⟩ : ∃ x, findI (hasP p.data.toList) sel = x := ⟨_, rfl⟩
              rw [hfi] at HVV hfp2
              have HFI := Lib.hid hfi
              obtain ⟨VE, hVE⟩ : ∃ x, verErr q.data.toList = x := ⟨_, rfl⟩
              rw [hVE] at hvc HVV
              clear hfi hVE
              have hq' := hn0.symm
              clear hn0
              cases NB with
              | true =>
                have hq'' : (q.toList != [110, 111, 110, 101]) = false := by rw [bne, hq']; rfl
                have hneg : fi < 0 := (HVV.out (.inr rfl)).1 rfl
                have hn2 : ¬ (0 : Int) ≤ fi := by omega
                cases VE with
                | zero =>
                  go_wp2_with fail
                  refine hwi.out.mono ?_
                  rintro e w' ⟨rfl, rfl⟩
                  clear hwi
                  go_wp2_with fail
                  refine hvc.out.mono ?_
                  rintro e w16 ⟨he, hb⟩
                  have he' : e = .returned .nilIface := he
                  clear he
                  subst he'
                  replace hBr := below_step hBr hb
                  have hfp := hfp2.out w16 hb
                  replace hfp := Lib.hid hfp
                  clear hb hvc hfp2
                  go_wp2_with fail
                  refine hfp.out.mono ?_
                  rintro e w' ⟨rfl, rfl⟩
                  clear hfp
                  go_wp2_with fail
                  go_roundw
                  case rel => exact ⟨k + 1, by omega, by go_num, hBr⟩
                  case measure => simp [intOf]; omega
                | succ m =>
                  go_wp2_with fail
                  refine hwi.out.mono ?_
                  rintro e w' ⟨rfl, rfl⟩
                  clear hwi
                  go_wp2_with fail
                  refine hvc.out.mono ?_
                  rintro e w16 ⟨he, hb⟩
                  rw [errV_pos A (Nat.succ_ne_zero m)] at he
                  subst he
                  replace hBr := below_step hBr hb
                  have hfp := hfp2.out w16 hb
                  replace hfp := Lib.hid hfp
                  clear hb hvc hfp2
                  go_wp2_with fail
                  refine hfp.out.mono ?_
                  rintro e w' ⟨rfl, rfl⟩
                  clear hfp
                  go_wp2_with fail
                  go_roundw
                  case rel => exact ⟨k + 1, by omega, by go_num, hBr⟩
                  case measure => simp [intOf]; omega
              | false =>
                have hq'' : (q.toList != [110, 111, 110, 101]) = true := by rw [bne, hq']; rfl
                cases VE with
                | zero =>
                  obtain ⟨hpos, hat⟩ := (HVV.out (.inl rfl)).2 rfl
                  obtain ⟨j, rfl⟩ : ∃ j : Nat, fi = j := ⟨fi.toNat, by omega⟩
                  obtain ⟨x, hx, -⟩ := findI_spec HFI.out
                  obtain ⟨a7', n7', c7', Q7, U7, ea7, hs7, hc7⟩ := mods_cellsS H14.out.2.2
                  injection ea7 with e1 e2 e3
                  subst e1
                  subst e2
                  subst e3
                  have hjl : j < ns2 := by have := (List.getElem?_eq_some_iff.1 hx).1; rw [hs7, mdF_length] at this; exact this
                  rw [Int.toNat_natCast, hs7, mdAt_mdF hjl] at hat
                  have huq : U7 j = q := bytes_eq.1 hat
                  go_wp2_with fail
                  refine hwi.out.mono ?_
                  rintro e w' ⟨rfl, rfl⟩
                  clear hwi
                  go_wp2_with fail
                  refine hvc.out.mono ?_
                  rintro e w16 ⟨he, hb⟩
                  have he' : e = .returned .nilIface := he
                  clear he
                  subst he'
                  replace hBr := below_step hBr hb
                  have hfp := hfp2.out w16 hb
                  obtain ⟨bs, os, ea8, d0, d1⟩ := hc7 w16 hBr j hjl
                  rw [huq] at d1
                  subst ea8
                  have hj0 : (0 : Int) ≤ (j : Int) := by omega
                  have hj1 : ¬ (j : Int) < 0 := by omega
                  have hjn : (j : Int) < (ns2 : Int) := by omega
                  replace hfp := Lib.hid hfp
                  clear hb hvc hfp2 hs7 hc7 hat huq hx hpos d0
                  go_wp2_with fail
                  refine hfp.out.mono ?_
                  rintro e w' ⟨rfl, rfl⟩
                  clear hfp
                  go_wp2_with fail
                  go_roundw
                  case rel => exact ⟨k + 1, by omega, by go_num, hBr⟩
                  case measure => simp [intOf]; omega
                | succ m =>
                  go_wp2_with fail
                  refine hwi.out.mono ?_
                  rintro e w' ⟨rfl, rfl⟩
                  clear hwi
                  go_wp2_with fail
                  refine hvc.out.mono ?_
                  rintro e w16 ⟨he, hb⟩
                  rw [errV_pos A (Nat.succ_ne_zero m)] at he
                  subst he
                  replace hBr := below_step hBr hb
                  clear hb hvc hfp2
                  go_wp2_with fail
                  go_roundw
                  case rel => exact ⟨k + 1, by omega, by go_num, hBr⟩
                  case measure => simp [intOf]; omega
          · obtain rfl : k = na := by omega
            have hnk : ¬ (k : Int) < (k : Int) := by omega
            have hB := below_step HB14.out hBr
            have HO := Lib.hid (HO14.out.below hBr)
            have H15 := Lib.hid (And.intro (H14.out.1.below hBr) (And.intro (H14.out.2.1.below hBr) (H14.out.2.2.below hBr)))
            have hxb := HHX.out.1.below hBr
            have hz := HHX.out.2.below hBr
            obtain ⟨y0, y1, y2, yf⟩ := id hxb
            obtain ⟨u0, u1, u2, uf⟩ := id hz
            have hbu2 := mvsBuild_at ks A HH.out.gk.1 ov l (.slice ar2 nr2 cr2) TR wr (HH.out.env.below hB) HO.out HSL.out H15.out.1 (by have := HSF.out.few; omega)
            rw [HSF.out.st, HSF.out.bd] at hbu2
            replace hbu2 := Lib.hid hbu2
            clear hlt hk hBr HB14 HO14 H14 HHX HLA HLS HPIN HAE hga
            go_wp2_with fail
            refine hbu2.out.mono ?_
            rintro e w18 ⟨⟨x18, ev18, rfl, hf18, hx18⟩, hb⟩
            obtain rfl : ev18 = .nilIface := by
              rcases fault_form hf18 with ⟨_, h⟩ | ⟨h, _⟩
              · exact h
              · exact absurd rfl h
            obtain ⟨a18, n18, c18, _, _, rfl, -⟩ := id hx18
            replace hB := below_step hB hb
            replace hxb := hxb.below hb
            replace hz := hz.below hb
            replace HO := Lib.hid (HO.out.below hb)
            replace H15 := Lib.hid (And.intro (H15.out.1.below hb) (And.intro (H15.out.2.1.below hb) (H15.out.2.2.below hb)))
            clear hb y0 y1 y2 yf u0 u1 u2 uf
            obtain ⟨y0, y1, y2, yf⟩ := id hxb
            obtain ⟨u0, u1, u2, uf⟩ := id hz
            have hsm2 := sameMods_calls _ _ _ _ w18 hx18 H15.out.2.2
            simp only [decide_true] at hsm2
            replace hsm2 := Lib.hid hsm2
            clear hbu2 hf18 hx18
            go_wp2_with fail
            refine hsm2.out.mono ?_
            rintro e w19 ⟨rfl, hb⟩
            replace hB := below_step hB hb
            replace hxb := hxb.below hb
            replace hz := hz.below hb
            replace HO := Lib.hid (HO.out.below hb)
            replace H15 := Lib.hid (And.intro (H15.out.1.below hb) (And.intro (H15.out.2.1.below hb) (H15.out.2.2.below hb)))
            clear hb y0 y1 y2 yf u0 u1 u2 uf
            obtain ⟨y0, y1, y2, yf⟩ := id hxb
            obtain ⟨u0, u1, u2, uf⟩ := id hz
            have hsm3 := sameMods_calls _ _ _ _ w19 H15.out.2.1 (HH.out.x.below hB)
            simp only [decide_true] at hsm3
            replace hsm3 := Lib.hid hsm3
            clear hsm2
            go_wp2_with fail
            refine hsm3.out.mono ?_
            rintro e w20 ⟨rfl, hb⟩
            replace hB := below_step hB hb
            replace hxb := hxb.below hb
            replace hz := hz.below hb
            replace HO := Lib.hid (HO.out.below hb)
            replace H15 := Lib.hid (And.intro (H15.out.1.below hb) (And.intro (H15.out.2.1.below hb) (H15.out.2.2.below hb)))
            clear hb y0 y1 y2 yf u0 u1 u2 uf
            obtain ⟨y0, y1, y2, yf⟩ := id hxb
            obtain ⟨u0, u1, u2, uf⟩ := id hz
            have hfc := fileCheck_calls ks A HH.out.gk.2.1 fp _ _ TR excl w20 (HH.out.env.below hB) H15.out.1 H15.out.2.1 (by have := HFP.out; omega) HSF.out.shT HSR.out.2
            replace hfc := Lib.hid hfc
            clear hsm3
            go_wp2_with fail
            refine hfc.out.mono ?_
            rintro e w21 ⟨⟨v21, rfl, hf21⟩, hb⟩
            replace hB := below_step hB hb
            replace hxb := hxb.below hb
            replace hz := hz.below hb
            replace HO := Lib.hid (HO.out.below hb)
            replace H15 := Lib.hid (And.intro (H15.out.1.below hb) (And.intro (H15.out.2.1.below hb) (H15.out.2.2.below hb)))
            clear hb y0 y1 y2 yf u0 u1 u2 uf
            obtain ⟨y0, y1, y2, yf⟩ := id hxb
            obtain ⟨u0, u1, u2, uf⟩ := id hz
            clear hfc
            rcases fault_form hf21 with ⟨hz0, rfl⟩ | ⟨hnz, ty21, q21, rfl⟩
            · have HFZ := Lib.hid hz0
              clear hf21 hz0
              by_cases h10 : ns2 ≤ 10
              · have hlz : ¬ (10 : Int) < (ns2 : Int) := by omega
                obtain ⟨a7', n7', c7', Q7, U7, ea7, hs7, hc7⟩ := mods_cellsS H15.out.2.2
                injection ea7 with e1 e2 e3
                subst e1
                subst e2
                subst e3
                have HC7 := Lib.hid hc7
                have HS7 := Lib.hid hs7
                have HQ7 : Hid (∀ j, j < ns2 → (Q7 j).size ≤ 1000000 ∧ (U7 j).size ≤ 1000000) := Lib.hid (by have := HSF.out.shS; rw [hs7] at this; exact (short_F this).2)
                obtain ⟨i0, hi, hz0, hz1, hz2⟩ := info_parts Tryz.infoString
                have hmt := fun (p v : ByteArray) (W : World) (hb : Below w.heap.size w W) (hp : p.size ≤ 1000000000) (hv : v.size ≤ 1000000000) => modText_calls ks A HH.out.gk.1.2.1 p v W (HH.out.env.below hb) hp hv
                replace hmt := Lib.hid hmt
                have HB21 := Lib.hid hB
                have HXB := Lib.hid hxb
                have H10 := Lib.hid h10
                clear hs7 hc7 hB hxb hz y0 y1 y2 yf u0 u1 u2 uf h10
                generalize hwq : wr = wq at *
                clear hwq
                go_wp2_with fail
                go_loopw [19, 20] (fun o i wr => ∃ (k : Nat) (L : List ByteArray), k ≤ ns2 ∧ i = .int .i64 k ∧ Hid (wr.ownsRow w21.heap.size 9 1 o L.length (strVs L)) ∧ Hid (L.length = k) ∧ Hid (strTs L = ((mdF ns2 Q7 U7).take k).map mdText) ∧ Hid (Below w21.heap.size w21 wr)) (fun _ i _ => ns2 - (intOf i).toNat)
                case atStart => exact ⟨0, [], Nat.zero_le _, rfl, Lib.hid (World.ownsRow_nil _ _ _ _), Lib.hid rfl, Lib.hid rfl, Lib.hid (Below.refl _ _)⟩
                case round =>
                  obtain ⟨j, L, hj, rfl, hOw, hLk, hT, hBr⟩ := hrel
                  have h10b : ns2 ≤ 10 := H10.out
                  obtain ⟨ao, no, co, rfl⟩ := own_form hOw.out
                  by_cases hlj : j < ns2
                  · have hjn : (j : Int) < (ns2 : Int) := by omega
                    obtain ⟨bs, os, ea8, d0, d1⟩ := HC7.out wr hBr.out j hlj
                    subst ea8
                    have hm := hmt.out (Q7 j) (U7 j) wr (below_step HB21.out hBr.out) (by have := HQ7.out j hlj; omega) (by have := HQ7.out j hlj; omega)
                    obtain ⟨sb, hsb⟩ : ∃ x : ByteArray, (⟨(modText (Q7 j).data.toList (U7 j).data.toList).toArray⟩ : ByteArray) = x := ⟨_, rfl⟩
                    rw [hsb] at hm
                    have HN : Hid (strTs (L ++ [sb]) = ((mdF ns2 Q7 U7).take (j + 1)).map mdText) := Lib.hid (by rw [mdF_take_succ ns2 Q7 U7 j hlj, List.map_append, strTs_snoc, hT.out, ← hsb]; rfl)
                    have HLL : Hid (L.length + 1 = j + 1) := Lib.hid (by rw [hLk.out])
                    generalize Q7 j = pj at d0 hm
                    generalize U7 j = vj at d1 hm
                    replace hm := Lib.hid hm
                    clear hT hsb hLk
                    go_wp2_with fail
                    refine hm.out.mono ?_
                    rintro e w22 ⟨rfl, hb⟩
                    have HO2 := Lib.hid (hOw.out.below hb)
                    have HB2 := Lib.hid (below_step hBr.out hb)
                    clear hb hm d0 d1 hOw hBr
                    go_wp2_with (at_builtin; refine wpList_append_own _ rfl _ _ 26 rfl w21.heap.size 9 i0 (.string ⟨#[]⟩) 1 16 Tryz.underlying26 hi hz0 hz1 hz2 rfl (by decide) _ _ _ rfl (HO2.out.alloc _) ⟨w22.heap.size, 0, none⟩ 1 1 [.string sb] rfl rfl (cell_one_new _ _ _) (fun x hx => by simp at hx; subst hx; rfl) (by unfold maxLen; have := HLL.out; have := H10.out; omega) (by have := HLL.out; have := H10.out; omega) (by have := HB2.out.size; simp; omega) ?_; intro o' w4 hown4 hgrow4 _)
                    go_roundw
                    case rel =>
                      refine ⟨j + 1, L ++ [sb], by omega, by go_num, Lib.hid ?_, Lib.hid (by rw [List.length_append, List.length_singleton]; exact HLL.out), HN, Lib.hid ?_⟩
                      · rw [List.length_append, List.length_singleton, ← strVs_snoc]
                        exact hown4
                      · exact (HB2.out.alloc HB2.out.size _).grown hgrow4 (by have := HB2.out.size; simp; omega) (fun q e => (HO2.out.lt q e).1)
                    case measure => simp [intOf]; omega
                  · obtain rfl : j = ns2 := by omega
                    have hnk2 : ¬ (j : Int) < (j : Int) := by omega
                    have HT : Hid (strTs L = sel.map mdText) := Lib.hid (by rw [hT.out, List.take_of_length_le (by rw [mdF_length]; exact Nat.le_refl _), ← HS7.out])
                    have hSA : StrsAt wr (.slice ao no co) (sel.map mdText) := by rw [← HT.out]; exact strsAt_own hOw.out
                    have hBw := below_step HB21.out hBr.out
                    have HM3 := Lib.hid (And.intro (H15.out.1.below hBr.out) (And.intro (H15.out.2.1.below hBr.out) (H15.out.2.2.below hBr.out)))
                    have hg3 := getGet_at ks A HH.out.gk ov l fp (.slice ar2 nr2 cr2) (.slice ax2 nx2 cx2) (.slice ao no co) TR excl (sel.map mdText) wr (HH.out.env.below hBw) (HO.out.below hBr.out) HSL.out HM3.out.1 HM3.out.2.1 (by have := HFP.out; omega) HSF.out.shT HSR.out.2 hSA (fun s hs => by
                      obtain ⟨m, hm, rfl⟩ := List.mem_map.1 hs
                      exact HSF.out.txt m hm)
                    rw [HSF.out.again (by rw [HS7.out, mdF_length]; exact H10.out) HFZ.out] at hg3
                    have hxw := HXB.out.below hBr.out
                    obtain ⟨y0, y1, y2, yf⟩ := id hxw
                    replace hg3 := Lib.hid hg3
                    clear hSA hlj hT hLk hOw hBr hmt HC7 HQ7 H15
                    go_wp2_with fail
                    refine hg3.out.mono ?_
                    rintro e w23 ⟨hans, hb⟩
                    obtain ⟨p4, ar4, nr4, cr4, ax4, nx4, cx4, as4, ns4, cs4, ev4, rfl, hf4, hp4, hr4, hx4, hs4, -, -, -⟩ := hans.ok
                    obtain rfl : ev4 = .nilIface := by
                      rcases fault_form hf4 with ⟨_, h⟩ | ⟨h, _⟩
                      · exact h
                      · exact absurd rfl h
                    have hpe : fp = p4 := (bytes_eq.1 hp4).symm
                    subst hpe
                    simp only at hr4 hx4 hs4
                    have hba := below_alloc w23 (.cells #[.string fp, .slice ar4 nr4 cr4, .slice ax4 nx4 cx4] 25)
                    have hyb := box3f_alloc w23 (.string fp) (.slice ar4 nr4 cr4) (.slice ax4 nx4 cx4) 25
                    have hB24 := below_step (below_step hBw hb) hba
                    replace hxw := (hxw.below hb).below hba
                    have HM4 := Lib.hid (And.intro (hr4.below hba) (And.intro (hx4.below hba) (hs4.below hba)))
                    replace HM3 := Lib.hid (And.intro ((HM3.out.1.below hb).below hba) (And.intro ((HM3.out.2.1.below hb).below hba) ((HM3.out.2.2.below hb).below hba)))
                    obtain ⟨w24, hW24⟩ : ∃ W, w23.alloc (.cells #[.string fp, .slice ar4 nr4 cr4, .slice ax4 nx4 cx4] 25) = W := ⟨_, rfl⟩
                    obtain ⟨byy, hby⟩ : ∃ x, w23.heap.size = x := ⟨_, rfl⟩
                    rw [hW24] at hyb hB24 hxw HM3 HM4
                    rw [hby] at hyb
                    clear y0 y1 y2 yf
                    obtain ⟨y0, y1, y2, yf⟩ := id hxw
                    obtain ⟨v0, v1, v2, vf⟩ := id hyb
                    have hsfc := sameFile_calls fp fp _ _ _ _ _ _ _ _ w24 HM4.out.1 HM4.out.2.1 HM3.out.1 HM3.out.2.1
                    simp only [decide_true, Bool.and_true] at hsfc
                    replace hsfc := Lib.hid hsfc
                    clear hb hba hg3 hans hf4 hp4 hr4 hx4 hs4 hBw
                    go_wp2_with fail
                    refine hsfc.out.mono ?_
                    rintro e w25 ⟨rfl, hb⟩
                    have hB25 := below_step hB24 hb
                    have hsm4 := sameMods_calls _ _ _ _ w25 (HM4.out.2.2.below hb) (HM3.out.2.2.below hb)
                    simp only [decide_true] at hsm4
                    replace hsm4 := Lib.hid hsm4
                    clear hb hsfc y0 y1 y2 yf v0 v1 v2 vf
                    go_wp2_with fail
                    refine hsm4.out.mono ?_
                    rintro e w26 ⟨rfl, hb⟩
                    go_wp2_with fail
                    go_wp2_with fail
                    go_ret
                    exact ⟨rfl, below_step hB25 hb⟩
              · have hlz : (10 : Int) < (ns2 : Int) := by omega
                clear h10
                go_wp2_with fail
                go_wp2_with fail
                go_ret
                exact ⟨rfl, hB⟩
            · have hfp : ∀ W, Below w21.heap.size w21 W → Calls Tryz.prog 18 #[.slice as2 ns2 cs2, .string fp] W fun e w' => e = .returned (.int .i64 (findI (hasP fp.data.toList) sel)) ∧ W = w' := fun W hW => findPath_calls (.slice as2 ns2 cs2) sel fp W (H15.out.2.2.below hW)
              have hge : (0 : Int) ≤ findI (hasP fp.data.toList) sel := HSF.out.file hnz
              generalize findI (hasP fp.data.toList) sel = fi at hge hfp
              have hfp2 := hfp w21 (Below.refl _ _)
              replace hfp2 := Lib.hid hfp2
              clear hf21 hnz hfp
              go_wp2_with fail
              refine hfp2.out.mono ?_
              rintro e w' ⟨rfl, rfl⟩
              go_wp2_with fail
              go_wp2_with fail
              go_ret
              exact ⟨rfl, hB⟩
      · obtain ⟨g1, g2⟩ := getR_bad h0
        rw [g1] at hp2 hn1
        rw [g2] at hn3
        obtain rfl : p2 = ⟨#[]⟩ := bytes_eq.1 hp2
        obtain rfl : nr2 = 0 := hn1
        obtain rfl : ns2 = 0 := hn3
        obtain ⟨v0, v1, v2, vf⟩ := id hxc
        clear h0 hf2 hp2 hr2 hx2 hs2 hn2 g1 g2
        go_wp2_with fail
        go_wp2_with fail
        go_ret
        exact ⟨rfl, hB14⟩
    · clear h0 hf1 hp1 hs10 HNO hs1 hba
      clear z0 z1 z2 zf x0 x1 x2 xf HX10
      obtain ⟨z0, z1, z2, zf⟩ := id hz
      obtain ⟨x0, x1, x2, xf⟩ := id hxb
      have hof2 := hof.out w10 hB
      replace hof2 := Lib.hid hof2
      go_wp2_with fail
      refine hof2.out.mono ?_
      rintro e w12 ⟨⟨v3, v4, rfl, hM3, hM4⟩, hb⟩
      replace hB := below_step hB hb
      replace hz := hz.below hb
      replace hxb := hxb.below hb
      have HO12 := Lib.hid (HO10.out.below hb)
      replace HD := Lib.hid (below_step HD.out hb)
      replace HFB := Lib.hid (HFB.out.below hb)
      have hg2 := getGet_at ks A HH.out.gk ov l fp v3 v4 (.slice aa na ca) reqs excl args w12 (HH.out.env.below hB) HO12.out HSL.out hM3 hM4 (by have := HFP.out; omega) HSR.out.1 HSR.out.2 (HH.out.a.below hB) (fun s hs => by have := HAG.out.2 s hs; omega)
      replace hg2 := Lib.hid hg2
      clear hof2 hM3 hM4 hb z0 z1 z2 zf x0 x1 x2 xf
      obtain ⟨x0, x1, x2, xf⟩ := id hxb
      go_wp2_with fail
      refine hg2.out.mono ?_
      rintro e w13 ⟨hans, hb⟩
      obtain ⟨p2, ar2, nr2, cr2, ax2, nx2, cx2, as2, ns2, cs2, ev2, rfl, hf2, hp2, hr2, hx2, hs2, hn1, hn2, hn3⟩ := hans.ok
      replace hB := below_step hB hb
      replace hz := hz.below hb
      replace hxb := hxb.below hb
      have HO13 := Lib.hid (HO12.out.below hb)
      replace HD := Lib.hid (below_step HD.out hb)
      replace HFB := Lib.hid (HFB.out.below hb)
      clear hb hg2 hans HO12 x0 x1 x2 xf
      obtain ⟨x0, x1, x2, xf⟩ := id hxb
      have hxc := ((hxb.set0 (.string p2)).set1 (.slice ar2 nr2 cr2)).set2 (.slice ax2 nx2 cx2)
      obtain ⟨w14, hW14⟩ : ∃ W, ((w13.setCell ⟨bx, 0, none⟩ (.string p2)).setCell ⟨bx, 1, none⟩ (.slice ar2 nr2 cr2)).setCell ⟨bx, 2, none⟩ (.slice ax2 nx2 cx2) = W := ⟨_, rfl⟩
      rw [hW14] at hxc
      have hB14 : Below w.heap.size w w14 := by rw [← hW14]; exact below_set3 hB (by have := HBX.out; omega) _ _ _
      rcases fault_form hf2 with ⟨h0, rfl⟩ | ⟨h0, ty2, q2, rfl⟩
      · skip
        obtain ⟨S, sel, hk⟩ := getR_good h0
        have hsf : StayF l fp.data.toList excl sel (trimR l sel) := stayF_of hk.selOk HSM.out
        have HAE : Hid (∀ j, j < args.length → argE (args.getD j []) = 0) := Lib.hid (by
          have h := hk.chk
          unfold chkErr at h
          rw [orE_zero, orE_zero, orE_zero] at h
          exact firstE_zero h.2.2.2)
        have HPIN : Hid (∀ s ∈ args, contains (argP s) dots = false → (verErr (argQ s) = 0 ∨ argQ s = noneS) → (argQ s = noneS → findI (hasP (argP s)) sel < 0) ∧ (argQ s ≠ noneS → 0 ≤ findI (hasP (argP s)) sel ∧ (mdAt sel (findI (hasP (argP s)) sel).toNat).2 = argQ s)) := Lib.hid (fun s hs hw hq => hk.pinned hs hw hq)
        rw [hk.is] at hp2 hr2 hx2 hs2 hn1 hn2 hn3
        simp only at hp2 hr2 hx2 hs2 hn1 hn2 hn3
        have HSF := Lib.hid hsf
        generalize trimR l sel = TR at *
        have hpf2 : fp = p2 := (bytes_eq.1 hp2).symm
        subst hpf2
        have hoff : OffOne bx w13 w14 := by rw [← hW14]; exact offOne3 w13 bx _ _ _
        have H14 := Lib.hid (And.intro (hr2.off HFB.out hoff) (And.intro (hx2.off HFB.out hoff) (hs2.off HFB.out hoff)))
        have HO14 := Lib.hid (HO9.out.below (by rw [← hW14]; exact below_set3 HD.out (by rw [HBE.out]; exact Nat.le_refl _) _ _ _ : Below w9.heap.size w9 w14))
        have hz14 : Box3f w14 w.heap.size (.string fp) (.slice ar nr cr) (.slice ax nx cx) := by
          rw [← hW14]
          have hne : w.heap.size ≠ bx := Nat.ne_of_lt HBX.out
          exact ((hz.other hne _).other hne _).other hne _
        have HN3 := Lib.hid hn3
        have HHX := Lib.hid (And.intro hxc hz14)
        have HW14 := Lib.hid hW14
        obtain ⟨a', n', c', LA, ea, hla, -, -, hca⟩ := id HH.out.a
        injection ea with e1 e2 e3
        subst e1
        subst e2
        subst e3
        have HLA : Hid (∀ W, Below w.heap.size w W → ∀ j, j < na → ∃ b o, aa = some ⟨b, o, none⟩ ∧ W.cell? ⟨b, o + j, none⟩ = some (.string (LA j))) := Lib.hid (fun W hW j hj => by obtain ⟨b, o, e, c0⟩ := hca j hj; exact ⟨b, o, e, Below.cell_some hW c0⟩)
        have HNA : Hid (na ≤ 12) := Lib.hid (by have := HAG.out.1; rw [hla, lstF_length] at this; exact this)
        have HLS : Hid (∀ j, j < na → (LA j).data.toList ∈ args ∧ argE (LA j).data.toList = 0 ∧ (LA j).data.toList.length ≤ 80) := Lib.hid (fun j hj => by
          have hg := lstF_get na LA j hj
          rw [← hla] at hg
          have hm := List.mem_of_getElem? hg
          have h1 := HAE.out j (by rw [hla, lstF_length]; exact hj)
          rw [List.getD_eq_getElem?_getD, hg] at h1
          exact ⟨hm, h1, HAG.out.2 _ hm⟩)
        obtain ⟨y0, y1, y2, yf⟩ := id hxc
        obtain ⟨u0, u1, u2, uf⟩ := id hz14
        have hga := fun (s : ByteArray) (W : World) (hb : Below w.heap.size w W) (hs : s.size ≤ 1000000) => getArg_calls ks A HH.out.gk.1.2.1 s W (HH.out.env.below hb) hs
        replace hga := Lib.hid hga
        have HB14 := Lib.hid hB14
        clear h0 hf2 hp2 hr2 hx2 hs2 hn1 hn2 hn3 hk hsf hoff hz14 hxc hca hla hB14 hxb u0 u1 u2 uf hB hz
        go_wp2_with fail
        clear x0 x1 x2 xf y0 y1 y2 yf
        go_loopw [13, 14, 15, 16, 17] (fun i _ _ _ _ wr => ∃ k : Nat, k ≤ na ∧ i = .int .i64 k ∧ Below w14.heap.size w14 wr) (fun i _ _ _ _ _ => na - (intOf i).toNat)
        case atStart => exact ⟨0, Nat.zero_le _, rfl, Below.refl _ _⟩
        case round =>
          clear hW14
          have hna12 : na ≤ 12 := HNA.out
          obtain ⟨k, hk, rfl, hBr⟩ := hrel
          by_cases hlt : k < na
          · have hkn : (k : Int) < (na : Int) := by omega
            have hBw := below_step HB14.out hBr
            obtain ⟨b1, o1, ea, c0⟩ := HLA.out wr hBw k hlt
            have HLK := Lib.hid (HLS.out k hlt)
            have hg := hga.out (LA k) wr hBw (by rw [size_eq]; have := HLK.out.2.2; omega)
            have hPK := HPIN.out _ HLK.out.1
            subst ea
            generalize LA k = s at c0 hg hPK HLK
            have HPK := Lib.hid hPK
            replace hg := Lib.hid hg
            clear hBw hPK
            go_wp2_with fail
            refine hg.out.mono ?_
            rintro e w15 ⟨⟨p, q, he, hpq, -⟩, hb⟩
            have he' : e = .returned (.tuple #[.string p, .string q, .nilIface]) := by rw [he, HLK.out.2.1]; rfl
            clear he
            subst he'
            obtain ⟨hp1, hq1⟩ := hpq HLK.out.2.1
            replace hBr := below_step hBr hb
            have hBw := below_step HB14.out hBr
            have hpl : p.size ≤ 1000000 := by rw [size_eq, hp1]; exact argP_len (by have := HLK.out.2.2; omega)
            have hql : q.size ≤ 1000000 := by rw [size_eq, hq1]; exact argQ_len (by have := HLK.out.2.2; omega)
            have hPK := HPK.out
            rw [← hp1, ← hq1] at hPK
            have hwi := wild_calls p w15 (HH.out.env.below hBw).m (by omega)
            have hvc := verCheck_calls ks A q w15 (HH.out.env.below hBw) (by omega)
            have hfp := findPath_calls (.slice as2 ns2 cs2) sel p w15 (H14.out.2.2.below hBr)
            have hfp2 : ∀ W, Below w15.heap.size w15 W → Calls Tryz.prog 18 #[.slice as2 ns2 cs2, .string p] W fun e w' => e = .returned (.int .i64 (findI (hasP p.data.toList) sel)) ∧ W = w' := fun W hW => findPath_calls (.slice as2 ns2 cs2) sel p W ((H14.out.2.2.below hBr).below hW)
            clear hfp
            replace HPK := Lib.hid hPK
            replace hwi := Lib.hid hwi
            replace hvc := Lib.hid hvc
            replace hfp2 := Lib.hid hfp2
            clear hb hg hpq hp1 hq1 hBw c0 hPK hpl hql
            cases hcw : contains p.data.toList dots with
            | true =>
              rw [hcw] at hwi
              clear hcw
              go_wp2_with fail
              refine hwi.out.mono ?_
              rintro e w' ⟨rfl, rfl⟩
              clear hwi
              go_wp2_with fail
              go_roundw
              case rel => exact ⟨k + 1, by omega, by go_num, hBr⟩
              case measure => simp [intOf]; omega
            | false =>
              rw [hcw] at hwi
              have HPK2 := Lib.hid (HPK.out hcw)
              clear hcw HPK
              have hn0 := noneB_is q
              have HNB : Hid (noneB q = true ↔ q.data.toList = noneS) := Lib.hid (by unfold noneB; exact decide_eq_true_iff)
              obtain ⟨NB, hNB⟩ : ∃ x, noneB q = x := ⟨_, rfl⟩
              rw [hNB] at hn0
              have HNB2 : Hid (NB = true ↔ q.data.toList = noneS) := Lib.hid (by rw [← hNB]; exact HNB.out)
              clear HNB hNB
              have HVV : Hid (verErr q.data.toList = 0 ∨ NB = true → (NB = true → findI (hasP p.data.toList) sel < 0) ∧ (NB = false → 0 ≤ findI (hasP p.data.toList) sel ∧ (mdAt sel (findI (hasP p.data.toList) sel).toNat).2 = q.data.toList)) := Lib.hid (fun h => by
                have h1 := HPK2.out (h.imp_right HNB2.out.1)
                refine ⟨fun e => h1.1 (HNB2.out.1 e), fun e => h1.2 fun e2 => ?_⟩
                rw [HNB2.out.2 e2] at e
                cases e)
              clear HPK2 HNB2
              obtain ⟨fi, hfi⟩ : ∃ x, findI (hasP p.data.toList) sel = x := ⟨_, rfl⟩
              rw [hfi] at HVV hfp2
              have HFI := Lib.hid hfi
              obtain ⟨VE, hVE⟩ : ∃ x, verErr q.data.toList = x := ⟨_, rfl⟩
              rw [hVE] at hvc HVV
              clear hfi hVE
              have hq' := hn0.symm
              clear hn0
              cases NB with
              | true =>
                have hq'' : (q.toList != [110, 111, 110, 101]) = false := by rw [bne, hq']; rfl
                have hneg : fi < 0 := (HVV.out (.inr rfl)).1 rfl
                have hn2 : ¬ (0 : Int) ≤ fi := by omega
                cases VE with
                | zero =>
                  go_wp2_with fail
                  refine hwi.out.mono ?_
                  rintro e w' ⟨rfl, rfl⟩
                  clear hwi
                  go_wp2_with fail
                  refine hvc.out.mono ?_
                  rintro e w16 ⟨he, hb⟩
                  have he' : e = .returned .nilIface := he
                  clear he
                  subst he'
                  replace hBr := below_step hBr hb
                  have hfp := hfp2.out w16 hb
                  replace hfp := Lib.hid hfp
                  clear hb hvc hfp2
                  go_wp2_with fail
                  refine hfp.out.mono ?_
                  rintro e w' ⟨rfl, rfl⟩
                  clear hfp
                  go_wp2_with fail
                  go_roundw
                  case rel => exact ⟨k + 1, by omega, by go_num, hBr⟩
                  case measure => simp [intOf]; omega
                | succ m =>
                  go_wp2_with fail
                  refine hwi.out.mono ?_
                  rintro e w' ⟨rfl, rfl⟩
                  clear hwi
                  go_wp2_with fail
                  refine hvc.out.mono ?_
                  rintro e w16 ⟨he, hb⟩
                  rw [errV_pos A (Nat.succ_ne_zero m)] at he
                  subst he
                  replace hBr := below_step hBr hb
                  have hfp := hfp2.out w16 hb
                  replace hfp := Lib.hid hfp
                  clear hb hvc hfp2
                  go_wp2_with fail
                  refine hfp.out.mono ?_
                  rintro e w' ⟨rfl, rfl⟩
                  clear hfp
                  go_wp2_with fail
                  go_roundw
                  case rel => exact ⟨k + 1, by omega, by go_num, hBr⟩
                  case measure => simp [intOf]; omega
              | false =>
                have hq'' : (q.toList != [110, 111, 110, 101]) = true := by rw [bne, hq']; rfl
                cases VE with
                | zero =>
                  obtain ⟨hpos, hat⟩ := (HVV.out (.inl rfl)).2 rfl
                  obtain ⟨j, rfl⟩ : ∃ j : Nat, fi = j := ⟨fi.toNat, by omega⟩
                  obtain ⟨x, hx, -⟩ := findI_spec HFI.out
                  obtain ⟨a7', n7', c7', Q7, U7, ea7, hs7, hc7⟩ := mods_cellsS H14.out.2.2
                  injection ea7 with e1 e2 e3
                  subst e1
                  subst e2
                  subst e3
                  have hjl : j < ns2 := by have := (List.getElem?_eq_some_iff.1 hx).1; rw [hs7, mdF_length] at this; exact this
                  rw [Int.toNat_natCast, hs7, mdAt_mdF hjl] at hat
                  have huq : U7 j = q := bytes_eq.1 hat
                  go_wp2_with fail
                  refine hwi.out.mono ?_
                  rintro e w' ⟨rfl, rfl⟩
                  clear hwi
                  go_wp2_with fail
                  refine hvc.out.mono ?_
                  rintro e w16 ⟨he, hb⟩
                  have he' : e = .returned .nilIface := he
                  clear he
                  subst he'
                  replace hBr := below_step hBr hb
                  have hfp := hfp2.out w16 hb
                  obtain ⟨bs, os, ea8, d0, d1⟩ := hc7 w16 hBr j hjl
                  rw [huq] at d1
                  subst ea8
                  have hj0 : (0 : Int) ≤ (j : Int) := by omega
                  have hj1 : ¬ (j : Int) < 0 := by omega
                  have hjn : (j : Int) < (ns2 : Int) := by omega
                  replace hfp := Lib.hid hfp
                  clear hb hvc hfp2 hs7 hc7 hat huq hx hpos d0
                  go_wp2_with fail
                  refine hfp.out.mono ?_
                  rintro e w' ⟨rfl, rfl⟩
                  clear hfp
                  go_wp2_with fail
                  go_roundw
                  case rel => exact ⟨k + 1, by omega, by go_num, hBr⟩
                  case measure => simp [intOf]; omega
                | succ m =>
                  go_wp2_with fail
                  refine hwi.out.mono ?_
                  rintro e w' ⟨rfl, rfl⟩
                  clear hwi
                  go_wp2_with fail
                  refine hvc.out.mono ?_
                  rintro e w16 ⟨he, hb⟩
                  rw [errV_pos A (Nat.succ_ne_zero m)] at he
                  subst he
                  replace hBr := below_step hBr hb
                  clear hb hvc hfp2
                  go_wp2_with fail
                  go_roundw
                  case rel => exact ⟨k + 1, by omega, by go_num, hBr⟩
                  case measure => simp [intOf]; omega
          · obtain rfl : k = na := by omega
            have hnk : ¬ (k : Int) < (k : Int) := by omega
            have hB := below_step HB14.out hBr
            have HO := Lib.hid (HO14.out.below hBr)
            have H15 := Lib.hid (And.intro (H14.out.1.below hBr) (And.intro (H14.out.2.1.below hBr) (H14.out.2.2.below hBr)))
            have hxb := HHX.out.1.below hBr
            have hz := HHX.out.2.below hBr
            obtain ⟨y0, y1, y2, yf⟩ := id hxb
            obtain ⟨u0, u1, u2, uf⟩ := id hz
            have hbu2 := mvsBuild_at ks A HH.out.gk.1 ov l (.slice ar2 nr2 cr2) TR wr (HH.out.env.below hB) HO.out HSL.out H15.out.1 (by have := HSF.out.few; omega)
            rw [HSF.out.st, HSF.out.bd] at hbu2
            replace hbu2 := Lib.hid hbu2
            clear hlt hk hBr HB14 HO14 H14 HHX HLA HLS HPIN HAE hga
            go_wp2_with fail
            refine hbu2.out.mono ?_
            rintro e w18 ⟨⟨x18, ev18, rfl, hf18, hx18⟩, hb⟩
            obtain rfl : ev18 = .nilIface := by
              rcases fault_form hf18 with ⟨_, h⟩ | ⟨h, _⟩
              · exact h
              · exact absurd rfl h
            obtain ⟨a18, n18, c18, _, _, rfl, -⟩ := id hx18
            replace hB := below_step hB hb
            replace hxb := hxb.below hb
            replace hz := hz.below hb
            replace HO := Lib.hid (HO.out.below hb)
            replace H15 := Lib.hid (And.intro (H15.out.1.below hb) (And.intro (H15.out.2.1.below hb) (H15.out.2.2.below hb)))
            clear hb y0 y1 y2 yf u0 u1 u2 uf
            obtain ⟨y0, y1, y2, yf⟩ := id hxb
            obtain ⟨u0, u1, u2, uf⟩ := id hz
            have hsm2 := sameMods_calls _ _ _ _ w18 hx18 H15.out.2.2
            simp only [decide_true] at hsm2
            replace hsm2 := Lib.hid hsm2
            clear hbu2 hf18 hx18
            go_wp2_with fail
            refine hsm2.out.mono ?_
            rintro e w19 ⟨rfl, hb⟩
            replace hB := below_step hB hb
            replace hxb := hxb.below hb
            replace hz := hz.below hb
            replace HO := Lib.hid (HO.out.below hb)
            replace H15 := Lib.hid (And.intro (H15.out.1.below hb) (And.intro (H15.out.2.1.below hb) (H15.out.2.2.below hb)))
            clear hb y0 y1 y2 yf u0 u1 u2 uf
            obtain ⟨y0, y1, y2, yf⟩ := id hxb
            obtain ⟨u0, u1, u2, uf⟩ := id hz
            have hsm3 := sameMods_calls _ _ _ _ w19 H15.out.2.1 (HH.out.x.below hB)
            simp only [decide_true] at hsm3
            replace hsm3 := Lib.hid hsm3
            clear hsm2
            go_wp2_with fail
            refine hsm3.out.mono ?_
            rintro e w20 ⟨rfl, hb⟩
            replace hB := below_step hB hb
            replace hxb := hxb.below hb
            replace hz := hz.below hb
            replace HO := Lib.hid (HO.out.below hb)
            replace H15 := Lib.hid (And.intro (H15.out.1.below hb) (And.intro (H15.out.2.1.below hb) (H15.out.2.2.below hb)))
            clear hb y0 y1 y2 yf u0 u1 u2 uf
            obtain ⟨y0, y1, y2, yf⟩ := id hxb
            obtain ⟨u0, u1, u2, uf⟩ := id hz
            have hfc := fileCheck_calls ks A HH.out.gk.2.1 fp _ _ TR excl w20 (HH.out.env.below hB) H15.out.1 H15.out.2.1 (by have := HFP.out; omega) HSF.out.shT HSR.out.2
            replace hfc := Lib.hid hfc
            clear hsm3
            go_wp2_with fail
            refine hfc.out.mono ?_
            rintro e w21 ⟨⟨v21, rfl, hf21⟩, hb⟩
            replace hB := below_step hB hb
            replace hxb := hxb.below hb
            replace hz := hz.below hb
            replace HO := Lib.hid (HO.out.below hb)
            replace H15 := Lib.hid (And.intro (H15.out.1.below hb) (And.intro (H15.out.2.1.below hb) (H15.out.2.2.below hb)))
            clear hb y0 y1 y2 yf u0 u1 u2 uf
            obtain ⟨y0, y1, y2, yf⟩ := id hxb
            obtain ⟨u0, u1, u2, uf⟩ := id hz
            clear hfc
            rcases fault_form hf21 with ⟨hz0, rfl⟩ | ⟨hnz, ty21, q21, rfl⟩
            · have HFZ := Lib.hid hz0
              clear hf21 hz0
              by_cases h10 : ns2 ≤ 10
              · have hlz : ¬ (10 : Int) < (ns2 : Int) := by omega
                obtain ⟨a7', n7', c7', Q7, U7, ea7, hs7, hc7⟩ := mods_cellsS H15.out.2.2
                injection ea7 with e1 e2 e3
                subst e1
                subst e2
                subst e3
                have HC7 := Lib.hid hc7
                have HS7 := Lib.hid hs7
                have HQ7 : Hid (∀ j, j < ns2 → (Q7 j).size ≤ 1000000 ∧ (U7 j).size ≤ 1000000) := Lib.hid (by have := HSF.out.shS; rw [hs7] at this; exact (short_F this).2)
                obtain ⟨i0, hi, hz0, hz1, hz2⟩ := info_parts Tryz.infoString
                have hmt := fun (p v : ByteArray) (W : World) (hb : Below w.heap.size w W) (hp : p.size ≤ 1000000000) (hv : v.size ≤ 1000000000) => modText_calls ks A HH.out.gk.1.2.1 p v W (HH.out.env.below hb) hp hv
                replace hmt := Lib.hid hmt
                have HB21 := Lib.hid hB
                have HXB := Lib.hid hxb
                have H10 := Lib.hid h10
                clear hs7 hc7 hB hxb hz y0 y1 y2 yf u0 u1 u2 uf h10
                generalize hwq : wr = wq at *
                clear hwq
                go_wp2_with fail
                go_loopw [19, 20] (fun o i wr => ∃ (k : Nat) (L : List ByteArray), k ≤ ns2 ∧ i = .int .i64 k ∧ Hid (wr.ownsRow w21.heap.size 9 1 o L.length (strVs L)) ∧ Hid (L.length = k) ∧ Hid (strTs L = ((mdF ns2 Q7 U7).take k).map mdText) ∧ Hid (Below w21.heap.size w21 wr)) (fun _ i _ => ns2 - (intOf i).toNat)
                case atStart => exact ⟨0, [], Nat.zero_le _, rfl, Lib.hid (World.ownsRow_nil _ _ _ _), Lib.hid rfl, Lib.hid rfl, Lib.hid (Below.refl _ _)⟩
                case round =>
                  obtain ⟨j, L, hj, rfl, hOw, hLk, hT, hBr⟩ := hrel
                  have h10b : ns2 ≤ 10 := H10.out
                  obtain ⟨ao, no, co, rfl⟩ := own_form hOw.out
                  by_cases hlj : j < ns2
                  · have hjn : (j : Int) < (ns2 : Int) := by omega
                    obtain ⟨bs, os, ea8, d0, d1⟩ := HC7.out wr hBr.out j hlj
                    subst ea8
                    have hm := hmt.out (Q7 j) (U7 j) wr (below_step HB21.out hBr.out) (by have := HQ7.out j hlj; omega) (by have := HQ7.out j hlj; omega)
                    obtain ⟨sb, hsb⟩ : ∃ x : ByteArray, (⟨(modText (Q7 j).data.toList (U7 j).data.toList).toArray⟩ : ByteArray) = x := ⟨_, rfl⟩
                    rw [hsb] at hm
                    have HN : Hid (strTs (L ++ [sb]) = ((mdF ns2 Q7 U7).take (j + 1)).map mdText) := Lib.hid (by rw [mdF_take_succ ns2 Q7 U7 j hlj, List.map_append, strTs_snoc, hT.out, ← hsb]; rfl)
                    have HLL : Hid (L.length + 1 = j + 1) := Lib.hid (by rw [hLk.out])
                    generalize Q7 j = pj at d0 hm
                    generalize U7 j = vj at d1 hm
                    replace hm := Lib.hid hm
                    clear hT hsb hLk
                    go_wp2_with fail
                    refine hm.out.mono ?_
                    rintro e w22 ⟨rfl, hb⟩
                    have HO2 := Lib.hid (hOw.out.below hb)
                    have HB2 := Lib.hid (below_step hBr.out hb)
                    clear hb hm d0 d1 hOw hBr
                    go_wp2_with (at_builtin; refine wpList_append_own _ rfl _ _ 26 rfl w21.heap.size 9 i0 (.string ⟨#[]⟩) 1 16 Tryz.underlying26 hi hz0 hz1 hz2 rfl (by decide) _ _ _ rfl (HO2.out.alloc _) ⟨w22.heap.size, 0, none⟩ 1 1 [.string sb] rfl rfl (cell_one_new _ _ _) (fun x hx => by simp at hx; subst hx; rfl) (by unfold maxLen; have := HLL.out; have := H10.out; omega) (by have := HLL.out; have := H10.out; omega) (by have := HB2.out.size; simp; omega) ?_; intro o' w4 hown4 hgrow4 _)
                    go_roundw
                    case rel =>
                      refine ⟨j + 1, L ++ [sb], by omega, by go_num, Lib.hid ?_, Lib.hid (by rw [List.length_append, List.length_singleton]; exact HLL.out), HN, Lib.hid ?_⟩
                      · rw [List.length_append, List.length_singleton, ← strVs_snoc]
                        exact hown4
                      · exact (HB2.out.alloc HB2.out.size _).grown hgrow4 (by have := HB2.out.size; simp; omega) (fun q e => (HO2.out.lt q e).1)
                    case measure => simp [intOf]; omega
                  · obtain rfl : j = ns2 := by omega
                    have hnk2 : ¬ (j : Int) < (j : Int) := by omega
                    have HT : Hid (strTs L = sel.map mdText) := Lib.hid (by rw [hT.out, List.take_of_length_le (by rw [mdF_length]; exact Nat.le_refl _), ← HS7.out])
                    have hSA : StrsAt wr (.slice ao no co) (sel.map mdText) := by rw [← HT.out]; exact strsAt_own hOw.out
                    have hBw := below_step HB21.out hBr.out
                    have HM3 := Lib.hid (And.intro (H15.out.1.below hBr.out) (And.intro (H15.out.2.1.below hBr.out) (H15.out.2.2.below hBr.out)))
                    have hg3 := getGet_at ks A HH.out.gk ov l fp (.slice ar2 nr2 cr2) (.slice ax2 nx2 cx2) (.slice ao no co) TR excl (sel.map mdText) wr (HH.out.env.below hBw) (HO.out.below hBr.out) HSL.out HM3.out.1 HM3.out.2.1 (by have := HFP.out; omega) HSF.out.shT HSR.out.2 hSA (fun s hs => by
                      obtain ⟨m, hm, rfl⟩ := List.mem_map.1 hs
                      exact HSF.out.txt m hm)
                    rw [HSF.out.again (by rw [HS7.out, mdF_length]; exact H10.out) HFZ.out] at hg3
                    have hxw := HXB.out.below hBr.out
                    obtain ⟨y0, y1, y2, yf⟩ := id hxw
                    replace hg3 := Lib.hid hg3
                    clear hSA hlj hT hLk hOw hBr hmt HC7 HQ7 H15
                    go_wp2_with fail
                    refine hg3.out.mono ?_
                    rintro e w23 ⟨hans, hb⟩
                    obtain ⟨p4, ar4, nr4, cr4, ax4, nx4, cx4, as4, ns4, cs4, ev4, rfl, hf4, hp4, hr4, hx4, hs4, -, -, -⟩ := hans.ok
                    obtain rfl : ev4 = .nilIface := by
                      rcases fault_form hf4 with ⟨_, h⟩ | ⟨h, _⟩
                      · exact h
                      · exact absurd rfl h
                    have hpe : fp = p4 := (bytes_eq.1 hp4).symm
                    subst hpe
                    simp only at hr4 hx4 hs4
                    have hba := below_alloc w23 (.cells #[.string fp, .slice ar4 nr4 cr4, .slice ax4 nx4 cx4] 25)
                    have hyb := box3f_alloc w23 (.string fp) (.slice ar4 nr4 cr4) (.slice ax4 nx4 cx4) 25
                    have hB24 := below_step (below_step hBw hb) hba
                    replace hxw := (hxw.below hb).below hba
                    have HM4 := Lib.hid (And.intro (hr4.below hba) (And.intro (hx4.below hba) (hs4.below hba)))
                    replace HM3 := Lib.hid (And.intro ((HM3.out.1.below hb).below hba) (And.intro ((HM3.out.2.1.below hb).below hba) ((HM3.out.2.2.below hb).below hba)))
                    obtain ⟨w24, hW24⟩ : ∃ W, w23.alloc (.cells #[.string fp, .slice ar4 nr4 cr4, .slice ax4 nx4 cx4] 25) = W := ⟨_, rfl⟩
                    obtain ⟨byy, hby⟩ : ∃ x, w23.heap.size = x := ⟨_, rfl⟩
                    rw [hW24] at hyb hB24 hxw HM3 HM4
                    rw [hby] at hyb
                    clear y0 y1 y2 yf
                    obtain ⟨y0, y1, y2, yf⟩ := id hxw
                    obtain ⟨v0, v1, v2, vf⟩ := id hyb
                    have hsfc := sameFile_calls fp fp _ _ _ _ _ _ _ _ w24 HM4.out.1 HM4.out.2.1 HM3.out.1 HM3.out.2.1
                    simp only [decide_true, Bool.and_true] at hsfc
                    replace hsfc := Lib.hid hsfc
                    clear hb hba hg3 hans hf4 hp4 hr4 hx4 hs4 hBw
                    go_wp2_with fail
                    refine hsfc.out.mono ?_
                    rintro e w25 ⟨rfl, hb⟩
                    have hB25 := below_step hB24 hb
                    have hsm4 := sameMods_calls _ _ _ _ w25 (HM4.out.2.2.below hb) (HM3.out.2.2.below hb)
                    simp only [decide_true] at hsm4
                    replace hsm4 := Lib.hid hsm4
                    clear hb hsfc y0 y1 y2 yf v0 v1 v2 vf
                    go_wp2_with fail
                    refine hsm4.out.mono ?_
                    rintro e w26 ⟨rfl, hb⟩
                    go_wp2_with fail
                    go_wp2_with fail
                    go_ret
                    exact ⟨rfl, below_step hB25 hb⟩
              · have hlz : (10 : Int) < (ns2 : Int) := by omega
                clear h10
                go_wp2_with fail
                go_wp2_with fail
                go_ret
                exact ⟨rfl, hB⟩
            · have hfp : ∀ W, Below w21.heap.size w21 W → Calls Tryz.prog 18 #[.slice as2 ns2 cs2, .string fp] W fun e w' => e = .returned (.int .i64 (findI (hasP fp.data.toList) sel)) ∧ W = w' := fun W hW => findPath_calls (.slice as2 ns2 cs2) sel fp W (H15.out.2.2.below hW)
              have hge : (0 : Int) ≤ findI (hasP fp.data.toList) sel := HSF.out.file hnz
              generalize findI (hasP fp.data.toList) sel = fi at hge hfp
              have hfp2 := hfp w21 (Below.refl _ _)
              replace hfp2 := Lib.hid hfp2
              clear hf21 hnz hfp
              go_wp2_with fail
              refine hfp2.out.mono ?_
              rintro e w' ⟨rfl, rfl⟩
              go_wp2_with fail
              go_wp2_with fail
              go_ret
              exact ⟨rfl, hB⟩
      · obtain ⟨g1, g2⟩ := getR_bad h0
        rw [g1] at hp2 hn1
        rw [g2] at hn3
        obtain rfl : p2 = ⟨#[]⟩ := bytes_eq.1 hp2
        obtain rfl : nr2 = 0 := hn1
        obtain rfl : ns2 = 0 := hn3
        obtain ⟨v0, v1, v2, vf⟩ := id hxc
        clear h0 hf2 hp2 hr2 hx2 hs2 hn2 g1 g2
        go_wp2_with fail
        go_wp2_with fail
        go_ret
        exact ⟨rfl, hB14⟩
  · clear h0 hf7 hx7
    go_wp2_with fail
    go_wp2_with fail
    go_ret
    exact ⟨rfl, hB⟩
end Go.Proofs.Pw
