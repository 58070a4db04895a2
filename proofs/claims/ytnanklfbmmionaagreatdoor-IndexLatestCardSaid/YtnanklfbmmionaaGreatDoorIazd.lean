/- Ia: walks and plain laws, joined: IdxLast. Conditions: at each theorem. -/
import Derived.Test.YtnanklfbmmionaaGreatDoorIaza
import Derived.Test.YtnanklfbmmionaaGreatDoorIazc

namespace Go.Proofs.Pw
open Go.RowKit
open Go.Lib hiding intOf
theorem StrsAt.cells2 {w : World} {x : Value} {l : List Str} (h : StrsAt w x l) : ∃ a n c L, x = .slice a n c ∧ l = lstF n L ∧ ∀ W, Below w.heap.size w W → ∀ j, j < n → ∃ b o, a = some ⟨b, o, none⟩ ∧ W.cell? ⟨b, o + j, none⟩ = some (.string (L j)) := by
  obtain ⟨a, n, c, L, e1, e2, _, _, h5⟩ := h
  exact ⟨a, n, c, L, e1, e2, fun W hW j hj => let ⟨b, o, e, c0⟩ := h5 j hj; ⟨b, o, e, Below.cell_some hW c0⟩⟩
theorem box4_cell (w : World) (a b c d : Value) (t : TypeId) : (w.alloc (.cells #[a, b, c, d] t)).cell? ⟨w.heap.size, 3, none⟩ = some d := new_cell w [a, b, c, d] t rfl (c := 3) rfl
theorem backB_at {l : List En} {p v : Str} {k : Nat} (h : findE l (p, v) = k) : backB l p v = (enAt l k).back := by
  unfold backB
  rw [h, decide_eq_true (by omega), Bool.true_and]
  rfl
set_option maxHeartbeats 4000000 in
set_option maxRecDepth 100000 in
theorem idxLast_long (ks : List Nat) (A : Nat → Addr) (la : Option Addr) (ln lc : Nat) (P V : Nat → ByteArray) (R : Nat → List Md) (K : Nat → List Str) (Bk : Nat → Bool) (Rv Kv : Nat → Value) (w : World) (H : ItArgs ks A la ln lc P V R K Bk Rv Kv w)
    (hlong : longIdx (enF ln P V R K Bk) = true ∨ (longIdx (enF ln P V R K Bk) = false ∧ 30 < ln)) :
    Calls Tryz.prog 11 #[.slice la ln lc] w fun e w' => e = .returned (.bool true) ∧ Below w.heap.size w w' := by
  have hre := indexed_calls ks A H.idx _ H.env H.envC
  have hlx := fun (W : World) (hb : Below w.heap.size w W) => longIndex_in la ln lc P V R K Bk Rv Kv W (H.l.below hb)
  replace hre := Lib.hid hre
  replace hlx := Lib.hid hlx
  clear H
  rcases hlong with h1 | ⟨h1, h2⟩
  · rw [longII_yes h1] at hlx
    clear h1
    go_enter Tryz.func11, Tryz.ntmps11
    go_wp2_with fail
    refine hre.out.mono ?_
    rintro e w1 ⟨rfl, hB⟩
    go_wp2_with fail
    refine (hlx.out _ hB).mono ?_
    rintro e w' ⟨rfl, rfl⟩
    clear hlx hre
    go_wp2_with fail
    go_ret
    exact ⟨rfl, hB⟩
  · rw [longII_no h1] at hlx
    have h2' : (30 : Int) < (ln : Int) := by omega
    clear h1
    go_enter Tryz.func11, Tryz.ntmps11
    go_wp2_with fail
    refine hre.out.mono ?_
    rintro e w1 ⟨rfl, hB⟩
    go_wp2_with fail
    refine (hlx.out _ hB).mono ?_
    rintro e w' ⟨rfl, rfl⟩
    clear hlx hre
    go_wp2_with fail
    go_ret
    exact ⟨rfl, hB⟩
set_option maxHeartbeats 16000000 in
set_option maxRecDepth 100000 in
theorem idxLast_main (ks : List Nat) (A : Nat → Addr) (la : Option Addr) (ln lc : Nat) (P V : Nat → ByteArray) (R : Nat → List Md) (K : Nat → List Str) (Bk : Nat → Bool) (Rv Kv : Nat → Value) (w : World) (H : ItArgs ks A la ln lc P V R K Bk Rv Kv w)
    (h1 : longIdx (enF ln P V R K Bk) = false) (h2 : ln ≤ 30) :
    Calls Tryz.prog 11 #[.slice la ln lc] w fun e w' => e = .returned (.bool true) ∧ Below w.heap.size w w' := by
  have hre := indexed_calls ks A H.idx _ H.env H.envC
  have hlx := fun (W : World) (hb : Below w.heap.size w W) => longIndex_in la ln lc P V R K Bk Rv Kv W (H.l.below hb)
  have hsi := longIdx_short h1
  have hsm := longIdx_small h1
  have h2' : ¬ (30 : Int) < (ln : Int) := by omega
  have HH := Lib.hid H
  have how := fun (W : World) (hb : Below w.heap.size w W) => ownIndex_calls (.slice la ln lc) (enF ln P V R K Bk) W ⟨la, ln, lc, P, V, R, K, Bk, Rv, Kv, rfl, rfl, HH.out.l.below hb⟩ (by have := hsm.1; omega) (fun e he => by
    have h4 := longEn_small (hsm.2 e he)
    have h5 := longMods_small h4.2.2.1
    exact ⟨by omega, by omega⟩)
  have hE := fun (W : World) (hb : Below w.heap.size w W) => HH.out.env.below hb
  rw [longII_no h1] at hlx
  have HSI := Lib.hid hsi
  have HI := Lib.hid HH.out.idx
  replace hre := Lib.hid hre
  replace hlx := Lib.hid hlx
  replace how := Lib.hid how
  replace hE := Lib.hid hE
  clear h1 hsi hsm H
  go_enter Tryz.func11, Tryz.ntmps11
  go_wp2_with fail
  refine hre.out.mono ?_
  rintro e w1 ⟨rfl, hB⟩
  go_wp2_with fail
  refine (hlx.out _ hB).mono ?_
  rintro e w' ⟨rfl, rfl⟩
  clear hlx hre
  clear h2'
  go_wp2_with fail
  refine (how.out _ hB).mono ?_
  rintro e w2 ⟨⟨ov, rfl, hOE⟩, hb⟩
  replace hB := below_step hB hb
  obtain ⟨oa, on, oc, P', V', R', K', B', Rv', Kv', rfl, hOl, hO⟩ := hOE
  obtain rfl : ln = on := by have := congrArg List.length hOl; rwa [enF_length, enF_length] at this
  rw [hOl] at HSI
  have HO := Lib.hid hO
  clear hO hb how hOl HH
  have hck := idxCheck_in ks A HI.out oa ln oc P' V' R' K' B' Rv' Kv' w2 (hE.out _ hB) HO.out HSI.out
  have hE2 := fun W (hc : Below w2.heap.size w2 W) => hE.out W (below_step hB hc)
  have hpa := fun W hc => idxPaths_in oa ln oc P' V' R' K' B' Rv' Kv' W (HO.out.below hc) HSI.out
  have hvs := fun (s : ByteArray) W hc => idxVersions_in ks A oa ln oc P' V' R' K' B' Rv' Kv' s W (hE2 W hc) (HO.out.below hc) HSI.out
  have hla := fun (s : ByteArray) W hc => idxLatest_in ks A oa ln oc P' V' R' K' B' Rv' Kv' s W (hE2 W hc) (HO.out.below hc) HSI.out
  have hfi := fun (p v : ByteArray) W hc => idxFind_in oa ln oc P' V' R' K' B' Rv' Kv' p v W (HO.out.below hc) (by omega)
  have hsp := fun (s : ByteArray) (hs : s.size ≤ 1000000000) W hc => verSplit_calls ks A s W (hE2 W hc) hs
  have hle := fun (s t : ByteArray) (hs : s.size ≤ 1000000000) (ht : t.size ≤ 1000000000) W hc => verLess_calls ks A s t W (hE2 W hc) hs ht
  obtain ⟨l, hl⟩ : ∃ l, enF ln P' V' R' K' B' = l := ⟨_, rfl⟩
  have HLN : Hid (l.length = ln) := Lib.hid (by rw [← hl, enF_length])
  have HBK : Hid (∀ j, j < ln → (enAt l j).back = B' j) := Lib.hid (fun j hj => by rw [← hl, enAt_enF hj])
  simp only [hl] at hck hpa hvs hla hfi HSI
  replace hck := Lib.hid hck
  replace hpa := Lib.hid hpa
  replace hvs := Lib.hid hvs
  replace hla := Lib.hid hla
  replace hfi := Lib.hid hfi
  replace hsp := Lib.hid hsp
  replace hle := Lib.hid hle
  clear hl hE2
  go_wp2_with fail
  refine hck.out.mono ?_
  rintro e w3 ⟨⟨ev3, rfl, hf3⟩, hb⟩
  have hC := hb
  clear hb hck
  rcases fault_form hf3 with ⟨h0, rfl⟩ | ⟨h0, ty, q, rfl⟩
  · have HR := Lib.hid (rightI_of h0)
    clear hf3 h0
    go_wp2_with fail
    refine (hpa.out _ hC).mono ?_
    rintro e w5 ⟨⟨v5, rfl, hs5⟩, hb⟩
    replace hC := below_step hC hb
    obtain ⟨a5, m5, c5, L5, rfl, e5, hc5⟩ := hs5.cells2
    have HP := Lib.hid e5
    have hm5 : m5 ≤ 30 := by
      have h3 := pathsL_len (l.map (·.md.1))
      rw [e5, lstF_length, List.length_map, HLN.out] at h3
      omega
    have hsum := sumV_paths l
    rw [e5, HLN.out] at hsum
    have HSUM := Lib.hid hsum
    replace hc5 := Lib.hid hc5
    clear hs5 e5 hb hpa hsum
    go_wp2_with fail
    go_loopw [6, 7, 8, 9, 10, 11, 12, 13, 14, 15, 16, 17, 18] (fun m i _ _ _ _ _ _ _ _ _ _ _ wr => ∃ (k : Nat), k ≤ m5 ∧ i = .int .i64 k ∧ m = .int .i64 (sumV l ((lstF m5 L5).take k) : Nat) ∧ Below w5.heap.size w5 wr) (fun _ i _ _ _ _ _ _ _ _ _ _ _ _ => m5 - (intOf i).toNat)
    case atStart => exact ⟨0, Nat.zero_le _, rfl, rfl, Below.refl _ _⟩
    case round =>
      obtain ⟨k, hk, rfl, rfl, hBr⟩ := hrel
      have hCr := below_step hC hBr
      by_cases hlt : k < m5
      · have hkn : (k : Int) < (m5 : Int) := by omega
        obtain ⟨b1, o1, ea, d0⟩ := hc5.out wr hBr k hlt
        subst ea
        have hpm : (L5 k).data.toList ∈ pathsL (l.map (·.md.1)) := by rw [HP.out]; exact List.mem_of_getElem? (lstF_get m5 L5 k hlt)
        obtain ⟨e0, he0, he1⟩ := List.mem_map.1 ((pathsL_mem _ _).1 hpm)
        obtain ⟨e2, he2, he3⟩ := latest_in HR.out (m := e0.md) he0 rfl
        rw [he1] at he3
        obtain ⟨hx1, hx2, hx3⟩ := HR.out.at_ he2 he3
        rw [HLN.out] at hx1
        have hTE : verErr (latestL l (L5 k).data.toList) = 0 := by
          have := (modErr_zero (HR.out.mds e2 he2)).2
          rw [he3] at this
          exact this
        have hTS : (latestL l (L5 k).data.toList).length ≤ 1000000 := by
          have := (HSI.out.mds e2 he2).2
          rw [he3] at this
          exact this
        have hv8 := hvs.out (L5 k) wr hCr
        have hla9 := hla.out (L5 k)
        have hVS : ∀ v ∈ vsort (versL l (L5 k).data.toList), verErr v = 0 ∧ v.length ≤ 1000000 ∧ ∃ e ∈ l, e.md = ((L5 k).data.toList, v) := fun v hv => by
          obtain ⟨h3, h4⟩ := (vsort_mem _ _).1 hv
          obtain ⟨e, he, h5⟩ := versL_mem.1 h3
          have := (HSI.out.mds e he).2
          rw [h5] at this
          exact ⟨h4, this, e, he, h5⟩
        have hstep : sumV l ((lstF m5 L5).take (k + 1)) = sumV l ((lstF m5 L5).take k) + (vsort (versL l (L5 k).data.toList)).length := by
          rw [List.take_add_one, lstF_get m5 L5 k hlt, sumV_app, vsort_versL HR.out]
          simp [sumV]
        have hsl := sumV_take l (lstF m5 L5) (k + 1)
        rw [HSUM.out] at hsl
        have htop := fun v (hv : v ∈ vsort (versL l (L5 k).data.toList)) => top_best (l := l) (p := (L5 k).data.toList) hv
        obtain ⟨T, hT⟩ : ∃ T : ByteArray, T = ⟨(latestL l (L5 k).data.toList).toArray⟩ := ⟨_, rfl⟩
        have hTl : latestL l (L5 k).data.toList = T.data.toList := by rw [hT]
        rw [← hT] at hla9
        rw [hTl] at hx1 hx2 hTE hTS
        simp only [hTl] at htop
        have hbT := backB_at hx2
        rw [HBK.out _ hx1] at hbT
        rw [hbT] at htop
        have hfT := hfi.out (L5 k) T
        rw [hx2] at hfT
        generalize (findE l ((L5 k).data.toList, T.data.toList)).toNat = x at *
        have hxn : (x : Int) < (ln : Int) := by omega
        have hx0 : ¬ (x : Int) < 0 := by omega
        have hspT := hsp.out T (by rw [size_eq]; omega)
        rw [hTE, errV_zero] at hspT
        have HTS : Hid (T.size ≤ 1000000) := Lib.hid (by rw [size_eq]; exact hTS)
        have HTOP := Lib.hid htop
        have HVS := Lib.hid hVS
        have HST := Lib.hid hstep
        have HSL := Lib.hid hsl
        replace hv8 := Lib.hid hv8
        replace hla9 := Lib.hid hla9
        replace hfT := Lib.hid hfT
        replace hspT := Lib.hid hspT
        clear hpm he0 he1 he2 he3 hx2 hx3 hTE hTS hT hTl hbT htop hVS hstep hsl
        go_wp2_with fail
        refine hv8.out.mono ?_
        rintro e w8 ⟨⟨v8, rfl, hs8⟩, hb⟩
        replace hBr := below_step hBr hb
        replace hCr := below_step hCr hb
        replace d0 := Below.cell_some hb d0
        obtain ⟨a8, m8, c8, L8, rfl, e8, hc8⟩ := hs8.cells2
        have hm8 : (vsort (versL l (L5 k).data.toList)).length = m8 := by rw [e8, lstF_length]
        have hsl := HSL.out
        rw [HST.out, hm8] at hsl
        have HST8 : Hid (sumV l ((lstF m5 L5).take (k + 1)) = sumV l ((lstF m5 L5).take k) + m8) := Lib.hid (by rw [HST.out, hm8])
        have H8 := Lib.hid e8
        replace hc8 := Lib.hid hc8
        clear hb hv8 hs8 e8 hm8 HST HSL
        go_wp2_with fail
        refine (hla9.out _ hCr).mono ?_
        rintro e w9 ⟨rfl, hb⟩
        replace hBr := below_step hBr hb
        replace hCr := below_step hCr hb
        replace d0 := Below.cell_some hb d0
        have hD := hb
        clear hb hla9
        go_wp2_with fail
        refine (hfT.out _ hCr).mono ?_
        rintro e w10 ⟨rfl, hb⟩
        replace hBr := below_step hBr hb
        replace hCr := below_step hCr hb
        replace hD := below_step hD hb
        clear hb hfT d0
        go_wp2_with fail
        refine (hspT.out _ hCr).mono ?_
        rintro e w11 ⟨hb, v11, rfl, hs11⟩
        obtain ⟨a11, m11, c11, _, e11, e12, _⟩ := hs11.cells2
        subst e11
        have HT11 : Hid ((verPre T.data.toList).length = m11) := Lib.hid (by rw [e12, lstF_length])
        generalize verNum T.data.toList 0 = N0
        generalize verNum T.data.toList 1 = N1
        generalize verNum T.data.toList 2 = N2
        have hba := below_alloc w11 (.cells #[.int .i64 (N0 : Nat), .int .i64 (N1 : Nat), .int .i64 (N2 : Nat), .slice a11 m11 c11] 101)
        have z3 := box4_cell w11 (.int .i64 (N0 : Nat)) (.int .i64 (N1 : Nat)) (.int .i64 (N2 : Nat)) (.slice a11 m11 c11) 101
        replace hb := below_step hb hba
        replace hBr := below_step hBr hb
        replace hCr := below_step hCr hb
        replace hD := below_step hD hb
        have HZ3 := Lib.hid z3
        clear hb hba hs11 e12 z3 hspT
        go_wp2_with fail
        generalize w11.alloc (.cells #[.int .i64 (N0 : Nat), .int .i64 (N1 : Nat), .int .i64 (N2 : Nat), .slice a11 m11 c11] 101) = w12 at *
        generalize w11.heap.size = bt at *
        go_loopw [13, 14, 15, 16, 17, 18] (fun i _ _ _ _ _ wq => ∃ (q : Nat), q ≤ m8 ∧ i = .int .i64 q ∧ Below w12.heap.size w12 wq) (fun i _ _ _ _ _ _ => m8 - (intOf i).toNat)
        case atStart => exact ⟨0, Nat.zero_le _, rfl, Below.refl _ _⟩
        case round =>
          obtain ⟨q, hq, rfl, hBq⟩ := hrel
          by_cases hlq : q < m8
          · have hqn : (q : Int) < (m8 : Int) := by omega
            obtain ⟨b8, o8, e8, d1⟩ := hc8.out wr (below_step hD hBq) q hlq
            obtain ⟨b1', o1', ea, d0⟩ := hc5.out wr (below_step hBr hBq) k hlt
            injection ea with ea
            injection ea with ea1 ea2
            subst ea1 ea2
            subst e8
            have hvm : (L8 q).data.toList ∈ vsort (versL l (L5 k).data.toList) := by rw [H8.out]; exact List.mem_of_getElem? (lstF_get m8 L8 q hlq)
            obtain ⟨hv1, hv2, e0, he0, he1⟩ := HVS.out _ hvm
            obtain ⟨hy1, hy2, _⟩ := HR.out.at_ he0 he1
            rw [HLN.out] at hy1
            have hbV := backB_at hy2
            rw [HBK.out _ hy1] at hbV
            have htop := HTOP.out _ hvm
            rw [hbV] at htop
            have hfV := fun W hc => hfi.out (L5 k) (L8 q) W hc
            rw [hy2] at hfV
            generalize (findE l ((L5 k).data.toList, (L8 q).data.toList)).toNat = y at *
            have hyn : (y : Int) < (ln : Int) := by omega
            have hy0 : ¬ (y : Int) < 0 := by omega
            have hVs : (L8 q).size ≤ 1000000 := by rw [size_eq]; exact hv2
            have hspV := hsp.out (L8 q) (by omega)
            rw [hv1, errV_zero] at hspV
            have hlT := hle.out T (L8 q) (by have := HTS.out; omega) (by omega)
            have kC := Lib.hid (fun d os => below_step (below_step hCr hBq) (below_patch wr d os))
            have HTOPV := Lib.hid htop
            replace hfV := Lib.hid hfV
            replace hspV := Lib.hid hspV
            replace hlT := Lib.hid hlT
            clear hvm hv1 hv2 he0 he1 hy2 hbV htop
            go_wp2_with fail
            have kqd0 := fun d os => cell_patch (d := d) (os := os) d0
            have kqd1 := fun d os => cell_patch (d := d) (os := os) d1
            refine wp_region_quiet_patch (by kernel_rfl) (by kernel_rfl) ?_
            repeat (go_big_quiet_step ((go_at_call 61; exact Calls.patch_of (hfV.out _ (kC.out _ _)))))
            refine wpQuiet_nil ?_
            intro _ hw'
            obtain ⟨⟨dq, osq⟩, hw''⟩ := hw'
            subst hw''
            clear kqd0 kqd1
            have hb := below_patch wr dq osq
            replace hBq := below_step hBq hb
            replace d1 := Below.cell_some hb d1
            clear hb
            generalize patch wr dq osq = wq1 at hBq d1 ⊢
            clear d0 kC hfV
            go_wp2_with fail
            refine (hspV.out _ (below_step hCr hBq)).mono ?_
            rintro e w13 ⟨hb, v13, rfl, hs13⟩
            obtain ⟨a13, m13, c13, _, e13, e14, _⟩ := hs13.cells2
            subst e13
            have HV13 : Hid ((verPre (L8 q).data.toList).length = m13) := Lib.hid (by rw [e14, lstF_length])
            generalize verNum (L8 q).data.toList 0 = M0
            generalize verNum (L8 q).data.toList 1 = M1
            generalize verNum (L8 q).data.toList 2 = M2
            have hba := below_alloc w13 (.cells #[.int .i64 (M0 : Nat), .int .i64 (M1 : Nat), .int .i64 (M2 : Nat), .slice a13 m13 c13] 101)
            have y3 := box4_cell w13 (.int .i64 (M0 : Nat)) (.int .i64 (M1 : Nat)) (.int .i64 (M2 : Nat)) (.slice a13 m13 c13) 101
            replace hb := below_step hb hba
            replace hBq := below_step hBq hb
            replace d1 := Below.cell_some hb d1
            obtain ⟨w14, hW⟩ : ∃ W, w13.alloc (.cells #[.int .i64 (M0 : Nat), .int .i64 (M1 : Nat), .int .i64 (M2 : Nat), .slice a13 m13 c13] 101) = W := ⟨_, rfl⟩
            rw [hW] at y3 hBq d1
            have z3 := Below.cell_some hBq HZ3.out
            have hOw := HO.out.below (below_step hCr hBq)
            obtain ⟨bo, oo, eo, hcx⟩ := hOw.at_ x hx1
            obtain ⟨bo', oo', eo', hcy⟩ := hOw.at_ y hy1
            rw [eo] at eo'
            injection eo' with eo'
            injection eo' with eo1 eo2
            subst eo1 eo2
            have c4 := hcx.c4
            have g4 := hcy.c4
            have hfin : (B' y = false ∨ B' x = true) → (m13 = 0 ∨ 0 < m11 ∨ B' x = true) → verLess T.data.toList (L8 q).data.toList = false := fun h3 h4 => HTOPV.out h3 (by rw [HV13.out, HT11.out]; exact h4)
            have hlT2 := hlT.out w14 (below_step hCr hBq)
            generalize verLess T.data.toList (L8 q).data.toList = D at hfin hlT2
            have HFIN := Lib.hid hfin
            subst eo
            replace hlT2 := Lib.hid hlT2
            clear hb hba hs13 e14 hspV hOw hcx hcy hfin hlT HTOPV
            generalize B' x = X at c4 HFIN
            generalize B' y = Y at g4 HFIN
            by_cases h13 : m13 = 0
            · subst h13
              cases X <;> cases Y
              · skip
                obtain rfl := HFIN.out (by simp) (by simp)
                clear HFIN
                go_wp2_with fail
                refine hlT2.out.mono ?_
                rintro e w15 ⟨rfl, hb⟩
                replace hBq := below_step hBq hb
                clear hb hlT2
                go_wp2_with fail
                go_roundw
                case rel => exact ⟨q + 1, by omega, by go_num, hBq⟩
                case measure => simp [intOf]; omega
              · skip
                clear HFIN
                go_wp2_with fail
                go_roundw
                case rel => exact ⟨q + 1, by omega, by go_num, hBq⟩
                case measure => simp [intOf]; omega
              · skip
                obtain rfl := HFIN.out (by simp) (by simp)
                clear HFIN
                go_wp2_with fail
                refine hlT2.out.mono ?_
                rintro e w15 ⟨rfl, hb⟩
                replace hBq := below_step hBq hb
                clear hb hlT2
                go_wp2_with fail
                go_roundw
                case rel => exact ⟨q + 1, by omega, by go_num, hBq⟩
                case measure => simp [intOf]; omega
              · skip
                obtain rfl := HFIN.out (by simp) (by simp)
                clear HFIN
                go_wp2_with fail
                refine hlT2.out.mono ?_
                rintro e w15 ⟨rfl, hb⟩
                replace hBq := below_step hBq hb
                clear hb hlT2
                go_wp2_with fail
                go_roundw
                case rel => exact ⟨q + 1, by omega, by go_num, hBq⟩
                case measure => simp [intOf]; omega
            · have hc8 : ((m13 : Int) == 0) = false := beq_eq_false_iff_ne.2 (by omega)
              by_cases h11 : m11 = 0
              · subst h11
                cases X <;> cases Y
                · replace h13 := Lib.hid h13
                  clear HFIN
                  go_wp2_with fail
                  go_roundw
                  case rel => exact ⟨q + 1, by omega, by go_num, hBq⟩
                  case measure => simp [intOf]; omega
                · replace h13 := Lib.hid h13
                  clear HFIN
                  go_wp2_with fail
                  go_roundw
                  case rel => exact ⟨q + 1, by omega, by go_num, hBq⟩
                  case measure => simp [intOf]; omega
                · replace h13 := Lib.hid h13
                  obtain rfl := HFIN.out (by simp) (by simp)
                  clear HFIN
                  go_wp2_with fail
                  refine hlT2.out.mono ?_
                  rintro e w15 ⟨rfl, hb⟩
                  replace hBq := below_step hBq hb
                  clear hb hlT2
                  go_wp2_with fail
                  go_roundw
                  case rel => exact ⟨q + 1, by omega, by go_num, hBq⟩
                  case measure => simp [intOf]; omega
                · replace h13 := Lib.hid h13
                  obtain rfl := HFIN.out (by simp) (by simp)
                  clear HFIN
                  go_wp2_with fail
                  refine hlT2.out.mono ?_
                  rintro e w15 ⟨rfl, hb⟩
                  replace hBq := below_step hBq hb
                  clear hb hlT2
                  go_wp2_with fail
                  go_roundw
                  case rel => exact ⟨q + 1, by omega, by go_num, hBq⟩
                  case measure => simp [intOf]; omega
              · have hc9 : (0 : Int) < (m11 : Int) := by omega
                have h11p : 0 < m11 := by omega
                replace h13 := Lib.hid h13
                replace h11 := Lib.hid h11
                replace h11p := Lib.hid h11p
                cases X <;> cases Y
                · skip
                  obtain rfl := HFIN.out (by simp) (by (exact .inr (.inl h11p.out)))
                  clear HFIN
                  go_wp2_with fail
                  refine hlT2.out.mono ?_
                  rintro e w15 ⟨rfl, hb⟩
                  replace hBq := below_step hBq hb
                  clear hb hlT2
                  go_wp2_with fail
                  go_roundw
                  case rel => exact ⟨q + 1, by omega, by go_num, hBq⟩
                  case measure => simp [intOf]; omega
                · skip
                  clear HFIN
                  go_wp2_with fail
                  go_roundw
                  case rel => exact ⟨q + 1, by omega, by go_num, hBq⟩
                  case measure => simp [intOf]; omega
                · skip
                  obtain rfl := HFIN.out (by simp) (by simp)
                  clear HFIN
                  go_wp2_with fail
                  refine hlT2.out.mono ?_
                  rintro e w15 ⟨rfl, hb⟩
                  replace hBq := below_step hBq hb
                  clear hb hlT2
                  go_wp2_with fail
                  go_roundw
                  case rel => exact ⟨q + 1, by omega, by go_num, hBq⟩
                  case measure => simp [intOf]; omega
                · skip
                  obtain rfl := HFIN.out (by simp) (by simp)
                  clear HFIN
                  go_wp2_with fail
                  refine hlT2.out.mono ?_
                  rintro e w15 ⟨rfl, hb⟩
                  replace hBq := below_step hBq hb
                  clear hb hlT2
                  go_wp2_with fail
                  go_roundw
                  case rel => exact ⟨q + 1, by omega, by go_num, hBq⟩
                  case measure => simp [intOf]; omega
          · have hqn : ¬ (q : Int) < (m8 : Int) := by omega
            replace hBr := below_step hBr hBq
            clear hlq hq hCr hD HZ3
            go_wp2_with fail
            go_roundw
            case rel => exact ⟨k + 1, by omega, by go_num, by rw [HST8.out]; go_num, hBr⟩
            case measure => simp [intOf]; omega
      · have hkn : ¬ (k : Int) < (m5 : Int) := by omega
        have hall : sumV l ((lstF m5 L5).take k) = ln := by
          rw [List.take_of_length_le (by rw [lstF_length]; omega)]
          exact HSUM.out
        rw [hall]
        have hns := hla.out noSuch wr hCr
        rw [no_such HR.out] at hns
        unfold noSuch at hns
        replace hns := Lib.hid hns
        clear hlt hk hall
        go_wp2_with fail
        refine hns.out.mono ?_
        rintro e w6 ⟨rfl, hb⟩
        go_wp2_with fail
        go_ret
        exact ⟨rfl, below_step hB (below_step hCr hb)⟩
  · clear hf3 h0
    go_wp2_with fail
    go_ret
    exact ⟨rfl, below_step hB hC⟩
set_option maxHeartbeats 4000000 in
theorem idxLast_calls (ks : List Nat) (A : Nat → Addr) (hks : IdxKs ks) (lv : Value) (l : List En) (w : World) (hE : EnvP ks A w) (hC : EnvC A w) (hl : EntsAt w lv l) :
    Calls Tryz.prog 11 #[lv] w fun e w' => e = .returned (.bool true) ∧ Below w.heap.size w w' := by
  obtain ⟨la, ln, lc, P, V, R, K, Bk, Rv, Kv, rfl, rfl, hin⟩ := hl
  have H : ItArgs ks A la ln lc P V R K Bk Rv Kv w := ⟨hks, hE, hC, hin⟩
  cases h1 : longIdx (enF ln P V R K Bk)
  · by_cases h2 : ln ≤ 30
    · exact idxLast_main ks A la ln lc P V R K Bk Rv Kv w H h1 h2
    · exact idxLast_long ks A la ln lc P V R K Bk Rv Kv w H (.inr ⟨h1, by omega⟩)
  · exact idxLast_long ks A la ln lc P V R K Bk Rv Kv w H (.inl h1)
end Go.Proofs.Pw
