/- Ge: walks and plain laws, joined: GetGet2 Got. Conditions: at each theorem. -/
import Derived.Test.YtmnojbbcaboagaaGreatDoorGezl
import Derived.Test.YtmnojbbcaboagaaGreatDoorGezd

namespace Go.Proofs.Pw
open Go.RowKit
open Go.Lib hiding intOf
theorem Box3f.kept {w w' : World} {b c : Nat} {v0 v1 v2 : Value} (h : Box3f w c v0 v1 v2) (hk : Kept b w w') (hn : c ≠ b) : Box3f w' c v0 v1 v2 :=
  ⟨hk.cell h.c0 hn, hk.cell h.c1 hn, hk.cell h.c2 hn, fun i => (World.frozen?_of_block (a := ⟨c, i, none⟩) (hk.all c (lt_of_cell h.c0) hn)).trans (h.fz i)⟩
theorem argP_len {s : Str} (h : s.length ≤ 1000000) : (argP s).length ≤ 1000000 := by
  unfold argP
  rw [List.getD_eq_getElem?_getD]
  cases e : (split s [64])[0]? with
  | none => simp
  | some x => exact Nat.le_trans (split_mem_le [64] (by simp) s.length s (Nat.le_refl _) x (List.mem_of_getElem? e)) h
theorem argQ_len {s : Str} (h : s.length ≤ 1000000) : (argQ s).length ≤ 1000000 := by
  unfold argQ
  split
  · rw [List.getD_eq_getElem?_getD]
    cases e : (split s [64])[1]? with
    | none => simp
    | some x => exact Nat.le_trans (split_mem_le [64] (by simp) s.length s (Nat.le_refl _) x (List.mem_of_getElem? e)) h
  · decide
theorem GetAns.off {A : Nat → Addr} {r : GetR} {w W : World} {e : Ending} {b : Nat} (h : GetAns A r w e) (hb : FileBox w b) (ho : OffOne b w W) : GetAns A r W e := by
  obtain ⟨p, rv, xv, sv, ev, h1, h2, h3, h4, h5, h6⟩ := h
  exact ⟨p, rv, xv, sv, ev, h1, h2.off hb ho, h3, h4.off hb ho, h5.off hb ho, h6.off hb ho⟩
set_option maxHeartbeats 16000000 in
set_option maxRecDepth 100000 in
theorem getGet_in (ks : List Nat) (A : Nat → Addr) (hks : GetKs ks) (a : Option Addr) (n cap : Nat) (P V : Nat → ByteArray) (R : Nat → List Md) (K : Nat → List Str) (Bk : Nat → Bool) (Rv Kv : Nat → Value) (path : ByteArray) (rv xv av : Value) (reqs excl : List Md) (args : List Str) (w : World) (hE : EnvP ks A w) (h : EntsIn w a n cap P V R K Bk Rv Kv) (hs : ShortI (enF n P V R K Bk)) (hr : ModsAt w rv reqs) (hx : ModsAt w xv excl) (hp : path.size ≤ 1000000) (hsr : Short reqs) (hsx : Short excl) (ha : StrsAt w av args) (hal : ∀ s ∈ args, s.length ≤ 1000000) :
    Calls Tryz.prog 12 #[.slice a n cap, .agg #[.string path, rv, xv], av] w fun e w' => GetAns A (getR (enF n P V R K Bk) ⟨path.data.toList, reqs, excl⟩ args) w' e ∧ Below w.heap.size w w' := by
  have hb0 := below_alloc w (.cells #[.string path, rv, xv] 25)
  have hb1 := below_alloc (w.alloc (.cells #[.string path, rv, xv] 25)) (.cells #[.string ⟨#[]⟩, .slice none 0 0, .slice none 0 0] 25)
  have hB := below_step hb0 hb1
  have hz := (box3f_alloc w (.string path) rv xv 25).below hb1
  have hy := box3f_alloc (w.alloc (.cells #[.string path, rv, xv] 25)) (.string ⟨#[]⟩) (.slice none 0 0) (.slice none 0 0) 25
  simp only [World.size_alloc] at hy
  have HNV := Lib.hid (fun W (hb : Below w.heap.size w W) => And.intro (hE.below hb) (h.below hb))
  have hck := fun W (hb : Below w.heap.size w W) => getCheck_in ks A hks a n cap P V R K Bk Rv Kv path rv xv av reqs excl args W (hE.below hb) (h.below hb) hs (hr.below hb) (hx.below hb) hp hsr hsx (ha.below hb) hal
  have hbu := fun (hl : reqs.length ≤ 100000) W (hb : Below w.heap.size w W) => mvsBuild_in ks A hks.1 a n cap P V R K Bk Rv Kv rv reqs W (hE.below hb) (h.below hb) hs (hr.below hb) hl
  have hou := fun W (hb : Below w.heap.size w W) sv S (hS : ModsAt W sv S) (hl : S.length ≤ 1000000) => getOut_calls path rv xv sv excl S W (hx.below hb) hS hsx.1 hl
  have hdo := fun W (hb : Below w.heap.size w W) sv S (hS : ModsAt W sv S) (hl : S.length ≤ 100000) => getDone_in ks A hks a n cap P V R K Bk Rv Kv path rv xv sv reqs excl S W (hE.below hb) (h.below hb) hs (hr.below hb) (hx.below hb) hS hsr.1 hsx.1 hl
  have hv9 := fun W (hb : Below w.heap.size w W) => (hE.below hb).errs.var 9 hks.2.2.2
  simp only [errG] at hv9
  have hbc := fun W v r (hf : FaultAt A W v r) => bare_calls A v r W hf
  have HSH := Lib.hid hs
  have HKS := Lib.hid hks
  have HFB := Lib.hid (by simpa using fileBox_new (w.alloc (.cells #[.string path, rv, xv] 25)) ⟨#[]⟩ none 0 0 none 0 0 : FileBox ((w.alloc (.cells #[.string path, rv, xv] 25)).alloc (.cells #[.string ⟨#[]⟩, .slice none 0 0, .slice none 0 0] 25)) (w.heap.size + 1))
  have HFF : Hid ((chkErr (enF n P V R K Bk) ⟨path.data.toList, reqs, excl⟩ args).1 = 0 → Right ⟨path.data.toList, reqs, excl⟩ ∧ args.length ≤ 10) := Lib.hid (fun h => by
    unfold chkErr at h
    rw [orE_zero, orE_zero, orE_zero] at h
    refine ⟨right_of h.2.1, ?_⟩
    by_cases hl : 10 < args.length
    · rw [if_pos hl] at h; cases h.2.2.1
    · omega)
  obtain ⟨l, hll⟩ : ∃ x, enF n P V R K Bk = x := ⟨_, rfl⟩
  simp only [hll] at hck hbu hdo HFF ⊢
  obtain ⟨ff, hff⟩ : ∃ x : Fl, (⟨path.data.toList, reqs, excl⟩ : Fl) = x := ⟨_, rfl⟩
  simp only [hff] at hck hdo HFF ⊢
  have HLL := Lib.hid (And.intro hll hff)
  have HR1 : Hid ((chkErr l ff args).1 ≠ 0 → getR l ff args = .bad (chkErr l ff args)) := Lib.hid getR_chk
  have HR2 : Hid ((chkErr l ff args).1 = 0 → (startErr l reqs).1 ≠ 0 → getR l ff args = .bad ((startErr l reqs).1, -1)) := Lib.hid (fun h1 h2 => by
    have := getR_start (f := ff) h1 (by rw [← hff]; exact h2)
    rw [this, ← hff])
  have HR3 : Hid ((chkErr l ff args).1 = 0 → (startErr l reqs).1 = 0 → getR l ff args = getR2 l ff args (buildL l reqs)) := Lib.hid (fun h1 h2 => by
    have := getR_two (f := ff) h1 (by rw [← hff]; exact h2)
    rw [this, ← hff])
  generalize getR l ff args = GR at *
  generalize chkErr l ff args = CE at *
  obtain ⟨ar, nr, cr, _, _, rfl, _⟩ := id hr
  obtain ⟨ax, nx, cx, _, _, rfl, _⟩ := id hx
  obtain ⟨aa, na, ca, _, rfl, _⟩ := id ha
  obtain ⟨z0, z1, z2, zf⟩ := id hz
  obtain ⟨y0, y1, y2, yf⟩ := id hy
  have HAL := Lib.hid hal
  have hck1 := hck _ hB
  replace hck1 := Lib.hid hck1
  replace hbu := Lib.hid hbu
  replace hou := Lib.hid hou
  replace hdo := Lib.hid hdo
  replace hv9 := Lib.hid hv9
  replace hbc := Lib.hid hbc
  clear hE h hs hr hx hsr hsx ha hal hks hll hff hck hb0 hb1 hp
  go_enter Tryz.func12, Tryz.ntmps12
  go_wp2_with fail
  generalize hw0 : (w.alloc (.cells #[.string path, .slice ar nr cr, .slice ax nx cx] 25)).alloc (.cells #[.string ⟨#[]⟩, .slice none 0 0, .slice none 0 0] 25) = w0 at *
  have hsz0 : w0.heap.size = w.heap.size + 2 := by rw [← hw0]; simp
  have HSZ0 := Lib.hid hsz0
  clear hw0 hsz0
  refine hck1.out.mono ?_
  rintro e w1 ⟨⟨x1, ev1, rfl, hf1, hx1n, hx1⟩, hb⟩
  replace hB := below_step hB hb
  replace hz := hz.below hb
  replace hy := hy.below hb
  have HFB1 := Lib.hid (HFB.out.below hb)
  have HS1 : Hid (w.heap.size + 2 ≤ w1.heap.size) := Lib.hid (by have := hb.size; have := HSZ0.out; omega)
  clear z0 z1 z2 zf y0 y1 y2 yf hb hck1 HFB
  rcases fault_form hf1 with ⟨h0, rfl⟩ | ⟨h0, ty, q, rfl⟩
  · obtain ⟨L1, ho1, hL1⟩ := hx1 h0
    have hR3 := HR3.out h0
    have hR2 := HR2.out h0
    obtain ⟨hRF, hN10⟩ := HFF.out h0
    have hrq : reqs.length ≤ 100000 := by have := hRF.reqs; rw [← HLL.out.2] at this; simp only at this; omega
    have hbu1 := hbu.out hrq w1 hB
    have HO1 := Lib.hid (own_base (base := w.heap.size + 2) ho1 (by rw [HSZ0.out]; exact Nat.le_refl _))
    have HL1 := Lib.hid hL1
    have HN10 := Lib.hid hN10
    have HR2' := Lib.hid hR2
    have HR3' := Lib.hid hR3
    obtain ⟨a1, n1, c1, rfl⟩ := own_form ho1
    obtain ⟨z0, z1, z2, zf⟩ := id hz
    replace hbu1 := Lib.hid hbu1
    clear HR1 HR2 HR3 HFF h0 hf1 hx1n hx1 ho1 hL1 hR3 hR2 hRF hN10 hrq hbu
    go_wp2_with fail
    refine hbu1.out.mono ?_
    rintro e w2 ⟨⟨x2, ev2, rfl, hf2, hx2⟩, hb⟩
    replace hB := below_step hB hb
    replace hz := hz.below hb
    replace hy := hy.below hb
    have HFB2 := Lib.hid (HFB1.out.below hb)
    have HO2 := Lib.hid (HO1.out.below hb)
    have HS2 : Hid (w.heap.size + 2 ≤ w2.heap.size) := Lib.hid (by have := hb.size; have := HS1.out; omega)
    obtain ⟨a2, n2, c2, _, _, rfl, -⟩ := id hx2
    clear z0 z1 z2 zf hb hbu1 HFB1 HO1 HS1
    rcases fault_form hf2 with ⟨h0, rfl⟩ | ⟨h0, ty, q, rfl⟩
    · have hfe : ff.excl = excl ∧ ff.reqs = reqs ∧ ff.path = path.data.toList := by rw [← HLL.out.2]; exact ⟨rfl, rfl, rfl⟩
      have hGR := HR3'.out h0
      have hG0 := rightG_of h0
      have hbl : buildR l reqs = buildL l reqs := by unfold buildR; rw [if_pos h0]
      rw [hbl] at hx2
      have HBS : Hid ((buildL l reqs).length ≤ 100 ∧ ∀ m ∈ buildL l reqs, m.1.length ≤ 1000000 ∧ m.2.length ≤ 1000000) := Lib.hid ⟨build_len hG0, fun m hm => by
        obtain ⟨e, he, rfl⟩ := hG0.entry (build_reached hG0 hm)
        rw [← HLL.out.1] at he
        exact HSH.out.mds e he⟩
      have HI0 : Hid ((idxErr l).1 = 0) := Lib.hid (by unfold startErr at h0; rw [orE_zero] at h0; exact h0.1)
      obtain ⟨bl, hbl2⟩ : ∃ x, buildL l reqs = x := ⟨_, rfl⟩
      rw [hbl2] at hx2 hGR HBS
      have hou1 := hou.out w2 hB (.slice a2 n2 c2) bl hx2 (by have := HBS.out.1; omega)
      obtain ⟨IO, hIO⟩ : ∃ x, isOutM excl bl = x := ⟨_, rfl⟩
      rw [hIO] at hou1
      have HG2 : Hid (GR = if IO = true then .bad (9, -1) else if (pinArgs l bl args 0 []).1.1 ≠ 0 then .bad (pinArgs l bl args 0 []).1 else getR3 l ff args bl (pinArgs l bl args 0 []).2) := Lib.hid (by
        rw [hGR]
        unfold getR2
        rw [hfe.1, hIO])
      have HX2 := Lib.hid hx2
      obtain ⟨z0, z1, z2, zf⟩ := id hz
      replace hou1 := Lib.hid hou1
      clear HR2' HR3' h0 hf2 hGR hG0 hbl hbl2 hou hx2 hIO hfe hbc
      go_wp2_with fail
      refine hou1.out.mono ?_
      rintro e w3 ⟨rfl, hb⟩
      replace hB := below_step hB hb
      replace hz := hz.below hb
      replace hy := hy.below hb
      have HFB3 := Lib.hid (HFB2.out.below hb)
      have HO3 := Lib.hid (HO2.out.below hb)
      have HX3 := Lib.hid (HX2.out.below hb)
      have HS3 : Hid (w.heap.size + 2 ≤ w3.heap.size) := Lib.hid (by have := hb.size; have := HS2.out; omega)
      clear z0 z1 z2 zf hb hou1 HFB2 HO2 HX2 HS2
      cases IO with
      | true =>
        have HF : Hid (GR = .bad (9, -1)) := Lib.hid (by rw [HG2.out, if_pos rfl])
        obtain ⟨y0, y1, y2, yf⟩ := id hy
        have hB4 := below_set3 hB (b := w.heap.size + 1) (by omega) (.string ⟨#[]⟩) (.slice none 0 0) (.slice none 0 0)
        have hB5 := below_set3 hB.drew (b := w.heap.size + 1) (by omega) (.string ⟨#[]⟩) (.slice none 0 0) (.slice none 0 0)
        have hv := hv9.out _ hB.drew
        have hv2 := hv9.out _ hB4.drew
        have hv3 := hv9.out _ hB5
        have HV9 : Hid (errV A 9 = .iface 328 (.pointer (some (A 9)))) := Lib.hid (errV_pos A (by decide))
        clear hv9 hz hy HG2
        go_wp2_with fail
        go_region
        all_goals
          go_wp2_with fail
          refine bodyPost_ret (v := .tuple #[.agg #[.string ⟨#[]⟩, .slice none 0 0, .slice none 0 0], .slice none 0 0, .iface 328 (.pointer (some (A 9)))]) (by simp [results, Tryz.results12, go_sem, *]) rfl ?_
          rw [HF.out]
          exact ⟨getAns_bad (.inr (.inl ⟨by decide, rfl, HV9.out.symm⟩)), by first | exact hB4.drew | exact hB5⟩
      | false =>
        have HG3 : Hid (GR = if (pinArgs l bl args 0 []).1.1 ≠ 0 then .bad (pinArgs l bl args 0 []).1 else getR3 l ff args bl (pinArgs l bl args 0 []).2) := Lib.hid (by rw [HG2.out, if_neg (by simp)])
        have hmk := fun W => run_makeMap (P := Tryz.prog) 69 W
        have hba1 := below_alloc w3 (.map #[] 0)
        have hba2 := below_alloc (w3.alloc (.map #[] 0)) (.cells #[.slice a n cap, .slice a2 n2 c2, .map (some w3.heap.size)] 71)
        have hba := below_step hba1 hba2
        have hPT := (pinTab_made w3).below hba2
        have hgn : ∀ (c : Nat) (u : Value), ([.slice a n cap, .slice a2 n2 c2, .map (some w3.heap.size)] : List Value)[c]? = some u → ((w3.alloc (.map #[] 0)).alloc (.cells #[.slice a n cap, .slice a2 n2 c2, .map (some w3.heap.size)] 71)).cell? ⟨w3.heap.size + 1, c, none⟩ = some u := fun c u h => new_cell (w3.alloc (.map #[] 0)) [.slice a n cap, .slice a2 n2 c2, .map (some w3.heap.size)] 71 (by simp) h
        have hg0 := hgn 0 _ rfl
        have hg1 := hgn 1 _ rfl
        have hg2 := hgn 2 _ rfl
        obtain ⟨wG, hwG⟩ : ∃ W, (w3.alloc (.map #[] 0)).alloc (.cells #[.slice a n cap, .slice a2 n2 c2, .map (some w3.heap.size)] 71) = W := ⟨_, rfl⟩
        rw [hwG] at hba hPT hg0 hg1 hg2
        have HBG := Lib.hid hba
        have HWB := Lib.hid (below_step hB hba)
        have hsG : w3.heap.size < wG.heap.size := hPT.lt
        have HGW : Hid (∀ W, Kept w3.heap.size wG W → GetW ks A a n cap P V R K Bk Rv Kv (.slice a2 n2 c2) bl (w3.heap.size + 1) w3.heap.size W) := Lib.hid (fun W hk => by
          have hk3 : Below w3.heap.size w3 W := HBG.out.trans (hk.below (Nat.le_refl _) (Nat.le_of_lt hsG))
          have hkW := below_step hB hk3
          exact ⟨(HNV.out W hkW).1, (HNV.out W hkW).2, HX3.out.below hk3, hk.cell hg0 (Nat.succ_ne_self _), hk.cell hg1 (Nat.succ_ne_self _), hk.cell hg2 (Nat.succ_ne_self _)⟩)
        have HKB := Lib.hid (fun W (hk : Kept w3.heap.size wG W) => below_step hB (HBG.out.trans (hk.below (Nat.le_refl _) (Nat.le_of_lt hsG))))
        have HPT := Lib.hid hPT
        have HFBG := Lib.hid (HFB3.out.below hba)
        have HMG := Lib.hid (modsAt_own (HO3.out.below hba))
        have hzG := hz.below hba
        have hyG := hy.below hba
        have HZG := Lib.hid hzG
        have HYG := Lib.hid hyG
        have HS3' := Lib.hid (And.intro HS3.out hsG)
        clear hgn hg0 hg1 hg2 hPT hba hba1 hba2 HG2 hz hy HFB3 HO3 HX3 hsG hzG hyG hB HS3 HBG
        obtain ⟨PR, hPR⟩ : ∃ x, pinArgs l bl args 0 [] = x := ⟨_, rfl⟩
        have HG4 : Hid (GR = if PR.1.1 ≠ 0 then .bad PR.1 else getR3 l ff args bl PR.2) := Lib.hid (by rw [HG3.out, hPR])
        have HPR := Lib.hid hPR
        obtain ⟨aQ, nQ, cQ, Q1, U1, e1, e2, _, _, hcc⟩ := id HMG.out
        injection e1 with e1 e3 e4
        subst e1 e3 e4
        have HCC := Lib.hid hcc
        have HAE : Hid (∀ k, k < n1 → ∃ s, args[k]? = some s ∧ s ∈ args ∧ argP s = (Q1 k).data.toList ∧ argQ s = (U1 k).data.toList) := Lib.hid (fun k hk => by
          have h1 : (args.map argPQ)[k]? = some ((Q1 k).data.toList, (U1 k).data.toList) := by rw [← HL1.out, e2]; exact mdF_get _ Q1 U1 k hk
          rw [List.getElem?_map] at h1
          obtain ⟨s, hs1, hs2⟩ := Option.map_eq_some_iff.1 h1
          unfold argPQ at hs2
          injection hs2 with h2 h3
          exact ⟨s, hs1, List.mem_of_getElem? hs1, h2, h3⟩)
        have HNA : Hid (args.length = n1) := Lib.hid (by have h1 := congrArg List.length e2; rw [HL1.out, List.length_map, mdF_length] at h1; exact h1)
        have HNE : Hid (w.heap.size + 1 ≠ w3.heap.size ∧ w.heap.size ≠ w3.heap.size) := Lib.hid (by have := HS3'.out.1; omega)
        clear hPR e2 hcc HG3
        go_wp2_with fail
        try rw [hwG]
        clear hwG
        go_loopw [13, 14, 15, 54] (fun _ _ _ x wr => ∃ (k : Nat) (S' : List PinB), k ≤ n1 ∧ x = .int .i64 k ∧ Hid (PinTab wr w3.heap.size S') ∧ Hid (Kept w3.heap.size wG wr) ∧ Hid (pinArgs l bl (args.drop k) k (S'.map pinT) = PR)) (fun _ _ _ x _ => n1 - (intOf x).toNat)
        case atStart => exact ⟨0, [], Nat.zero_le _, rfl, HPT, Lib.hid (Kept.of _ (Below.refl _ _)), HPR⟩
        case round =>
          obtain ⟨k, S', hk, rfl, HT, HKr, HRk⟩ := hrel
          by_cases hlt : k < n1
          · have hkn : (k : Int) < (n1 : Int) := by omega
            obtain ⟨b1, o1, ea, c0', c1'⟩ := HCC.out k hlt
            subst ea
            have c0 := HKr.out.cell c0' (HPT.out.ne_cell c0')
            have c1 := HKr.out.cell c1' (HPT.out.ne_cell c1')
            obtain ⟨s, hs1, hs2, hs3, hs4⟩ := HAE.out k hlt
            have hba := below_alloc wr (.cells #[.string (Q1 k), .string (U1 k)] 72)
            obtain ⟨d0, d1, _⟩ := box2_alloc wr (.string (Q1 k)) (.string (U1 k)) 72
            obtain ⟨w4, hW4⟩ : ∃ W, wr.alloc (.cells #[.string (Q1 k), .string (U1 k)] 72) = W := ⟨_, rfl⟩
            rw [hW4] at d0 d1 hba
            have HK4 := Lib.hid (HKr.out.step hba)
            have HT4 := Lib.hid (HT.out.below hba)
            have har := gArg_in ks A HKS.out.1 HKS.out.2.2.2 a n cap P V R K Bk Rv Kv (.slice a2 n2 c2) bl (w3.heap.size + 1) w3.heap.size S' (Q1 k) (U1 k) w4 (fun W h => HGW.out W (HK4.out.trans h)) HT4.out HSH.out (by rw [HLL.out.1]; exact HI0.out) (by have := HBS.out.1; omega) HBS.out.2 (by rw [size_eq, ← hs3]; exact argP_len (HAL.out s hs2)) (by rw [size_eq, ← hs4]; exact argQ_len (HAL.out s hs2))
            rw [HLL.out.1, ← hs3, ← hs4] at har
            obtain ⟨AE, hAE⟩ : ∃ x, pinArg l bl (argP s) (argQ s) (S'.map pinT) = x := ⟨_, rfl⟩
            rw [hAE] at har
            have HRD : Hid (pinArgs l bl (s :: args.drop (k + 1)) k (S'.map pinT) = PR) := Lib.hid (by
              obtain ⟨hl1, hl2⟩ := List.getElem?_eq_some_iff.1 hs1
              rw [← HRk.out, List.drop_eq_getElem_cons hl1, hl2])
            replace har := Lib.hid har
            clear hba c0' c1' HRk HT hs1 hs2 hs3 hs4
            have HAD := Lib.hid hAE
            clear hAE
            go_wp2_with fail
            refine har.out.mono ?_
            rintro e w5 ⟨rfl, hk5, hp5⟩
            have HK5 := Lib.hid (HK4.out.trans hk5)
            by_cases h0 : AE.1 = 0
            · obtain ⟨S5, hP5, hS5⟩ := hp5 h0
              have HP5 := Lib.hid hP5
              have HR5 : Hid (pinArgs l bl (args.drop (k + 1)) (k + 1) (S5.map pinT) = PR) := Lib.hid (by
                have := pinArgs_on (r := args.drop (k + 1)) (i := k) (by rw [HAD.out]; exact h0)
                rw [← HRD.out, this, HAD.out, hS5])
              rw [h0, errV_zero]
              clear hk5 hp5 har h0 hP5 hS5 HRD HAD d0 d1 c0 c1
              go_wp2_with fail
              go_roundw
              case rel => exact ⟨k + 1, S5, by omega, by go_num, HP5, HK5, HR5⟩
              case measure => simp [intOf]; omega
            · have HF : Hid (GR = .bad (AE.1, (k : Int))) := Lib.hid (by
                have := pinArgs_bad (r := args.drop (k + 1)) (i := k) (by rw [HAD.out]; exact h0)
                rw [HG4.out, ← HRD.out, this, HAD.out]
                exact if_pos h0)
              have HVA : Hid (errV A AE.1 = .iface 328 (.pointer (some (A AE.1)))) := Lib.hid (errV_pos A h0)
              have H0 := Lib.hid h0
              have hbf := below_alloc w5 (.cells #[.int .i64 (k : Int), .iface 328 (.pointer (some (A AE.1)))] 76)
              obtain ⟨f0, f1, _⟩ := box2_alloc w5 (.int .i64 (k : Int)) (.iface 328 (.pointer (some (A AE.1)))) 76
              obtain ⟨y0, y1, y2, yf⟩ := (HYG.out.kept HK5.out HNE.out.1).below hbf
              have HFL : Hid (FaultAt A (w5.alloc (.cells #[.int .i64 (k : Int), .iface 328 (.pointer (some (A AE.1)))] 76)) (.iface 74 (.pointer (some ⟨w5.heap.size, 0, none⟩))) (AE.1, (k : Int))) := Lib.hid (.inr (.inr ⟨h0, _, rfl, f0, by rw [HVA.out]; exact f1⟩))
              have HFX := Lib.hid ((HFBG.out.kept HK5.out HNE.out.1).below hbf)
              have HBX := Lib.hid (below_step (HKB.out w5 HK5.out) hbf)
              clear f0 f1 hbf hk5 hp5 har h0 HRD HAD d0 d1 c0 c1
              rw [HVA.out]
              go_wp2_with fail
              refine bodyPost_ret (v := .tuple #[.agg #[.string ⟨#[]⟩, .slice none 0 0, .slice none 0 0], .slice none 0 0, .iface 74 (.pointer (some ⟨w5.heap.size, 0, none⟩))]) (by simp [results, Tryz.results12, go_sem, *]) rfl ?_
              rw [HF.out]
              exact ⟨getAns_bad (HFL.out.off HFX.out (offOne3 _ _ _ _ _)), below_set3 HBX.out (Nat.le_succ _) _ _ _⟩
          · obtain rfl : k = n1 := by omega
            have hnk : ¬ (k : Int) < (k : Int) := by omega
            have HRF : Hid (PR = ((0, -1), S'.map pinT)) := Lib.hid (by
              rw [← HRk.out, List.drop_of_length_le (by rw [HNA.out]; exact Nat.le_refl _)]
              rfl)
            have HG5 : Hid (GR = getR3 l ff args bl (S'.map pinT)) := Lib.hid (by rw [HG4.out, HRF.out]; exact if_neg (by simp))
            have HOK := Lib.hid (pinArgs_ok (Q := ShortP) (l := l) (b := bl) (args := args) (i := 0) (S := []) (PinsOk.nil _) (fun s hs x hx h0 => pick_short (by rw [← HLL.out.1]; exact HSH.out) HBS.out.2 (argP_len (HAL.out s hs)) hx h0))
            have HSL : Hid (PinsOk ShortP (S'.map pinT) ∧ S'.length ≤ 10000) := Lib.hid (by
              have h1 := HOK.out
              rw [show pinArgs l bl args 0 [] = PR from HPR.out, HRF.out] at h1
              refine ⟨h1.1, ?_⟩
              have h2 := h1.2
              simp only [List.length_map, List.length_nil] at h2
              have h3 := HN10.out
              have h4 := HBS.out.1
              have h5 : args.length * (bl.length + 1) ≤ 10 * 101 := Nat.mul_le_mul h3 (by omega)
              omega)
            have hgw := HGW.out wr HKr.out
            have hne1 := getNext_in ks A HKS.out.1 a n cap P V R K Bk Rv Kv (.slice a2 n2 c2) bl (w3.heap.size + 1) w3.heap.size S' wr hgw HT.out HSH.out (by have := HBS.out.1; omega) ⟨by have := HBS.out.1; omega, HBS.out.2⟩ HSL.out.2 (capsL_short HSL.out.1 (by rw [List.length_map]; have := HSL.out.2; omega))
            simp only [HLL.out.1] at hne1
            obtain ⟨NE, hNE⟩ : ∃ x, nextErr l bl (capsL (S'.map pinT)) = x := ⟨_, rfl⟩
            obtain ⟨NB, hNB⟩ : ∃ x, nextB l bl (capsL (S'.map pinT)) = x := ⟨_, rfl⟩
            have HNB : Hid (NE.1 = 0 → NB.length ≤ 1000) := Lib.hid (fun h => by
              rw [← hNE] at h
              unfold nextErr at h
              rw [orE_zero] at h
              have h2 := build_len (rightG_of h.2)
              rw [← hNB]
              unfold nextB
              omega)
            have HG6 : Hid (GR = if NE.1 ≠ 0 then .bad NE else getR4 l ff args bl (S'.map pinT) NB) := Lib.hid (by rw [HG5.out]; unfold getR3; rw [hNE, hNB])
            rw [hNE, hNB] at hne1
            replace hne1 := Lib.hid hne1
            clear hlt hk HRk hgw hNE hNB
            go_wp2_with fail
            refine hne1.out.mono ?_
            rintro e w5 ⟨⟨x5, ev5, rfl, hf5, hx5⟩, hb5⟩
            have HK5 := Lib.hid (HKr.out.step hb5)
            have HT5 := Lib.hid (HT.out.below hb5)
            rcases fault_form hf5 with ⟨h0, rfl⟩ | ⟨h0, ty, q, rfl⟩
            · have hx := hx5 h0
              have HX5 := Lib.hid hx
              obtain ⟨a5, n5, c5, _, _, rfl, -⟩ := id hx
              have HG7 : Hid (GR = getR4 l ff args bl (S'.map pinT) NB) := Lib.hid (by rw [HG6.out, if_neg (by simp [h0])])
              have HNL := Lib.hid (HNB.out h0)
              clear hf5 hx5 hb5 hx h0 hne1
              go_wp2_with fail
              generalize hwq : wr = wq at *
              clear hwq
              go_loopw [17, 18, 85] (fun _ _ x wr2 => ∃ (j : Nat), j ≤ k ∧ x = .int .i64 j ∧ Hid (Below w5.heap.size w5 wr2) ∧ Hid (∀ i s, i < j → args[i]? = some s → keptB l bl (S'.map pinT) (argP s) NB = true)) (fun _ _ x _ => k - (intOf x).toNat)
              case atStart => exact ⟨0, Nat.zero_le _, rfl, Lib.hid (Below.refl _ _), Lib.hid (fun i s h => absurd h (Nat.not_lt_zero _))⟩
              case round =>
                obtain ⟨j, hj, rfl, HB2, HA2⟩ := hrel
                by_cases hlt : j < k
                · have hjn : (j : Int) < (k : Int) := by omega
                  obtain ⟨b1, o1, ea, c0', c1'⟩ := HCC.out j hlt
                  subst ea
                  have HKr2 := Lib.hid (HK5.out.step HB2.out)
                  have c0 := HKr2.out.cell c0' (HPT.out.ne_cell c0')
                  have c1 := HKr2.out.cell c1' (HPT.out.ne_cell c1')
                  obtain ⟨s, hs1, hs2, hs3, hs4⟩ := HAE.out j hlt
                  have hba := below_alloc wr (.cells #[.string (Q1 j), .string (U1 j)] 72)
                  obtain ⟨d0, d1, _⟩ := box2_alloc wr (.string (Q1 j)) (.string (U1 j)) 72
                  obtain ⟨w4, hW4⟩ : ∃ W, wr.alloc (.cells #[.string (Q1 j), .string (U1 j)] 72) = W := ⟨_, rfl⟩
                  rw [hW4] at d0 d1 hba
                  have HB4 := Lib.hid (below_step HB2.out hba)
                  have hke := getKept_in ks A HKS.out.1 a n cap P V R K Bk Rv Kv (.slice a2 n2 c2) bl (w3.heap.size + 1) w3.heap.size S' (Q1 j) (.slice a5 n5 c5) NB w4 (HGW.out w4 (HK5.out.step HB4.out)) (HT5.out.below HB4.out) (HX5.out.below HB4.out) HSH.out (by have := HBS.out.1; omega) (fun m hm => (HBS.out.2 m hm).1) (by rw [size_eq, ← hs3]; exact argP_len (HAL.out s hs2)) (by have := HNL.out; omega)
                  rw [HLL.out.1, ← hs3] at hke
                  obtain ⟨KB, hKB⟩ : ∃ x, keptB l bl (S'.map pinT) (argP s) NB = x := ⟨_, rfl⟩
                  rw [hKB] at hke
                  have HKD := Lib.hid (And.intro hKB hs1)
                  replace hke := Lib.hid hke
                  clear hba c0' c1' hs1 hs2 hs3 hs4 hKB
                  go_wp2_with fail
                  refine hke.out.mono ?_
                  rintro e w6 ⟨rfl, hb6⟩
                  have HB6 := Lib.hid (below_step HB4.out hb6)
                  cases KB with
                  | true =>
                    have HA3 : Hid (∀ i s, i < j + 1 → args[i]? = some s → keptB l bl (S'.map pinT) (argP s) NB = true) := Lib.hid (fun i t hi ht => by
                      by_cases e : i = j
                      · subst e
                        rw [HKD.out.2] at ht
                        obtain rfl := Option.some.inj ht
                        exact HKD.out.1
                      · exact HA2.out i t (by omega) ht)
                    clear hb6 hke HKD d0 d1 c0 c1 HA2
                    go_wp2_with fail
                    go_roundw
                    case rel => exact ⟨j + 1, by omega, by go_num, HB6, HA3⟩
                    case measure => simp [intOf]; omega
                  | false =>
                    have HBI : Hid (brokenI l bl (S'.map pinT) args NB = (j : Int)) := Lib.hid (by
                      unfold brokenI
                      refine findI_hit HKD.out.2 (by rw [HKD.out.1]; rfl) (fun i y hi hy => ?_)
                      rw [HA2.out i y hi hy]
                      rfl)
                    have HF : Hid (GR = .bad (9, (j : Int))) := Lib.hid (by
                      rw [HG7.out]
                      unfold getR4
                      rw [HBI.out, if_pos (by omega)])
                    have HKW := Lib.hid (HK5.out.step HB6.out)
                    have hBW := HKB.out w6 HKW.out
                    have HYW := Lib.hid (HYG.out.kept HKW.out HNE.out.1)
                    have HFW := Lib.hid (HFBG.out.kept HKW.out HNE.out.1)
                    have HBW := Lib.hid hBW
                    have HV9 : Hid (errV A 9 = .iface 328 (.pointer (some (A 9)))) := Lib.hid (errV_pos A (by decide))
                    have hW4 := below_set3 hBW (b := w.heap.size + 1) (by omega) (.string ⟨#[]⟩) (.slice none 0 0) (.slice none 0 0)
                    have hW5 := below_set3 hBW.drew (b := w.heap.size + 1) (by omega) (.string ⟨#[]⟩) (.slice none 0 0) (.slice none 0 0)
                    have hv := hv9.out _ hBW.drew
                    have hv2 := hv9.out _ hW4.drew
                    have hv3 := hv9.out _ hW5
                    have HW4 := Lib.hid hW4
                    obtain ⟨y0, y1, y2, yf⟩ := HYW.out
                    have hbA := below_alloc w6 (.cells #[.int .i64 (j : Int), .iface 328 (.pointer (some (A 9)))] 76)
                    have hyA := HYW.out.below hbA
                    obtain ⟨y3, y4, y5, yg⟩ := id hyA
                    have hbD := (Below.refl w6.heap.size w6).drew.alloc (Nat.le_refl _) (.cells #[.int .i64 (j : Int), .iface 328 (.pointer (some (A 9)))] 76)
                    obtain ⟨y6, y7, y8, yh⟩ := HYW.out.below hbD
                    obtain ⟨g0, g1, g2, gf⟩ := (((HYW.out.set0 (.string ⟨#[]⟩)).set1 (.slice none 0 0)).set2 (.slice none 0 0)).below (below_alloc _ (.cells #[.int .i64 (j : Int), .iface 328 (.pointer (some (A 9)))] 76))
                    obtain ⟨f0, f1, _⟩ := box2_alloc w6 (.int .i64 (j : Int)) (.iface 328 (.pointer (some (A 9)))) 76
                    obtain ⟨f2, f3, _⟩ := box2_alloc (((w6.setCell ⟨w.heap.size + 1, 0, none⟩ (.string ⟨#[]⟩)).setCell ⟨w.heap.size + 1, 1, none⟩ (.slice none 0 0)).setCell ⟨w.heap.size + 1, 2, none⟩ (.slice none 0 0)) (.int .i64 (j : Int)) (.iface 328 (.pointer (some (A 9)))) 76
                    have e6 : (((w6.setCell ⟨w.heap.size + 1, 0, none⟩ (.string ⟨#[]⟩)).setCell ⟨w.heap.size + 1, 1, none⟩ (.slice none 0 0)).setCell ⟨w.heap.size + 1, 2, none⟩ (.slice none 0 0)).heap.size = w6.heap.size := by simp
                    rw [e6] at f2 f3
                    have HFA : Hid (FaultAt A (w6.alloc (.cells #[.int .i64 (j : Int), .iface 328 (.pointer (some (A 9)))] 76)) (.iface 74 (.pointer (some ⟨w6.heap.size, 0, none⟩))) (9, (j : Int))) := Lib.hid (.inr (.inr ⟨by simp, _, rfl, f0, by rw [HV9.out]; exact f1⟩))
                    have HFB2 : Hid (FaultAt A ((((w6.setCell ⟨w.heap.size + 1, 0, none⟩ (.string ⟨#[]⟩)).setCell ⟨w.heap.size + 1, 1, none⟩ (.slice none 0 0)).setCell ⟨w.heap.size + 1, 2, none⟩ (.slice none 0 0)).alloc (.cells #[.int .i64 (j : Int), .iface 328 (.pointer (some (A 9)))] 76)) (.iface 74 (.pointer (some ⟨w6.heap.size, 0, none⟩))) (9, (j : Int))) := Lib.hid (.inr (.inr ⟨by simp, _, rfl, f2, by rw [HV9.out]; exact f3⟩))
                    have HFXA := Lib.hid (HFW.out.below hbA)
                    have HBA := Lib.hid (below_step HBW.out hbA)
                    clear f0 f1 f2 f3 e6 hbA hbD hyA
                    clear hBW hW4 hW5 hb6 hke HKD d0 d1 c0 c1 HA2
                    go_wp2_with fail
                    go_region
                    all_goals
                      go_wp2_with fail
                      refine bodyPost_ret (v := .tuple #[.agg #[.string ⟨#[]⟩, .slice none 0 0, .slice none 0 0], .slice none 0 0, .iface 74 (.pointer (some ⟨w6.heap.size, 0, none⟩))]) (by simp [results, Tryz.results12, go_sem, *]) rfl ?_
                      rw [HF.out]
                      first
                        | exact ⟨getAns_bad ((HFA.out.off HFXA.out (offOne3 _ _ _ _ _)).below (Below.refl _ _).drew), (below_set3 HBA.out (Nat.le_succ _) _ _ _).drew⟩
                        | exact ⟨getAns_bad (HFB2.out.below (Below.refl _ _).drew), (HW4.out.alloc HW4.out.size _).drew⟩
                        | exact ⟨getAns_bad (HFA.out.off HFXA.out (offOne3 _ _ _ _ _)), below_set3 HBA.out (Nat.le_succ _) _ _ _⟩
                        | exact ⟨getAns_bad HFB2.out, HW4.out.alloc HW4.out.size _⟩
                · obtain rfl : j = k := by omega
                  have hjn : ¬ (j : Int) < (j : Int) := by omega
                  have HBI : Hid (brokenI l bl (S'.map pinT) args NB < 0) := Lib.hid (by
                    unfold brokenI
                    rw [findI_none (fun i y hy => by
                      have hi : i < j := by have := (List.getElem?_eq_some_iff.1 hy).1; rw [HNA.out] at this; exact this
                      rw [HA2.out i y hi hy]
                      rfl)]
                    decide)
                  have HF : Hid (GR = doneR l ff NB) := Lib.hid (by rw [HG7.out]; exact getR4_done HBI.out)
                  have HKW := Lib.hid (HK5.out.step HB2.out)
                  have HBW := Lib.hid (HKB.out wr HKW.out)
                  have hdo1 := hdo.out wr HBW.out (.slice a5 n5 c5) NB (HX5.out.below HB2.out) (by have := HNL.out; omega)
                  obtain ⟨z0, z1, z2, zf⟩ := HZG.out.kept HKW.out HNE.out.2
                  have HYW := Lib.hid (HYG.out.kept HKW.out HNE.out.1)
                  have HFW := Lib.hid (HFBG.out.kept HKW.out HNE.out.1)
                  replace hdo1 := Lib.hid hdo1
                  clear hlt hj HA2
                  go_wp2_with fail
                  refine hdo1.out.mono ?_
                  rintro e w6 ⟨⟨p6, rv6, xv6, sv6, ev6, rfl, hf6, hp6, hr6, hx6, hs6⟩, hb6⟩
                  obtain ⟨ar6, nr6, cr6, _, _, rfl, -⟩ := id hr6
                  obtain ⟨ax6, nx6, cx6, _, _, rfl, -⟩ := id hx6
                  obtain ⟨as6, ns6, cs6, _, _, rfl, -⟩ := id hs6
                  obtain ⟨y0, y1, y2, yf⟩ := HYW.out.below hb6
                  have HFX := Lib.hid (HFW.out.below hb6)
                  have HBX := Lib.hid (below_step HBW.out hb6)
                  have HANS : Hid (GetAns A (doneR l ff NB) w6 (.returned (.tuple #[.agg #[.string p6, .slice ar6 nr6 cr6, .slice ax6 nx6 cx6], .slice as6 ns6 cs6, ev6]))) := Lib.hid ⟨_, _, _, _, _, rfl, hf6, hp6, hr6, hx6, hs6⟩
                  have hev : ∃ v, ev6 = v := ⟨_, rfl⟩
                  clear hr6 hx6 hs6 hp6 hb6 hdo1 z0 z1 z2 zf
                  rcases fault_form hf6 with ⟨h0, rfl⟩ | ⟨h0, ty, q, rfl⟩
                  · clear hf6 h0 hev
                    go_wp2_with fail
                    refine bodyPost_ret (v := .tuple #[.agg #[.string p6, .slice ar6 nr6 cr6, .slice ax6 nx6 cx6], .slice as6 ns6 cs6, .nilIface]) (by simp [results, Tryz.results12, go_sem, *]) rfl ?_
                    rw [HF.out]
                    exact ⟨HANS.out.off HFX.out (offOne3 _ _ _ _ _), below_set3 HBX.out (Nat.le_succ _) _ _ _⟩
                  · clear hf6 h0 hev
                    go_wp2_with fail
                    refine bodyPost_ret (v := .tuple #[.agg #[.string p6, .slice ar6 nr6 cr6, .slice ax6 nx6 cx6], .slice as6 ns6 cs6, .iface ty (.pointer q)]) (by simp [results, Tryz.results12, go_sem, *]) rfl ?_
                    rw [HF.out]
                    exact ⟨HANS.out.off HFX.out (offOne3 _ _ _ _ _), below_set3 HBX.out (Nat.le_succ _) _ _ _⟩
            · have HF : Hid (GR = .bad NE) := Lib.hid (by rw [HG6.out, if_pos h0])
              have HV := Lib.hid hf5
              obtain ⟨y0, y1, y2, yf⟩ := HYG.out.kept HK5.out HNE.out.1
              have HFX := Lib.hid (HFBG.out.kept HK5.out HNE.out.1)
              have HBX := Lib.hid (HKB.out w5 HK5.out)
              clear hf5 hx5 hb5 h0 hne1
              go_wp2_with fail
              refine bodyPost_ret (v := .tuple #[.agg #[.string ⟨#[]⟩, .slice none 0 0, .slice none 0 0], .slice none 0 0, .iface ty (.pointer q)]) (by simp [results, Tryz.results12, go_sem, *]) rfl ?_
              rw [HF.out]
              exact ⟨getAns_bad (HV.out.off HFX.out (offOne3 _ _ _ _ _)), below_set3 HBX.out (Nat.le_succ _) _ _ _⟩
    · have hGR := HR2'.out h0
      have HF := Lib.hid hGR
      have H0 := Lib.hid h0
      have HVE : Hid (errV A (startErr l reqs).1 = .iface 328 (.pointer (some (A (startErr l reqs).1)))) := Lib.hid (errV_pos A h0)
      have hbc1 := hbc.out w2 _ _ hf2
      rw [HVE.out] at hbc1
      replace hbc1 := Lib.hid hbc1
      clear h0 hf2 hbc hGR hx2
      go_wp2_with fail
      refine hbc1.out.mono ?_
      rintro e w3 ⟨rfl, hb⟩
      replace hB := below_step hB hb
      replace hy := hy.below hb
      obtain ⟨y0, y1, y2, yf⟩ := id hy
      clear hb hbc1 hz
      go_wp2_with fail
      refine bodyPost_ret (v := .tuple #[.agg #[.string ⟨#[]⟩, .slice none 0 0, .slice none 0 0], .slice none 0 0, .iface 328 (.pointer (some (A (startErr l reqs).1)))]) (by simp [results, Tryz.results12, go_sem, *]) rfl ?_
      rw [HF.out]
      exact ⟨getAns_bad (.inr (.inl ⟨H0.out, rfl, HVE.out.symm⟩)), below_set3 hB (Nat.le_succ _) _ _ _⟩
  · have HF := Lib.hid (HR1.out h0)
    have HV := Lib.hid hf1
    obtain ⟨y0, y1, y2, yf⟩ := id hy
    clear HR1 HR2 HR3 HFF h0 hf1 hx1n hx1 hz
    go_wp2_with fail
    refine bodyPost_ret (v := .tuple #[.agg #[.string ⟨#[]⟩, .slice none 0 0, .slice none 0 0], .slice none 0 0, .iface ty (.pointer q)]) (by simp [results, Tryz.results12, go_sem, *]) rfl ?_
    rw [HF.out]
    exact ⟨getAns_bad (HV.out.off HFB1.out (offOne3 _ _ _ _ _)), below_set3 hB (Nat.le_succ _) _ _ _⟩
end Go.Proofs.Pw

namespace Go.Proofs.Pw
open Go.RowKit
open Go.Lib hiding intOf
def mainB : ByteArray := ⟨#[109, 97, 105, 110]⟩
set_option maxHeartbeats 4000000 in
set_option maxRecDepth 100000 in
theorem got_calls (ks : List Nat) (A : Nat → Addr) (hks : GetKs ks) (w : World) (hE : EnvP ks A w) :
    Calls Tryz.prog 5 #[] w fun e w' => e = .returned (.bool true) ∧ Below w.heap.size w w' := by
  have hsm := small3_calls w
  have hB := s3W_below w
  have hin := s3W_in w
  have hb1 := below_alloc (s3W w) (.cells #[.string sA, .string v100] 47)
  have hb2 := below_alloc ((s3W w).alloc (.cells #[.string sA, .string v100] 47)) (.cells #[.string sA] 9)
  have hb := below_step hb1 hb2
  have hB2 := below_step hB hb
  have hmods : ModsAt (((s3W w).alloc (.cells #[.string sA, .string v100] 47)).alloc (.cells #[.string sA] 9)) (.slice (some ⟨(s3W w).heap.size, 0, none⟩) 1 1) [s3A0] := by
    refine ⟨_, 1, 1, fun _ => sA, fun _ => v100, rfl, rfl, Nat.le_refl _, by decide, fun i hi => ?_⟩
    have hc : ∀ (c : Nat) (u : Value), ([.string sA, .string v100] : List Value)[c]? = some u → (((s3W w).alloc (.cells #[.string sA, .string v100] 47)).alloc (.cells #[.string sA] 9)).cell? ⟨(s3W w).heap.size, c, none⟩ = some u := fun c u h => Below.cell_some hb2 (new_cell _ _ _ rfl h)
    obtain rfl : i = 0 := by omega
    exact ⟨_, 0, rfl, hc _ _ rfl, hc _ _ rfl⟩
  have hargs : StrsAt (((s3W w).alloc (.cells #[.string sA, .string v100] 47)).alloc (.cells #[.string sA] 9)) (.slice (some ⟨(s3W w).heap.size + 1, 0, none⟩) 1 1) [sA.data.toList] := by
    refine ⟨_, 1, 1, fun _ => sA, rfl, rfl, Nat.le_refl _, by decide, fun i hi => ?_⟩
    obtain rfl : i = 0 := by omega
    exact ⟨_, 0, rfl, new_cell ((s3W w).alloc (.cells #[.string sA, .string v100] 47)) [.string sA] 9 (by simp) (c := 0) rfl⟩
  have hget := getGet_in ks A hks (some ⟨w.heap.size + 3, 0, none⟩) 4 4 s3P s3V s3R s3K smB (s3Rv w.heap.size) (s3Kv w.heap.size) mainB (.slice (some ⟨(s3W w).heap.size, 0, none⟩) 1 1) (.slice none 0 0) (.slice (some ⟨(s3W w).heap.size + 1, 0, none⟩) 1 1) [s3A0] [] [sA.data.toList] _ (hE.below hB2) (hin.below hb) s3_short hmods (ModsAt.nil _) (by decide) (by unfold Short; decide +kernel) ⟨by decide, fun m hm => (by cases hm)⟩ hargs (by decide +kernel)
  rw [show enF 4 s3P s3V s3R s3K smB = s3L from rfl, show (⟨mainB.data.toList, [s3A0], []⟩ : Fl) = s3F from rfl, s3_got] at hget
  generalize s3W w = w1 at *
  unfold mainB at hget
  unfold sA v100 at hget hB2
  replace hsm := Lib.hid hsm
  replace hget := Lib.hid hget
  clear hB hb hb1 hb2 hmods hargs hin hE
  go_enter Tryz.func5, Tryz.ntmps5
  go_wp2_with fail
  refine hsm.out.mono ?_
  rintro e w' ⟨rfl, rfl⟩
  go_wp2_with fail
  refine hget.out.mono ?_
  rintro e w3 ⟨⟨p, rv, xv, sv, ev, rfl, hf, hp, hr, hx, hs⟩, hb3⟩
  obtain rfl : ev = .nilIface := by
    rcases fault_form hf with ⟨_, h⟩ | ⟨h, _⟩
    · exact h
    · exact absurd rfl h
  obtain rfl : p = mainB := bytes_eq.1 hp
  obtain ⟨b0, o0, c0, e0, _, _, d1⟩ := hr.cell (k := 0) (p := sA) (q := v110) rfl
  subst e0
  obtain ⟨as1, cs, rfl⟩ := mods_lenT hs
  have hB4 := below_step hB2 hb3
  obtain ⟨ax, nx, cx, _, _, rfl, -⟩ := id hx
  unfold mainB v110 at *
  have hba := below_alloc w3 (.cells #[.string ⟨#[109, 97, 105, 110]⟩, .slice (some ⟨b0, o0, none⟩) 1 c0, .slice ax nx cx] 25)
  have hd1 := Below.cell_some hba d1
  clear hf hp hr hx hs hb3 hsm hget
  go_wp2_with fail
  go_wp2_with fail
  go_ret
  exact ⟨rfl, hB4.alloc hB4.size _⟩
end Go.Proofs.Pw
