/- Mq: walks and plain laws, joined: RefRise ClosedOf JoinMath With JoinOf MvsJoin MvsTells. Conditions: at each theorem. -/
import Derived.Test.YtnkcobdgaldkfaaGreatDoorMpe
import Derived.Test.YtnkcobdgaldkfaaGreatDoorMpb
import Derived.Test.YtnkcobdgaldkfaaGreatDoorMpc
import Derived.Test.YtnkcobdgaldkfaaGreatDoorMpd
import Derived.Test.YtnkcobdgaldkfaaGreatDoorMpa
import Derived.Deep.AppendLies
import Derived.Deep.RegionLaw
import Derived.Deep.RegionHeld2

/- B.risePaths. Conditions: a list of at most 1000000. -/
namespace Go.Proofs.Pw
open Go.RowKit
open Go.Lib hiding intOf

theorem riseB_all {n : Nat} {P V : Nat → ByteArray} (h : ∀ j, 0 < j → j < n → ¬ compareBytes (P j).data.toList (P (j - 1)).data.toList ≤ 0) : riseB (mdF n P V) = true := by
  unfold riseB
  rw [List.all_eq_true, mdF_length]
  intro i hi
  have hi := List.mem_range.1 hi
  rw [mdAt_mdF (show i < n by omega), mdAt_mdF (show i + 1 < n by omega)]
  have := h (i + 1) (by omega) (by omega)
  rw [Nat.add_sub_cancel] at this
  have h2 := compareBytes_ord.anti (P i).data.toList (P (i + 1)).data.toList
  exact decide_eq_true (h2.2 (by omega))
theorem riseB_not {n : Nat} {P V : Nat → ByteArray} {j : Nat} (hj : j + 1 < n) (h : compareBytes (P (j + 1)).data.toList (P j).data.toList ≤ 0) : riseB (mdF n P V) = false := by
  unfold riseB
  rw [List.all_eq_false]
  refine ⟨j, List.mem_range.2 (by rw [mdF_length]; omega), ?_⟩
  rw [mdAt_mdF (show j < n by omega), mdAt_mdF hj]
  have h2 := compareBytes_ord.anti (P j).data.toList (P (j + 1)).data.toList
  simp only [decide_eq_true_eq]
  intro h3
  have := h2.1 h3
  omega

set_option maxHeartbeats 4000000 in
set_option maxRecDepth 100000 in
theorem risePaths_calls (v : Value) (l : List Md) (w : World) (h : ModsAt w v l) (hl : l.length ≤ 1000000) :
    Calls Tryz.prog 92 #[v] w fun e w' => e = .returned (.bool (riseB l)) ∧ Below w.heap.size w w' := by
  obtain ⟨a, n, cap, P, V, rfl, rfl, hnc, hcap, hc⟩ := h
  rw [mdF_length] at hl
  replace hc := Lib.hid hc
  have HL := Lib.hid hl
  clear hl
  go_enter Tryz.func92, Tryz.ntmps92
  go_wp2_with fail
  go_loopw [3] (fun x wr => ∃ q : Nat, (q + 1 ≤ n ∨ q = 0) ∧ x = .int .i64 ((q + 1 : Nat) : Int) ∧ Below w.heap.size w wr ∧ Hid (∀ j, 0 < j → j < q + 1 → ¬ compareBytes (P j).data.toList (P (j - 1)).data.toList ≤ 0)) (fun x _ => n - (intOf x).toNat)
  case atStart => exact ⟨0, .inr rfl, rfl, Below.refl _ _, Lib.hid (fun j h1 h2 => by omega)⟩
  case round =>
    obtain ⟨q, hq, rfl, hBk, HA⟩ := hrel
    have hl := HL.out
    by_cases hlt : q + 1 < n
    · have hkn : ((q + 1 : Nat) : Int) < (n : Int) := by omega
      have hk1 : ((q + 1 : Nat) : Int) - 1 = (q : Int) := by omega
      have hkw := wrap_nat q (by omega)
      have hkw1 := wrap_nat (q + 1) (by omega)
      have hkn2 : (q : Int) < (n : Int) := by omega
      have hkn3 : (q : Int) + 1 < (n : Int) := by omega
      have hkn4 : ((q : Int) + 1).toNat = q + 1 := by omega
      have hkn5 : (0 : Int) ≤ (q : Int) + 1 := by omega
      have hkn6 : ¬ ((q : Int) + 1 < 0) := by omega
      obtain ⟨b2, o2, e3, d0, _⟩ := hc.out (q + 1) hlt
      obtain ⟨b3, o3, e4, d1, _⟩ := hc.out q (by omega)
      rw [e3] at e4
      injection e4 with e4
      injection e4 with e5 e6
      subst e5 e6
      subst e3
      replace d0 := Below.cell_some hBk d0
      replace d1 := Below.cell_some hBk d1
      have hle := leq_eq (P (q + 1)) (P q)
      by_cases hc0 : compareBytes (P (q + 1)).data.toList (P q).data.toList ≤ 0
      · rw [decide_eq_true hc0] at hle
        have HF := Lib.hid (riseB_not (V := V) hlt hc0)
        clear hc0 hl hq
        go_wp2_with fail
        have kqd0 := fun d os => cell_patch (d := d) (os := os) d0
        have kqd1 := fun d os => cell_patch (d := d) (os := os) d1
        refine wp_region_quiet_patch (by kernel_rfl) (by kernel_rfl) ?_
        repeat (go_big_quiet_step (fail))
        refine wpQuiet_nil ?_
        intro _ hw'
        obtain ⟨⟨dq, osq⟩, hw''⟩ := hw'
        subst hw''
        clear kqd0 kqd1
        have hb := below_patch wr dq osq
        replace hBk := below_step hBk hb
        clear hb
        generalize patch wr dq osq = wq1 at hBk ⊢
        go_wp2_with fail
        go_ret
        rw [HF.out]
        exact ⟨rfl, hBk⟩
      · rw [decide_eq_false hc0] at hle
        have HN : Hid (∀ j, 0 < j → j < q + 1 + 1 → ¬ compareBytes (P j).data.toList (P (j - 1)).data.toList ≤ 0) := Lib.hid (fun j h1 h2 => by
          by_cases e : j = q + 1
          · subst e; exact hc0
          · exact HA.out j h1 (by omega))
        clear hc0 hl hq
        go_wp2_with fail
        have kqd0 := fun d os => cell_patch (d := d) (os := os) d0
        have kqd1 := fun d os => cell_patch (d := d) (os := os) d1
        refine wp_region_quiet_patch (by kernel_rfl) (by kernel_rfl) ?_
        repeat (go_big_quiet_step (fail))
        refine wpQuiet_nil ?_
        intro _ hw'
        obtain ⟨⟨dq, osq⟩, hw''⟩ := hw'
        subst hw''
        clear kqd0 kqd1
        have hb := below_patch wr dq osq
        replace hBk := below_step hBk hb
        clear hb
        generalize patch wr dq osq = wq1 at hBk ⊢
        go_wp2_with fail
        go_roundw
        case rel => exact ⟨q + 1, .inl (by omega), by go_num, hBk, Lib.hid (fun j h1 h2 => by have := HN.out j h1 h2; omega)⟩
        case measure => simp [intOf]; omega
    · have HF : Hid (riseB (mdF n P V) = true) := Lib.hid (riseB_all (fun j h1 h2 => HA.out j h1 (by omega)))
      have hnk : ¬ ((q + 1 : Nat) : Int) < (n : Int) := by omega
      have hnk2 : ¬ (q : Int) + 1 < (n : Int) := by omega
      clear hlt hl hq
      go_wp2_with fail
      go_ret
      rw [HF.out]
      exact ⟨rfl, hBk⟩
end Go.Proofs.Pw

/- B.ClosedOf: is a list a selection that is closed, and the fault. Conditions: an index that is short, texts of at most 1000000 bytes, lists of at most 10000. -/
namespace Go.Proofs.Pw
open Go.RowKit
open Go.Lib hiding intOf

theorem rootsErr_at {l : List En} {roots : List Md} (h : (rootsErr l roots).1 = 0) : rootsErr l roots = (0, -1) := by
  unfold rootsErr at h ⊢
  exact firstE_none (firstE_zero h)
theorem closB_all {l : List En} {roots sel : List Md} (h1 : ∀ m ∈ roots, hasB sel m = true) (h2 : ∀ m ∈ sel, ∀ r ∈ reqsAt l m, hasB sel r = true) : closB l roots sel = true := by
  unfold closB
  rw [under_mem]
  intro m hm
  rcases List.mem_append.1 hm with h | h
  · exact h1 m h
  · obtain ⟨x, hx, hr⟩ := List.mem_flatMap.1 h
    exact h2 x hx m hr
theorem closB_no1 {l : List En} {roots sel : List Md} {m : Md} (hm : m ∈ roots) (h : hasB sel m = false) : closB l roots sel = false := by
  cases hc : closB l roots sel
  · rfl
  · unfold closB at hc
    have := under_mem.1 hc m (List.mem_append.2 (.inl hm))
    rw [h] at this; cases this
theorem closB_no2 {l : List En} {roots sel : List Md} {x m : Md} (hx : x ∈ sel) (hm : m ∈ reqsAt l x) (h : hasB sel m = false) : closB l roots sel = false := by
  cases hc : closB l roots sel
  · rfl
  · unfold closB at hc
    have := under_mem.1 hc m (List.mem_append.2 (.inr (List.mem_flatMap.2 ⟨x, hx, hm⟩)))
    rw [h] at this; cases this

set_option maxHeartbeats 16000000 in
set_option maxRecDepth 100000 in
theorem closedOf_in (a : Option Addr) (n cap : Nat) (P V : Nat → ByteArray) (R : Nat → List Md) (K : Nat → List Str) (B : Nat → Bool) (Rv Kv : Nat → Value) (rv sv : Value) (roots sel : List Md) (w : World) (h : EntsIn w a n cap P V R K B Rv Kv) (hr : ModsAt w rv roots) (hv : ModsAt w sv sel) (hs : ShortI (enF n P V R K B)) (hl : roots.length ≤ 10000) (hl2 : sel.length ≤ 10000) (hrs : ∀ m ∈ roots, m.2.length ≤ 1000000) (hss : ∀ m ∈ sel, m.2.length ≤ 1000000) :
    Calls Tryz.prog 46 #[.slice a n cap, rv, sv] w fun e w' => e = .returned (.tuple #[.bool (closR (enF n P V R K B) roots sel), fltV (closErr (enF n P V R K B) roots sel)]) ∧ Below w.heap.size w w' := by
  have hn : n ≤ 1000000 := by have := hs.len; rwa [enF_length] at this
  have HR := Lib.hid hr
  have HV := Lib.hid hv
  obtain ⟨a1, m1, cap1, Q1, U1, rfl, e1, _, _, hc1⟩ := id hr
  obtain ⟨a2, m2, cap2, Q2, U2, rfl, e2, _, _, hc2⟩ := id hv
  have hm1 : m1 ≤ 10000 := by rw [e1, mdF_length] at hl; exact hl
  have hm2 : m2 ≤ 10000 := by rw [e2, mdF_length] at hl2; exact hl2
  have hB := below_alloc w (.cells #[.int .i64 0, .int .i64 0] 49)
  have hz := box2_alloc w (.int .i64 0) (.int .i64 0) 49
  have hif := fun (W : World) (hb : Below w.heap.size w W) => indexFault_in a n cap P V R K B Rv Kv W (h.below hb) hs
  have hr1 := fun (W : World) (hb : Below w.heap.size w W) => rootsFault_in a n cap P V R K B Rv Kv (.slice a1 m1 cap1) roots W (h.below hb) (hr.below hb) hn (by omega)
  have hr2 := fun (W : World) (hb : Below w.heap.size w W) => rootsFault_in a n cap P V R K B Rv Kv (.slice a2 m2 cap2) sel W (h.below hb) (hv.below hb) hn (by omega)
  have hri := fun (W : World) (hb : Below w.heap.size w W) => risePaths_calls (.slice a2 m2 cap2) sel W (hv.below hb) (by omega)
  have hha := fun (p q : ByteArray) (hq : q.size ≤ 1000000000) (W : World) (hb : Below w.heap.size w W) => refHas_calls (.slice a2 m2 cap2) sel p q W (hv.below hb) (fun m hm => by have := hss m hm; omega) hq
  have hfo := fun (p v : ByteArray) (W : World) (hb : Below w.heap.size w W) => findOf_in a n cap P V R K B Rv Kv p v W (h.below hb) hn
  have H := Lib.hid h
  have HSH := Lib.hid hs
  obtain ⟨l, hl0⟩ : ∃ l, enF n P V R K B = l := ⟨_, rfl⟩
  have HEN : Hid (∀ j, j < n → enAt l j = ⟨((P j).data.toList, (V j).data.toList), R j, K j, B j⟩) := Lib.hid (fun j hj => by rw [← hl0]; exact enAt_enF hj)
  have HLEN : Hid (l.length = n) := Lib.hid (by rw [← hl0, enF_length])
  have HSL : Hid (∀ j, j < n → (R j).length ≤ 1000000 ∧ ∀ m ∈ R j, m.2.length ≤ 1000000) := Lib.hid (fun j hj => ⟨(HSH.out.at_ hj).2.2.2.1.1, fun m hm => ((HSH.out.at_ hj).2.2.2.1.2 m hm).2⟩)
  simp only [hl0] at hif hr1 hr2 hfo ⊢
  have HQ1 : Hid (∀ j, j < m1 → ((Q1 j).data.toList, (U1 j).data.toList) ∈ roots ∧ (U1 j).size ≤ 1000000) := Lib.hid (fun j hj => by
    have h1 : ((Q1 j).data.toList, (U1 j).data.toList) ∈ roots := by rw [e1]; exact List.mem_of_getElem? (mdF_get m1 Q1 U1 j hj)
    have h2 := hrs _ h1
    simp only [Array.length_toList] at h2
    exact ⟨h1, h2⟩)
  have HQ2 : Hid (∀ j, j < m2 → ((Q2 j).data.toList, (U2 j).data.toList) ∈ sel ∧ (U2 j).size ≤ 1000000) := Lib.hid (fun j hj => by
    have h1 : ((Q2 j).data.toList, (U2 j).data.toList) ∈ sel := by rw [e2]; exact List.mem_of_getElem? (mdF_get m2 Q2 U2 j hj)
    have h2 := hss _ h1
    simp only [Array.length_toList] at h2
    exact ⟨h1, h2⟩)
  have HE1 := Lib.hid e1
  have HE2 := Lib.hid e2
  have HCE : Hid (closErr l roots sel = orE (orE (idxErr l) (rootsErr l roots)) (orE (rootsErr l sel) (if riseB sel = true then (0, -1) else (8, -1))) ∧ ((closErr l roots sel).1 ≠ 0 → closR l roots sel = false) ∧ ((closErr l roots sel).1 = 0 → closR l roots sel = closB l roots sel)) := Lib.hid ⟨rfl, fun h0 => by unfold closR; rw [if_neg h0], fun h0 => by unfold closR; rw [if_pos h0]⟩
  have HRI : Hid ((idxErr l).1 = 0 → RightI l) := Lib.hid (fun h => rightI_of h)
  have HZ1 : Hid ((rootsErr l roots).1 = 0 → rootsErr l roots = (0, -1)) := Lib.hid rootsErr_at
  have HZ2 : Hid ((rootsErr l sel).1 = 0 → rootsErr l sel = (0, -1) ∧ ∀ m ∈ sel, ∃ e ∈ l, e.md = m) := Lib.hid (fun h => ⟨rootsErr_at h, rootsErr_zero.1 h⟩)
  generalize idxErr l = F1 at *
  generalize rootsErr l roots = F2 at *
  generalize rootsErr l sel = F3 at *
  generalize riseB sel = RB at *
  generalize closErr l roots sel = CE at *
  generalize closR l roots sel = CR at *
  obtain ⟨c1, x1⟩ := F1
  obtain ⟨c2, x2⟩ := F2
  obtain ⟨c3, x3⟩ := F3
  unfold fltV at hif hr1 hr2
  simp only at hif hr1 hr2 HRI HZ1 HZ2
  replace hif := Lib.hid hif
  replace hr1 := Lib.hid hr1
  replace hr2 := Lib.hid hr2
  replace hri := Lib.hid hri
  replace hha := Lib.hid hha
  replace hfo := Lib.hid hfo
  replace hc1 := Lib.hid hc1
  replace hc2 := Lib.hid hc2
  clear h hs hr hv hl hl2 hrs hss e1 e2 hl0
  go_enter Tryz.func46, Tryz.ntmps46
  go_wp2_with fail
  generalize w.alloc (.cells #[.int .i64 0, .int .i64 0] 49) = w1 at *
  refine (hif.out _ hB).mono ?_
  rintro e w2 ⟨rfl, hb⟩
  have hba := below_alloc w2 (.cells #[.int .i64 (c1 : Nat), .int .i64 x1] 49)
  have hx := box2_alloc w2 (.int .i64 (c1 : Nat)) (.int .i64 x1) 49
  have hs2 : w.heap.size < w2.heap.size := Nat.lt_of_lt_of_le (lt_of_cell hz.c0) hb.size
  replace hb := below_step hb hba
  replace hz := hz.below hb
  replace hB := below_step hB hb
  clear hb hba hif
  by_cases h1 : c1 = 0
  · have hRI := Lib.hid (HRI.out h1)
    subst h1
    obtain ⟨x0, x1', xf⟩ := id hx
    go_wp2_with fail
    generalize w2.alloc (.cells #[.int .i64 ((0 : Nat) : Int), .int .i64 x1] 49) = w3 at *
    generalize w2.heap.size = bx at *
    have nx1 : w.heap.size ≠ bx := by omega
    have nx2 : bx ≠ w.heap.size := by omega
    clear x0 x1' xf
    obtain ⟨x0, x1', xf⟩ := id hx
    refine (hr1.out _ hB).mono ?_
    rintro e w4 ⟨rfl, hb⟩
    replace hz := hz.below hb
    replace hx := hx.below hb
    replace hB := below_step hB hb
    clear hb hr1 x0 x1' xf HRI
    have hx2 := hx.sto (.int .i64 (c2 : Nat)) (.int .i64 x2)
    have hz2 := hz.sto_away nx1 (.int .i64 (c2 : Nat)) (.int .i64 x2)
    have hB2 := below_sto2 hB (b := bx) (by omega) (.int .i64 (c2 : Nat)) (.int .i64 x2)
    obtain ⟨x0, x1', xf⟩ := id hx
    by_cases h2 : c2 = 0
    · have HZ := HZ1.out h2
      subst h2
      clear hx hz hB HZ1
      go_wp2_with fail
      generalize (w4.setCell ⟨bx, 0, none⟩ (.int .i64 ((0 : Nat) : Int))).setCell ⟨bx, 1, none⟩ (.int .i64 x2) = w5 at *
      clear x0 x1' xf
      have hx := hx2
      have hz := hz2
      have hB := hB2
      clear hx2 hz2 hB2
      obtain ⟨x0, x1', xf⟩ := id hx
      go_wp2_with fail
      refine (hr2.out _ hB).mono ?_
      rintro e w6 ⟨rfl, hb⟩
      replace hz := hz.below hb
      replace hx := hx.below hb
      replace hB := below_step hB hb
      clear hb hr2 x0 x1' xf
      have hx2 := hx.sto (.int .i64 (c3 : Nat)) (.int .i64 x3)
      have hz2 := hz.sto_away nx1 (.int .i64 (c3 : Nat)) (.int .i64 x3)
      have hB2 := below_sto2 hB (b := bx) (by omega) (.int .i64 (c3 : Nat)) (.int .i64 x3)
      obtain ⟨x0, x1', xf⟩ := id hx
      by_cases h3 : c3 = 0
      · have HZS := Lib.hid (HZ2.out h3)
        subst h3
        clear hx hz hB HZ2
        go_wp2_with fail
        generalize (w6.setCell ⟨bx, 0, none⟩ (.int .i64 ((0 : Nat) : Int))).setCell ⟨bx, 1, none⟩ (.int .i64 x3) = w7 at *
        clear x0 x1' xf
        have hx := hx2
        have hz := hz2
        have hB := hB2
        clear hx2 hz2 hB2
        obtain ⟨x0, x1', xf⟩ := id hx
        go_wp2_with fail
        refine (hri.out _ hB).mono ?_
        rintro e w8 ⟨rfl, hb⟩
        replace hz := hz.below hb
        replace hx := hx.below hb
        replace hB := below_step hB hb
        clear hb hri x0 x1' xf
        cases RB with
        | false =>
          have HE : Hid (CE = (8, -1) ∧ CR = false) := Lib.hid (by
            have e : CE = (8, -1) := by rw [HCE.out.1]; unfold orE; simp
            exact ⟨e, HCE.out.2.1 (by rw [e]; decide)⟩)
          have hbe := fun W => refBare_calls 8 W
          unfold fltV at hbe
          replace hbe := Lib.hid hbe
          obtain ⟨x0, x1', xf⟩ := id hx
          clear HCE
          go_wp2_with fail
          refine (hbe.out _).mono ?_
          rintro e w9 ⟨rfl, hb⟩
          replace hz := hz.below hb
          replace hx := hx.below hb
          replace hB := below_step hB hb
          clear hb hbe x0 x1' xf
          have hx2 := hx.sto (.int .i64 8) (.int .i64 (-1))
          have hz2 := hz.sto_away nx1 (.int .i64 8) (.int .i64 (-1))
          have hB2 := below_sto2 hB (b := bx) (by omega) (.int .i64 8) (.int .i64 (-1))
          obtain ⟨x0, x1', xf⟩ := id hx
          clear hx hz hB
          go_wp2_with fail
          generalize (w9.setCell ⟨bx, 0, none⟩ (.int .i64 8)).setCell ⟨bx, 1, none⟩ (.int .i64 (-1)) = w10 at *
          clear x0 x1' xf
          obtain ⟨x0, x1', xf⟩ := id hx2
          obtain ⟨z0, z1, zf⟩ := id hz2
          go_wp2_with fail
          go_region
          all_goals
            go_wp2_with fail
            refine bodyPost_ret (v := .tuple #[.bool false, fltV (8, -1)]) (by simp [results, Tryz.results46, fltV, go_sem, *]) rfl ?_
            rw [HE.out.1, HE.out.2]
            exact ⟨rfl, (hB2.drew.setCell (p := ⟨w.heap.size, 0, none⟩) (Nat.le_refl _) _).setCell (p := ⟨w.heap.size, 1, none⟩) (Nat.le_refl _) _⟩
        | true =>
          have HZ0 := HZS.out.1
          have hx3e : x3 = -1 := by injection HZ0
          subst hx3e
          have HCE1 : Hid (CE = (0, -1)) := Lib.hid (by rw [HCE.out.1]; unfold orE; simp)
          have HCE2 : Hid (CR = closB l roots sel) := Lib.hid (HCE.out.2.2 (by rw [HCE1.out]))
          obtain ⟨x0, x1', xf⟩ := id hx
          have hLB := Below.refl w8.heap.size w8
          clear HCE HZ0
          go_wp2_with fail
          go_loopw [10, 11] (fun i _ wr => ∃ k : Nat, k ≤ m1 ∧ i = .int .i64 k ∧ Below w8.heap.size w8 wr ∧ Hid (∀ j, j < k → hasB sel ((Q1 j).data.toList, (U1 j).data.toList) = true)) (fun i _ _ => m1 - (intOf i).toNat)
          case atStart => exact ⟨0, Nat.zero_le _, rfl, hLB, Lib.hid (fun j hj => absurd hj (Nat.not_lt_zero _))⟩
          case round =>
            obtain ⟨k, hk, rfl, hBr, HA⟩ := hrel
            have hBk := below_step hB hBr
            by_cases hlt : k < m1
            · have hkn : (k : Int) < (m1 : Int) := by omega
              obtain ⟨b1, o1, ea, y0, y1⟩ := hc1.out k hlt
              replace y0 := Below.cell_some hBk y0
              replace y1 := Below.cell_some hBk y1
              subst ea
              have hf := hha.out (Q1 k) (U1 k) (by have := (HQ1.out k hlt).2; omega) wr hBk
              cases hD : hasB sel ((Q1 k).data.toList, (U1 k).data.toList) with
              | true =>
                rw [hD] at hf
                have HA' : Hid (∀ j, j < k + 1 → hasB sel ((Q1 j).data.toList, (U1 j).data.toList) = true) := Lib.hid (fun j hj => by
                  by_cases e : j = k
                  · subst e; exact hD
                  · exact HA.out j (by omega))
                replace hf := Lib.hid hf
                clear hD HA
                go_wp2_with fail
                refine hf.out.mono ?_
                rintro e w9 ⟨rfl, hb⟩
                replace hBr := below_step hBr hb
                clear hb hf y0 y1 hBk
                go_wp2_with fail
                go_roundw
                case rel => exact ⟨k + 1, by omega, by go_num, hBr, HA'⟩
                case measure => simp [intOf]; omega
              | false =>
                rw [hD] at hf
                have HC : Hid (CR = false) := Lib.hid (by rw [HCE2.out]; exact closB_no1 (HQ1.out k hlt).1 hD)
                replace hf := Lib.hid hf
                clear hD HA
                go_wp2_with fail
                refine hf.out.mono ?_
                rintro e w9 ⟨rfl, hb⟩
                have hB7 := below_step hBk hb
                have hz7 := (hz.below hBr).below hb
                have HCE := HCE1
                clear hb hf y0 y1 hBk
                have hfi := fun W => refFine_calls W
                unfold fltV at hfi
                replace hfi := Lib.hid hfi
                go_wp2_with fail
                refine (hfi.out _).mono ?_
                rintro e w8 ⟨rfl, hb⟩
                have hB8 := below_step hB7 hb
                obtain ⟨z0, z1, zf⟩ := hz7.below hb
                clear hb hfi
                go_wp2_with fail
                refine bodyPost_ret (v := .tuple #[.bool false, fltV (0, -1)]) (by simp [results, Tryz.results46, fltV, go_sem, *]) rfl ?_
                rw [HC.out, HCE.out]
                exact ⟨rfl, (hB8.setCell (p := ⟨w.heap.size, 0, none⟩) (Nat.le_refl _) _).setCell (p := ⟨w.heap.size, 1, none⟩) (Nat.le_refl _) _⟩
            · have HA1 : Hid (∀ m ∈ roots, hasB sel m = true) := Lib.hid (fun r hr => by
                rw [HE1.out] at hr
                obtain ⟨j, hj⟩ := List.getElem?_of_mem hr
                have hjl := (List.getElem?_eq_some_iff.1 hj).1
                rw [mdF_length] at hjl
                rw [mdF_get m1 Q1 U1 j hjl] at hj
                rw [← Option.some.inj hj]
                exact HA.out j (by omega))
              have hnk : ¬ (k : Int) < (m1 : Int) := by omega
              clear hlt hk HA hBk
              go_wp2_with fail
              clear hnk
              generalize wr = wl at *
              go_loopw [12, 13, 14, 15] (fun i _ _ _ wr => ∃ k : Nat, k ≤ m2 ∧ i = .int .i64 k ∧ Below w8.heap.size w8 wr ∧ Hid (∀ j, j < k → ∀ r ∈ reqsAt l ((Q2 j).data.toList, (U2 j).data.toList), hasB sel r = true)) (fun i _ _ _ _ => m2 - (intOf i).toNat)
              case atStart => exact ⟨0, Nat.zero_le _, rfl, hBr, Lib.hid (fun j hj => absurd hj (Nat.not_lt_zero _))⟩
              case round =>
                clear hBr
                obtain ⟨k, hk, rfl, hBr, HA⟩ := hrel
                have hBk := below_step hB hBr
                by_cases hlt : k < m2
                · have hkn : (k : Int) < (m2 : Int) := by omega
                  obtain ⟨b1, o1, ea, y0, y1⟩ := hc2.out k hlt
                  replace y0 := Below.cell_some hBk y0
                  replace y1 := Below.cell_some hBk y1
                  subst ea
                  have hf := hfo.out (Q2 k) (U2 k) wr hBk
                  obtain ⟨e0, he0, he1⟩ := HZS.out.2 _ (HQ2.out k hlt).1
                  obtain ⟨hat1, hat2, _⟩ := hRI.out.at_ he0 he1
                  rw [HLEN.out] at hat1
                  rw [hat2] at hf
                  have HX : Hid (reqsAt l ((Q2 k).data.toList, (U2 k).data.toList) = (enAt l (findE l ((Q2 k).data.toList, (U2 k).data.toList)).toNat).reqs) := Lib.hid rfl
                  generalize (findE l ((Q2 k).data.toList, (U2 k).data.toList)).toNat = x at *
                  have hxn : (x : Int) < (n : Int) := by omega
                  obtain ⟨b2, o2, eb, hcell⟩ := H.out.at_ x hat1
                  obtain ⟨a4, n4, c4, P4, V4, e3, e4, _, _, hc4⟩ := H.out.reqs x hat1
                  have hn4 : n4 ≤ 1000000 := by
                    have := (HSL.out x hat1).1
                    rw [e4, mdF_length] at this
                    exact this
                  have HQ4 : Hid (∀ j, j < n4 → (V4 j).size ≤ 1000000) := Lib.hid (fun j hj => by
                    have := (HSL.out x hat1).2 _ (by rw [e4]; exact List.mem_of_getElem? (mdF_get n4 P4 V4 j hj))
                    simp only [Array.length_toList] at this
                    exact this)
                  have HX2 : Hid (reqsAt l ((Q2 k).data.toList, (U2 k).data.toList) = mdF n4 P4 V4) := Lib.hid (by rw [HX.out, HEN.out x hat1, e4])
                  rw [e3] at hcell
                  have d2 := hcell.c2
                  subst eb
                  have hxn0 : (x : Int) < (n : Int) := by omega
                  replace hf := Lib.hid hf
                  replace hc4 := Lib.hid hc4
                  clear hat2 he0 he1 HX e3 e4 hcell
                  go_wp2_with fail
                  refine hf.out.mono ?_
                  rintro e w9 ⟨rfl, hb⟩
                  replace hBr := below_step hBr hb
                  replace hBk := below_step hBk hb
                  replace d2 := Below.cell_some hBk d2
                  clear hb hf y0 y1
                  go_wp2_with fail
                  generalize w9 = wm at *
                  clear d2 hBk
                  go_loopw [14, 15] (fun i _ wr => ∃ q : Nat, q ≤ n4 ∧ i = .int .i64 q ∧ Below w8.heap.size w8 wr ∧ Hid (∀ j, j < q → hasB sel ((P4 j).data.toList, (V4 j).data.toList) = true)) (fun i _ _ => n4 - (intOf i).toNat)
                  case atStart => exact ⟨0, Nat.zero_le _, rfl, hBr, Lib.hid (fun j hj => absurd hj (Nat.not_lt_zero _))⟩
                  case round =>
                    clear hBr
                    obtain ⟨q, hq, rfl, hBr, HAQ⟩ := hrel
                    have hBk := below_step hB hBr
                    by_cases hlq : q < n4
                    · have hqn : (q : Int) < (n4 : Int) := by omega
                      obtain ⟨b3, o3, ec, y0, y1⟩ := hc4.out q hlq
                      replace y0 := Below.cell_some hBk y0
                      replace y1 := Below.cell_some hBk y1
                      subst ec
                      have hf := hha.out (P4 q) (V4 q) (by have := HQ4.out q hlq; omega) wr hBk
                      cases hD : hasB sel ((P4 q).data.toList, (V4 q).data.toList) with
                      | true =>
                        rw [hD] at hf
                        have HA' : Hid (∀ j, j < q + 1 → hasB sel ((P4 j).data.toList, (V4 j).data.toList) = true) := Lib.hid (fun j hj => by
                          by_cases e : j = q
                          · subst e; exact hD
                          · exact HAQ.out j (by omega))
                        replace hf := Lib.hid hf
                        clear hD HAQ
                        go_wp2_with fail
                        refine hf.out.mono ?_
                        rintro e w9 ⟨rfl, hb⟩
                        replace hBr := below_step hBr hb
                        clear hb hf y0 y1 hBk
                        go_wp2_with fail
                        go_roundw
                        case rel => exact ⟨q + 1, by omega, by go_num, hBr, HA'⟩
                        case measure => simp [intOf]; omega
                      | false =>
                        rw [hD] at hf
                        have HC : Hid (CR = false) := Lib.hid (by rw [HCE2.out]; exact closB_no2 (HQ2.out k hlt).1 (by rw [HX2.out]; exact List.mem_of_getElem? (mdF_get n4 P4 V4 q hlq)) hD)
                        replace hf := Lib.hid hf
                        clear hD HAQ HA
                        go_wp2_with fail
                        refine hf.out.mono ?_
                        rintro e w9 ⟨rfl, hb⟩
                        have hB7 := below_step hBk hb
                        have hz7 := (hz.below hBr).below hb
                        have HCE := HCE1
                        clear hb hf y0 y1 hBk
                        have hfi := fun W => refFine_calls W
                        unfold fltV at hfi
                        replace hfi := Lib.hid hfi
                        go_wp2_with fail
                        refine (hfi.out _).mono ?_
                        rintro e w8 ⟨rfl, hb⟩
                        have hB8 := below_step hB7 hb
                        obtain ⟨z0, z1, zf⟩ := hz7.below hb
                        clear hb hfi
                        go_wp2_with fail
                        refine bodyPost_ret (v := .tuple #[.bool false, fltV (0, -1)]) (by simp [results, Tryz.results46, fltV, go_sem, *]) rfl ?_
                        rw [HC.out, HCE.out]
                        exact ⟨rfl, (hB8.setCell (p := ⟨w.heap.size, 0, none⟩) (Nat.le_refl _) _).setCell (p := ⟨w.heap.size, 1, none⟩) (Nat.le_refl _) _⟩
                    · have HA' : Hid (∀ j, j < k + 1 → ∀ r ∈ reqsAt l ((Q2 j).data.toList, (U2 j).data.toList), hasB sel r = true) := Lib.hid (fun j hj => by
                        by_cases e : j = k
                        · subst e
                          intro r hr
                          rw [HX2.out] at hr
                          obtain ⟨i, hi⟩ := List.getElem?_of_mem hr
                          have hil := (List.getElem?_eq_some_iff.1 hi).1
                          rw [mdF_length] at hil
                          rw [mdF_get n4 P4 V4 i hil] at hi
                          rw [← Option.some.inj hi]
                          exact HAQ.out i (by omega)
                        · exact HA.out j (by omega))
                      have hnq : ¬ (q : Int) < (n4 : Int) := by omega
                      clear hlq hq HAQ HA hBk
                      go_wp2_with fail
                      go_roundw
                      case rel => exact ⟨k + 1, by omega, by go_num, hBr, HA'⟩
                      case measure => simp [intOf]; omega
                · have HC : Hid (CR = true) := Lib.hid (by
                    rw [HCE2.out]
                    refine closB_all HA1.out (fun r hr => ?_)
                    rw [HE2.out] at hr
                    obtain ⟨j, hj⟩ := List.getElem?_of_mem hr
                    have hjl := (List.getElem?_eq_some_iff.1 hj).1
                    rw [mdF_length] at hjl
                    rw [mdF_get m2 Q2 U2 j hjl] at hj
                    rw [← Option.some.inj hj]
                    exact HA.out j (by omega))
                  have hnk : ¬ (k : Int) < (m2 : Int) := by omega
                  have hB7 := hBk
                  have hz7 := hz.below hBr
                  have HCE := HCE1
                  clear hlt hk HA hBk
                  have hfi := fun W => refFine_calls W
                  unfold fltV at hfi
                  replace hfi := Lib.hid hfi
                  go_wp2_with fail
                  refine (hfi.out _).mono ?_
                  rintro e w8 ⟨rfl, hb⟩
                  have hB8 := below_step hB7 hb
                  obtain ⟨z0, z1, zf⟩ := hz7.below hb
                  clear hb hfi
                  go_wp2_with fail
                  refine bodyPost_ret (v := .tuple #[.bool true, fltV (0, -1)]) (by simp [results, Tryz.results46, fltV, go_sem, *]) rfl ?_
                  rw [HC.out, HCE.out]
                  exact ⟨rfl, (hB8.setCell (p := ⟨w.heap.size, 0, none⟩) (Nat.le_refl _) _).setCell (p := ⟨w.heap.size, 1, none⟩) (Nat.le_refl _) _⟩
      · have HE : Hid (CE = (c3, x3) ∧ CR = false) := Lib.hid (by
          have e : CE = (c3, x3) := by rw [HCE.out.1]; unfold orE; simp [h3]
          exact ⟨e, HCE.out.2.1 (by rw [e]; exact h3)⟩)
        have hc9 : (0 : Int) < (c3 : Int) := by omega
        have hc8 : ((c3 : Int) == 0) = false := beq_eq_false_iff_ne.2 (by omega)
        clear hx hz hB HCE HZ2 h3
        go_wp2_with fail
        generalize (w6.setCell ⟨bx, 0, none⟩ (.int .i64 (c3 : Nat))).setCell ⟨bx, 1, none⟩ (.int .i64 x3) = w7 at *
        clear x0 x1' xf
        obtain ⟨x0, x1', xf⟩ := id hx2
        obtain ⟨z0, z1, zf⟩ := id hz2
        go_wp2_with fail
        go_region
        all_goals
          go_wp2_with fail
          refine bodyPost_ret (v := .tuple #[.bool false, fltV (c3, x3)]) (by simp [results, Tryz.results46, fltV, go_sem, *]) rfl ?_
          rw [HE.out.1, HE.out.2]
          exact ⟨rfl, (hB2.drew.setCell (p := ⟨w.heap.size, 0, none⟩) (Nat.le_refl _) _).setCell (p := ⟨w.heap.size, 1, none⟩) (Nat.le_refl _) _⟩
    · have HE : Hid (CE = (c2, x2) ∧ CR = false) := Lib.hid (by
        have e : CE = (c2, x2) := by rw [HCE.out.1]; unfold orE; simp [h2]
        exact ⟨e, HCE.out.2.1 (by rw [e]; exact h2)⟩)
      have hc9 : (0 : Int) < (c2 : Int) := by omega
      have hc8 : ((c2 : Int) == 0) = false := beq_eq_false_iff_ne.2 (by omega)
      clear hx hz hB HCE HZ1 HZ2 h2
      go_wp2_with fail
      generalize (w4.setCell ⟨bx, 0, none⟩ (.int .i64 (c2 : Nat))).setCell ⟨bx, 1, none⟩ (.int .i64 x2) = w5 at *
      clear x0 x1' xf
      obtain ⟨x0, x1', xf⟩ := id hx2
      obtain ⟨z0, z1, zf⟩ := id hz2
      go_wp2_with fail
      go_region
      all_goals
        go_wp2_with fail
        refine bodyPost_ret (v := .tuple #[.bool false, fltV (c2, x2)]) (by simp [results, Tryz.results46, fltV, go_sem, *]) rfl ?_
        rw [HE.out.1, HE.out.2]
        exact ⟨rfl, (hB2.drew.setCell (p := ⟨w.heap.size, 0, none⟩) (Nat.le_refl _) _).setCell (p := ⟨w.heap.size, 1, none⟩) (Nat.le_refl _) _⟩
  · have HE : Hid (CE = (c1, x1) ∧ CR = false) := Lib.hid (by
      have e : CE = (c1, x1) := by rw [HCE.out.1]; unfold orE; simp [h1]
      exact ⟨e, HCE.out.2.1 (by rw [e]; exact h1)⟩)
    have hc9 : (0 : Int) < (c1 : Int) := by omega
    have hc8 : ((c1 : Int) == 0) = false := beq_eq_false_iff_ne.2 (by omega)
    obtain ⟨x0, x1', xf⟩ := id hx
    obtain ⟨z0, z1, zf⟩ := id hz
    clear HCE HRI HZ1 HZ2 h1
    go_wp2_with fail
    generalize w2.alloc (.cells #[.int .i64 (c1 : Nat), .int .i64 x1] 49) = w3 at *
    generalize w2.heap.size = bx at *
    go_region
    all_goals
      go_wp2_with fail
      refine bodyPost_ret (v := .tuple #[.bool false, fltV (c1, x1)]) (by simp [results, Tryz.results46, fltV, go_sem, *]) rfl ?_
      rw [HE.out.1, HE.out.2]
      exact ⟨rfl, (hB.drew.setCell (p := ⟨w.heap.size, 0, none⟩) (Nat.le_refl _) _).setCell (p := ⟨w.heap.size, 1, none⟩) (Nat.le_refl _) _⟩
end Go.Proofs.Pw

/- Plain mathematics of B.with and B.JoinOf: one module more of what is joined. No program in sight. -/
namespace Go.Proofs.Pw
open Go.Lib hiding intOf

/-- a module more: of its path the greater version -/
def withL : List Md → Md → List Md
  | [], m => [m]
  | x :: r, m => if compareBytes m.1 x.1 ≤ 0 then (if x.1 = m.1 then (m.1, verMax x.2 m.2) :: r else m :: x :: r) else x :: withL r m
def joinO (a b : List Md) : List Md := ((a ++ b).filter fun m => decide (mdErr m = 0)).foldl withL []
theorem withL_len (m : Md) : ∀ l : List Md, (withL l m).length ≤ l.length + 1
  | [] => by simp [withL]
  | x :: r => by
    have ih := withL_len m r
    unfold withL
    split
    · split
      · simp
      · simp
    · simp only [List.length_cons]; omega
theorem verMax_of {a b : Str} (ha : verErr a = 0) (hb : verErr b = 0) : (verMax a b = a ∧ verCmp b a ≤ 0) ∨ (verMax a b = b ∧ verCmp a b < 0) := by
  have e : verMax a b = if verCmp a b < 0 then b else a := by unfold verMax; rw [if_neg (fun h => h.1 ha), if_neg (fun h => h ha), if_neg (fun h => h hb)]
  by_cases h : verCmp a b < 0
  · exact .inr ⟨by rw [e, if_pos h], h⟩
  · refine .inl ⟨by rw [e, if_neg h], ?_⟩
    have := verCmp_ord.anti a b
    omega
theorem verMax_some (a b : Str) : verMax a b = [] ∨ verMax a b = a ∨ verMax a b = b := by
  unfold verMax
  split
  · exact .inl rfl
  · split
    · exact .inr (.inr rfl)
    · split
      · exact .inr (.inl rfl)
      · split
        · exact .inr (.inr rfl)
        · exact .inr (.inl rfl)
theorem withL_size {B : Nat} {m : Md} (hm : m.2.length ≤ B) : ∀ {l : List Md}, (∀ x ∈ l, x.2.length ≤ B) → ∀ y ∈ withL l m, y.2.length ≤ B
  | [], _, y, hy => by simp [withL] at hy; subst hy; exact hm
  | x :: r, hl, y, hy => by
    unfold withL at hy
    split at hy
    · split at hy
      · rcases List.mem_cons.1 hy with rfl | hy
        · show (verMax x.2 m.2).length ≤ B
          rcases verMax_some x.2 m.2 with e | e | e
          · rw [e]; exact Nat.zero_le _
          · rw [e]; exact hl x (by simp)
          · rw [e]; exact hm
        · exact hl y (by simp [hy])
      · rcases List.mem_cons.1 hy with rfl | hy
        · exact hm
        · exact hl y hy
    · rcases List.mem_cons.1 hy with rfl | hy
      · exact hl y (by simp)
      · exact withL_size hm (fun z hz => hl z (by simp [hz])) y hy
theorem cmp_lt_trans {a b c : Str} (h1 : compareBytes a b < 0) (h2 : compareBytes b c < 0) : compareBytes a c < 0 := by
  have h3 := compareBytes_ord.tr a b c (by omega) (by omega)
  by_cases h : compareBytes a c = 0
  · have e := compareBytes_zero h
    subst e
    have := compareBytes_ord.anti a b
    omega
  · omega
theorem cmp_lt_of {a b : Str} (h1 : compareBytes a b ≤ 0) (h2 : ¬ b = a) : compareBytes a b < 0 := by
  by_cases h : compareBytes a b = 0
  · exact absurd (compareBytes_zero h).symm h2
  · omega
/-- what is known of one module more: its members' paths, rising -/
structure WithOk (out : List Md) (m : Md) (o : List Md) : Prop where
  rise : o.Pairwise fun a b => compareBytes a.1 b.1 < 0
  low : ∀ p : Str, (∀ x ∈ out, compareBytes p x.1 < 0) → compareBytes p m.1 < 0 → ∀ x ∈ o, compareBytes p x.1 < 0
  sub : ∀ x ∈ o, x ∈ out ∨ x = m
  over : ∀ x ∈ out, ∃ y ∈ o, y.1 = x.1 ∧ verCmp x.2 y.2 ≤ 0
  over_m : ∃ y ∈ o, y.1 = m.1 ∧ verCmp m.2 y.2 ≤ 0
theorem withOk {m : Md} (hm : mdErr m = 0) : ∀ {out : List Md}, (out.Pairwise fun a b => compareBytes a.1 b.1 < 0) → (∀ x ∈ out, mdErr x = 0) → WithOk out m (withL out m)
  | [], _, _ => by
    refine ⟨by simp [withL], fun p _ h x hx => by simp [withL] at hx; subst hx; exact h, fun x hx => .inr (by simpa [withL] using hx), fun x hx => by simp at hx, ⟨m, by simp [withL], rfl, ?_⟩⟩
    rw [verCmp_ord.self]; decide
  | x :: r, hp, hr => by
    have hself : ∀ v : Str, verCmp v v ≤ 0 := fun v => by rw [verCmp_ord.self]; decide
    rw [List.pairwise_cons] at hp
    have hxe := hr x (by simp)
    unfold withL
    by_cases h1 : compareBytes m.1 x.1 ≤ 0
    · rw [if_pos h1]
      by_cases h2 : x.1 = m.1
      · rw [if_pos h2]
        obtain ⟨v1, v2⟩ : verCmp x.2 (verMax x.2 m.2) ≤ 0 ∧ verCmp m.2 (verMax x.2 m.2) ≤ 0 := by
          rcases verMax_of (modErr_zero hxe).2 (modErr_zero hm).2 with ⟨e, h⟩ | ⟨e, h⟩
          · rw [e]; exact ⟨hself _, h⟩
          · rw [e]; exact ⟨by omega, hself _⟩
        refine ⟨?_, fun p hq hpm y hy => ?_, fun y hy => ?_, fun y hy => ?_, ⟨(m.1, verMax x.2 m.2), by simp, rfl, v2⟩⟩
        · rw [List.pairwise_cons]
          refine ⟨fun y hy => ?_, hp.2⟩
          show compareBytes m.1 y.1 < 0
          rw [← h2]; exact hp.1 y hy
        · rcases List.mem_cons.1 hy with rfl | hy
          · exact hpm
          · exact hq y (by simp [hy])
        · rcases List.mem_cons.1 hy with rfl | hy
          · rcases verMax_of (modErr_zero hxe).2 (modErr_zero hm).2 with ⟨e, _⟩ | ⟨e, _⟩
            · exact .inl (by rw [e, ← h2]; simp)
            · exact .inr (by rw [e])
          · exact .inl (by simp [hy])
        · rcases List.mem_cons.1 hy with rfl | hy
          · exact ⟨(m.1, verMax y.2 m.2), by simp, h2.symm, v1⟩
          · exact ⟨y, by simp [hy], rfl, hself _⟩
      · rw [if_neg h2]
        have h3 : compareBytes m.1 x.1 < 0 := cmp_lt_of h1 h2
        refine ⟨?_, fun p hq hpm y hy => ?_, fun y hy => ?_, fun y hy => ⟨y, by simp only [List.mem_cons] at hy ⊢; exact .inr hy, rfl, hself _⟩, ⟨m, by simp, rfl, hself _⟩⟩
        · rw [List.pairwise_cons, List.pairwise_cons]
          refine ⟨fun y hy => ?_, hp⟩
          rcases List.mem_cons.1 hy with rfl | hy
          · exact h3
          · exact cmp_lt_trans h3 (hp.1 y hy)
        · rcases List.mem_cons.1 hy with rfl | hy
          · exact hpm
          · exact hq y hy
        · rcases List.mem_cons.1 hy with rfl | hy
          · exact .inr rfl
          · exact .inl hy
    · rw [if_neg h1]
      have ih := withOk hm hp.2 (fun y hy => hr y (by simp [hy]))
      have h3 : compareBytes x.1 m.1 < 0 := by have := compareBytes_ord.anti x.1 m.1; omega
      refine ⟨?_, fun p hq hpm y hy => ?_, fun y hy => ?_, fun y hy => ?_, ?_⟩
      · rw [List.pairwise_cons]
        exact ⟨ih.low x.1 hp.1 h3, ih.rise⟩
      · rcases List.mem_cons.1 hy with rfl | hy
        · exact hq y (by simp)
        · exact ih.low p (fun z hz => hq z (by simp [hz])) hpm y hy
      · rcases List.mem_cons.1 hy with rfl | hy
        · exact .inl (by simp)
        · rcases ih.sub y hy with h | h
          · exact .inl (by simp [h])
          · exact .inr h
      · rcases List.mem_cons.1 hy with rfl | hy
        · exact ⟨y, by simp, rfl, hself _⟩
        · obtain ⟨z, hz, e⟩ := ih.over y hy
          exact ⟨z, by simp [hz], e⟩
      · obtain ⟨z, hz, e⟩ := ih.over_m
        exact ⟨z, by simp [hz], e⟩
theorem great_with {l out : List Md} {m : Md} (h : Great l out) (hl : ∀ x ∈ l, mdErr x = 0) (hm : mdErr m = 0) : Great (l ++ [m]) (withL out m) := by
  have hw := withOk hm h.rise (fun x hx => hl x (h.sub x hx))
  refine ⟨hw.rise, fun x hx => ?_, fun x hx => ?_⟩
  · rcases hw.sub x hx with h1 | h1
    · exact List.mem_append.2 (.inl (h.sub x h1))
    · exact List.mem_append.2 (.inr (by simp [h1]))
  · rcases List.mem_append.1 hx with h1 | h1
    · obtain ⟨z, hz, e1, e2⟩ := h.over x h1
      obtain ⟨y, hy, e3, e4⟩ := hw.over z hz
      exact ⟨y, hy, e3.trans e1, le_trans3 e2 e4⟩
    · simp only [List.mem_singleton] at h1
      subst h1
      exact hw.over_m
theorem great_withs : ∀ (r l out : List Md), Great l out → (∀ x ∈ l ++ r, mdErr x = 0) → Great (l ++ r) (r.foldl withL out)
  | [], l, out, h, _ => by simpa using h
  | m :: r, l, out, h, hr => by
    have e : l ++ m :: r = (l ++ [m]) ++ r := by simp
    rw [e] at hr ⊢
    exact great_withs r (l ++ [m]) (withL out m) (great_with h (fun x hx => hr x (by simp [hx])) (hr m (by simp))) hr
/-- what the document says of joining is what is joined -/
theorem joinO_eq (a b : List Md) : joinO a b = joinL a b := by
  have hr : ∀ x ∈ (a ++ b).filter fun m => decide (mdErr m = 0), mdErr x = 0 := fun x hx => of_decide_eq_true (List.mem_filter.1 hx).2
  have h1 := great_withs ((a ++ b).filter fun m => decide (mdErr m = 0)) [] [] great_nil (by simpa using hr)
  rw [List.nil_append] at h1
  exact great_same h1 (joinL_great a b) hr (fun x => by rw [joinS_mem, List.mem_filter, List.mem_append, decide_eq_true_iff])
end Go.Proofs.Pw

/- B.with: a list of modules with one more: of its path the greater version. Conditions: texts of at most 1000000000 bytes, a list of at most 1000. -/
namespace Go.Proofs.Pw
open Go.RowKit
open Go.Lib hiding intOf

theorem mdF_drop1 {n : Nat} {P V : Nat → ByteArray} {k : Nat} (h : k < n) : (mdF n P V).drop k = ((P k).data.toList, (V k).data.toList) :: (mdF n P V).drop (k + 1) := by
  have hl : k < (mdF n P V).length := by rw [mdF_length]; exact h
  rw [List.drop_eq_getElem_cons hl]
  have := mdF_get n P V k h
  rw [List.getElem?_eq_getElem hl] at this
  rw [Option.some.inj this]
/-- what stands behind: kept, and what is to come -/
def withR (acc : List Md) (D : Bool) (rest : List Md) (m : Md) : List Md := if D = true then acc ++ rest else acc ++ withL rest m
theorem withR_done (acc : List Md) (x : Md) (r : List Md) (m : Md) : withR acc true (x :: r) m = withR (acc ++ [x]) true r m := by simp [withR]
theorem withR_same {acc : List Md} {x : Md} {r : List Md} {m : Md} (h : 0 ≤ compareBytes x.1 m.1) (e : x.1 = m.1) : withR acc false (x :: r) m = withR (acc ++ [(m.1, verMax x.2 m.2)]) true r m := by
  have h2 : compareBytes m.1 x.1 ≤ 0 := by have := compareBytes_ord.anti x.1 m.1; omega
  rw [withR, withR, if_neg (by decide), if_pos rfl, withL, if_pos h2, if_pos e]
  simp
theorem withR_new {acc : List Md} {x : Md} {r : List Md} {m : Md} (h : 0 ≤ compareBytes x.1 m.1) (e : ¬ x.1 = m.1) : withR acc false (x :: r) m = withR (acc ++ [m] ++ [x]) true r m := by
  have h2 : compareBytes m.1 x.1 ≤ 0 := by have := compareBytes_ord.anti x.1 m.1; omega
  simp [withR, withL, h2, e]
theorem withR_less {acc : List Md} {x : Md} {r : List Md} {m : Md} (h : ¬ 0 ≤ compareBytes x.1 m.1) : withR acc false (x :: r) m = withR (acc ++ [x]) false r m := by
  have h2 : ¬ compareBytes m.1 x.1 ≤ 0 := by have := compareBytes_ord.anti x.1 m.1; omega
  simp [withR, withL, h2]
theorem withR_end (acc : List Md) (m : Md) : withR acc false [] m = acc ++ [m] := by simp [withR, withL]
theorem withR_stop (acc : List Md) (m : Md) : withR acc true [] m = acc := by simp [withR]

/-- the drawn region's condition -/
theorem heldW {w3 W : World} {b b1 o1 : Nat} {u0 u1 v0 v1 : Value} (h0 : w3.cell? ⟨b, 0, none⟩ = some u0) (h1 : w3.cell? ⟨b, 1, none⟩ = some u1) (h2 : w3.cell? ⟨b1, o1, none⟩ = some v0) (h3 : w3.cell? ⟨b1, o1 + 1, none⟩ = some v1) (hb : Below w3.heap.size w3 W) :
    (W.cell? ⟨b, 0, none⟩ = some u0 ∧ W.cell? ⟨b, 1, none⟩ = some u1 ∧ W.cell? ⟨b1, o1, none⟩ = some v0 ∧ W.cell? ⟨b1, o1 + 1, none⟩ = some v1) ∧ Below w3.heap.size w3 W :=
  ⟨⟨Below.cell_some hb h0, Below.cell_some hb h1, Below.cell_some hb h2, Below.cell_some hb h3⟩, hb⟩

set_option maxHeartbeats 8000000 in
set_option maxRecDepth 100000 in
theorem with_calls (v : Value) (l : List Md) (mp mv : ByteArray) (w : World) (h : ModsAt w v l) (hl : l.length ≤ 1000000) (hs : ∀ m ∈ l, m.2.length ≤ 1000000000) (hmv : mv.size ≤ 1000000000) :
    Calls Tryz.prog 98 #[v, .agg #[.string mp, .string mv]] w fun e w' => (∃ v' L, e = .returned v' ∧ mdTs L = withL l (mp.data.toList, mv.data.toList) ∧ w'.ownsRow w.heap.size 38 2 v' L.length (mdVs L)) ∧ Below w.heap.size w w' := by
  obtain ⟨i0, hi, hz0, hz1, hz2⟩ := info_parts Tryz.infoMod
  obtain ⟨a, n, cap, P, V, rfl, rfl, hnc, hcap, hc⟩ := h
  rw [mdF_length] at hl
  have hB := below_alloc w (.cells #[.string mp, .string mv] 38)
  have hm := box2_alloc w (.string mp) (.string mv) 38
  have hmx := fun j (hj : j < n) W => maxOf_calls (V j) mv W (by
    have h1 := hs _ (List.mem_of_getElem? (mdF_get n P V j hj))
    simp only [Array.length_toList] at h1
    exact h1) hmv
  have HT0 : Hid (withR [] false (mdF n P V) (mp.data.toList, mv.data.toList) = withL (mdF n P V) (mp.data.toList, mv.data.toList)) := Lib.hid (by simp [withR])
  replace hc := Lib.hid hc
  replace hmx := Lib.hid hmx
  obtain ⟨m0, m1, mf⟩ := id hm
  clear hs
  go_enter Tryz.func98, Tryz.ntmps98
  go_wp2_with fail
  generalize w.alloc (.cells #[.string mp, .string mv] 38) = w3 at *
  go_loopw [5, 6, 7] (fun o d i wr => ∃ (k : Nat) (L : List (ByteArray × ByteArray)) (D : Bool), k ≤ n ∧ i = .int .i64 k ∧ d = .bool D ∧ Hid (wr.ownsRow w3.heap.size 38 2 o L.length (mdVs L)) ∧ L.length ≤ k + 1 ∧ Hid (withR (mdTs L) D ((mdF n P V).drop k) (mp.data.toList, mv.data.toList) = withL (mdF n P V) (mp.data.toList, mv.data.toList)) ∧ Hid (D = false → L.length ≤ k) ∧ Below w3.heap.size w3 wr) (fun _ _ i _ => n - (intOf i).toNat)
  case atStart => exact ⟨0, [], false, Nat.zero_le _, rfl, rfl, Lib.hid (World.ownsRow_nil _ _ _ _), by simp, Lib.hid (by rw [List.drop_zero]; exact HT0.out), Lib.hid (fun _ => Nat.le_refl _), Below.refl _ _⟩
  case round =>
    obtain ⟨k, L, D, hk, rfl, rfl, hO, hLk, hT, hLD, hBk⟩ := hrel
    have cm0 := Below.cell_some hBk m0
    have cm1 := Below.cell_some hBk m1
    have hBw := below_step hB hBk
    obtain ⟨ao, no, co, rfl⟩ := own_form hO.out
    have hown := Lib.hid (fun q (e : (Value.slice ao no co).ownBlock = some q) => (hO.out.lt q e).1)
    by_cases hlt : k < n
    · have hkn : (k : Int) < (n : Int) := by omega
      obtain ⟨b1, o1, ea, c0w, c1w⟩ := hc.out k hlt
      have c0 := (hBw.cell (lt_of_cell c0w)).trans c0w
      have c1 := (hBw.cell (lt_of_cell c1w)).trans c1w
      rw [mdF_drop1 hlt] at hT
      have HC := Lib.hid (And.intro c0w c1w)
      have HC3 := Lib.hid (And.intro (Below.cell_some hB c0w) (Below.cell_some hB c1w))
      subst ea
      clear c0w c1w
      cases D with
      | true =>
        have hN : Hid (withR (mdTs (L ++ [(P k, V k)])) true ((mdF n P V).drop (k + 1)) (mp.data.toList, mv.data.toList) = withL (mdF n P V) (mp.data.toList, mv.data.toList)) := Lib.hid (by
          rw [← hT.out, withR_done, mdTs_sn])
        have hOr := hO.out
        clear hO hT hLD
        go_wp2_with fail
        refine wp_region_quiet_patch (by kernel_rfl) (by kernel_rfl) ?_
        repeat (go_big_quiet_step (fail))
        refine wpQuiet_nil ?_
        intro _ hw'
        obtain ⟨⟨dq, osq⟩, hw''⟩ := hw'
        subst hw''
        have hb := below_patch wr dq osq
        replace hBk := below_step hBk hb
        replace hOr := hOr.below hb
        replace c0 := Below.cell_some hb c0
        replace c1 := Below.cell_some hb c1
        clear hb
        generalize patch wr dq osq = w5 at hBk hOr c0 c1 ⊢
        have HO := Lib.hid hOr
        clear hOr cm0 cm1
        go_wp2_with (at_builtin; refine wpList_append_own _ rfl _ _ 23 rfl w3.heap.size 38 i0 (.agg #[.string ⟨#[]⟩, .string ⟨#[]⟩]) 2 32 Tryz.underlying23 hi hz0 hz1 hz2 rfl (by decide) _ _ _ rfl (HO.out.alloc _) ⟨w5.heap.size, 0, none⟩ 1 1 [.string (P k), .string (V k)] rfl rfl (cell_two_new _ _ _ _) (by intro u hu; simp at hu; rcases hu with rfl | rfl <;> rfl) (by unfold maxLen; omega) (by omega) (by have := hBk.size; simp; omega) ?_; intro o' w4 hown4 hgrow4 _)
        go_roundw
        case rel =>
          refine ⟨k + 1, L ++ [(P k, V k)], true, by omega, by go_num, rfl, Lib.hid ?_, by simp; omega, hN, Lib.hid (fun h => by cases h), ?_⟩
          · rw [List.length_append, List.length_singleton, ← mdVs_snoc]
            exact hown4
          · exact (hBk.alloc hBk.size _).grown hgrow4 (by have := hBk.size; simp; omega) hown.out
        case measure => simp [intOf]; omega
      | false =>
        have hLk2 : L.length ≤ k := hLD.out rfl
        clear hLD
        by_cases hge : 0 ≤ compareBytes (P k).data.toList mp.data.toList
        · have hbl : Op.bytesLess (P k).toList mp.toList = false := by rw [toList_data, toList_data, bytesLess_iff]; exact decide_eq_false (by omega)
          have hOr := hO.out
          have HG := Lib.hid hge
          clear hO hge
          by_cases hpe : (P k).data.toList = mp.data.toList
          · have hp0 := bytes_eq.1 hpe
            have hp1 : ((P k).toList == mp.toList) = true := by rw [hp0]; simp
            have hN : Hid (withR (mdTs (L ++ [(mp, ⟨(verMax (V k).data.toList mv.data.toList).toArray⟩)])) true ((mdF n P V).drop (k + 1)) (mp.data.toList, mv.data.toList) = withL (mdF n P V) (mp.data.toList, mv.data.toList)) := Lib.hid (by
              rw [← hT.out, withR_same HG.out hpe, mdTs_sn])
            have hmk := hmx.out k hlt
            generalize (⟨(verMax (V k).data.toList mv.data.toList).toArray⟩ : ByteArray) = MX at *
            replace hmk := Lib.hid hmk
            clear hpe hp0 hT
            go_wp2_with fail
            have kqc0 := fun d os => cell_patch (d := d) (os := os) c0
            have kqcm0 := fun d os => cell_patch (d := d) (os := os) cm0
            refine wp_region_quiet_patch (by kernel_rfl) (by kernel_rfl) ?_
            repeat (go_big_quiet_step (fail))
            refine wpQuiet_nil ?_
            intro _ hw'
            obtain ⟨⟨dq, osq⟩, hw''⟩ := hw'
            subst hw''
            clear kqc0 kqcm0
            have hb := below_patch wr dq osq
            replace hBk := below_step hBk hb
            replace hOr := hOr.below hb
            replace c0 := Below.cell_some hb c0
            replace c1 := Below.cell_some hb c1
            replace cm0 := Below.cell_some hb cm0
            replace cm1 := Below.cell_some hb cm1
            clear hb
            generalize patch wr dq osq = w5 at hBk hOr c0 c1 cm0 cm1 ⊢
            go_wp2_with fail
            have kqc0 := fun d os => cell_patch (d := d) (os := os) c0
            have kqcm0 := fun d os => cell_patch (d := d) (os := os) cm0
            refine wp_region_quiet_patch (by kernel_rfl) (by kernel_rfl) ?_
            repeat (go_big_quiet_step (fail))
            refine wpQuiet_nil ?_
            intro _ hw'
            obtain ⟨⟨dq, osq⟩, hw''⟩ := hw'
            subst hw''
            clear kqc0 kqcm0
            have hb := below_patch w5 dq osq
            replace hBk := below_step hBk hb
            replace hOr := hOr.below hb
            replace c0 := Below.cell_some hb c0
            replace c1 := Below.cell_some hb c1
            replace cm0 := Below.cell_some hb cm0
            replace cm1 := Below.cell_some hb cm1
            clear hb
            generalize patch w5 dq osq = w6 at hBk hOr c0 c1 cm0 cm1 ⊢
            have HO := Lib.hid hOr
            clear hOr
            go_wp2_with fail
            have hbW := hBk.drew
            clear hBw c0 c1 cm0 cm1
            go_region_held2 (fun W => (W.cell? ⟨w.heap.size, 0, none⟩ = some (.string mp) ∧ W.cell? ⟨w.heap.size, 1, none⟩ = some (.string mv) ∧ W.cell? ⟨b1, o1 + k * 2, none⟩ = some (.string (P k)) ∧ W.cell? ⟨b1, o1 + k * 2 + 1, none⟩ = some (.string (V k))) ∧ Below w3.heap.size w3 W) (first | exact heldW m0 m1 HC3.out.1 HC3.out.2 hbW8 | exact heldW m0 m1 HC3.out.1 HC3.out.2 (hbW.alloc hbW.size _) | exact heldW m0 m1 HC3.out.1 HC3.out.2 hbW) (first
              | (go_at_call 137; refine (hmk.out _).mono ?_; rintro e w7 ⟨rfl, hb7⟩; replace hbW := below_step hbW hb7; have hO7 := ownsRow_kept HO.out.drew hb7)
              | (refine step_append_lies _ rfl (.tmp 34) (.tmp 46) 23 rfl w3.heap.size 38 i0 (.agg #[.string ⟨#[]⟩, .string ⟨#[]⟩]) 2 32 Tryz.underlying23 hi hz0 hz1 hz2 rfl (by decide) (.slice ao no co) L.length (mdVs L) (by simp [Act.eval]) (hO7.alloc _) ⟨w7.heap.size, 0, none⟩ 1 1 [.string mp, .string MX] (by simp [Act.eval]) rfl (cell_two_new w7 mp MX _) (fun u hu => by simp at hu; rcases hu with rfl | rfl <;> rfl) (by decide) (by unfold maxLen; omega) (by omega) (by have := hbW.size; simp; omega) _ rfl ?_; intro g7 c7 w8 hown8 hgrow8 hg8 hl8; have hbW8 := (hbW.alloc hbW.size _).grown hgrow8 (by have := hbW.size; simp; omega) hown.out))
            all_goals
              go_wp2_with fail
              go_roundw
              case rel =>
                refine ⟨k + 1, L ++ [(mp, MX)], true, by omega, by go_num, rfl, Lib.hid ?_, by simp; omega, hN, Lib.hid (fun h => by cases h), hbW8⟩
                rw [List.length_append, List.length_singleton, ← mdVs_snoc]
                exact hown8
              case measure => simp [intOf]; omega
          · have hp1 : ((P k).toList == mp.toList) = false := by rw [toList_data, toList_data]; exact beq_eq_false_iff_ne.2 hpe
            have hN : Hid (withR (mdTs (L ++ [(mp, mv)] ++ [(P k, V k)])) true ((mdF n P V).drop (k + 1)) (mp.data.toList, mv.data.toList) = withL (mdF n P V) (mp.data.toList, mv.data.toList)) := Lib.hid (by
              rw [← hT.out, withR_new HG.out hpe]
              simp [mdTs])
            have hlen2 : (L ++ [(mp, mv)]).length ≤ k + 1 := by simp; omega
            clear hpe hT
            go_wp2_with fail
            have kqc0 := fun d os => cell_patch (d := d) (os := os) c0
            have kqcm0 := fun d os => cell_patch (d := d) (os := os) cm0
            refine wp_region_quiet_patch (by kernel_rfl) (by kernel_rfl) ?_
            repeat (go_big_quiet_step (fail))
            refine wpQuiet_nil ?_
            intro _ hw'
            obtain ⟨⟨dq, osq⟩, hw''⟩ := hw'
            subst hw''
            clear kqc0 kqcm0
            have hb := below_patch wr dq osq
            replace hBk := below_step hBk hb
            replace hOr := hOr.below hb
            replace c0 := Below.cell_some hb c0
            replace c1 := Below.cell_some hb c1
            replace cm0 := Below.cell_some hb cm0
            replace cm1 := Below.cell_some hb cm1
            clear hb
            generalize patch wr dq osq = w5 at hBk hOr c0 c1 cm0 cm1 ⊢
            go_wp2_with fail
            have kqc0 := fun d os => cell_patch (d := d) (os := os) c0
            have kqcm0 := fun d os => cell_patch (d := d) (os := os) cm0
            refine wp_region_quiet_patch (by kernel_rfl) (by kernel_rfl) ?_
            repeat (go_big_quiet_step (fail))
            refine wpQuiet_nil ?_
            intro _ hw'
            obtain ⟨⟨dq, osq⟩, hw''⟩ := hw'
            subst hw''
            clear kqc0 kqcm0
            have hb := below_patch w5 dq osq
            replace hBk := below_step hBk hb
            replace hOr := hOr.below hb
            replace c0 := Below.cell_some hb c0
            replace c1 := Below.cell_some hb c1
            replace cm0 := Below.cell_some hb cm0
            replace cm1 := Below.cell_some hb cm1
            clear hb
            generalize patch w5 dq osq = w6 at hBk hOr c0 c1 cm0 cm1 ⊢
            have HO := Lib.hid hOr
            have hBw6 := below_step hB hBk
            clear hOr hBw
            go_wp2_with (at_builtin; first
              | (refine wpList_append_own _ rfl _ _ 23 rfl w3.heap.size 38 i0 (.agg #[.string ⟨#[]⟩, .string ⟨#[]⟩]) 2 32 Tryz.underlying23 hi hz0 hz1 hz2 rfl (by decide) _ _ _ rfl (HO.out.alloc _) ⟨w6.heap.size, 0, none⟩ 1 1 [.string mp, .string mv] rfl rfl (cell_two_new _ _ _ _) (by intro u hu; simp at hu; rcases hu with rfl | rfl <;> rfl) (by unfold maxLen; omega) (by omega) (by have := hBk.size; simp; omega) ?_; intro o' w4 hown4 hgrow4 _; have hBk4 := (hBk.alloc hBk.size _).grown hgrow4 (by have := hBk.size; simp; omega) hown.out; have hBw4 := below_step hB hBk4; rw [mdVs_snoc, show L.length + 1 = (L ++ [(mp, mv)]).length by simp] at hown4; obtain ⟨a4, n4, c4, rfl⟩ := own_form hown4; replace c0 := (hBw4.cell (lt_of_cell HC.out.1)).trans HC.out.1; replace c1 := (hBw4.cell (lt_of_cell HC.out.2)).trans HC.out.2; have hown5 := Lib.hid (fun q (e : (Value.slice a4 n4 c4).ownBlock = some q) => (hown4.lt q e).1); have HO4 := Lib.hid hown4; clear hBk hBw4 HO hgrow4 hown4 cm0 cm1 hBw6)
              | (refine wpList_append_own _ rfl _ _ 23 rfl w3.heap.size 38 i0 (.agg #[.string ⟨#[]⟩, .string ⟨#[]⟩]) 2 32 Tryz.underlying23 hi hz0 hz1 hz2 rfl (by decide) _ _ _ rfl (HO4.out.alloc _) ⟨w4.heap.size, 0, none⟩ 1 1 [.string (P k), .string (V k)] rfl rfl (cell_two_new _ _ _ _) (by intro u hu; simp at hu; rcases hu with rfl | rfl <;> rfl) (by unfold maxLen; omega) (by omega) (by have := hBk4.size; simp; omega) ?_; intro o7 w7 hown7 hgrow7 _))
            go_roundw
            case rel =>
              refine ⟨k + 1, L ++ [(mp, mv)] ++ [(P k, V k)], true, by omega, by go_num, rfl, Lib.hid ?_, by simp; omega, hN, Lib.hid (fun h => by cases h), ?_⟩
              · rw [show (L ++ [(mp, mv)] ++ [(P k, V k)]).length = (L ++ [(mp, mv)]).length + 1 by simp, ← mdVs_snoc]
                exact hown7
              · exact (hBk4.alloc hBk4.size _).grown hgrow7 (by have := hBk4.size; simp; omega) hown5.out
            case measure => simp [intOf]; omega
        · have hbl : Op.bytesLess (P k).toList mp.toList = true := by rw [toList_data, toList_data, bytesLess_iff]; exact decide_eq_true (by omega)
          have hN : Hid (withR (mdTs (L ++ [(P k, V k)])) false ((mdF n P V).drop (k + 1)) (mp.data.toList, mv.data.toList) = withL (mdF n P V) (mp.data.toList, mv.data.toList)) := Lib.hid (by
            rw [← hT.out, withR_less hge, mdTs_sn])
          have hOr := hO.out
          clear hO hge hT
          go_wp2_with fail
          have kqc0 := fun d os => cell_patch (d := d) (os := os) c0
          have kqcm0 := fun d os => cell_patch (d := d) (os := os) cm0
          refine wp_region_quiet_patch (by kernel_rfl) (by kernel_rfl) ?_
          repeat (go_big_quiet_step (fail))
          refine wpQuiet_nil ?_
          intro _ hw'
          obtain ⟨⟨dq, osq⟩, hw''⟩ := hw'
          subst hw''
          clear kqc0 kqcm0
          have hb := below_patch wr dq osq
          replace hBk := below_step hBk hb
          replace hOr := hOr.below hb
          replace c0 := Below.cell_some hb c0
          replace c1 := Below.cell_some hb c1
          clear hb
          generalize patch wr dq osq = w5 at hBk hOr c0 c1 ⊢
          clear cm0 cm1
          have HO := Lib.hid hOr
          clear hOr
          go_wp2_with (at_builtin; refine wpList_append_own _ rfl _ _ 23 rfl w3.heap.size 38 i0 (.agg #[.string ⟨#[]⟩, .string ⟨#[]⟩]) 2 32 Tryz.underlying23 hi hz0 hz1 hz2 rfl (by decide) _ _ _ rfl (HO.out.alloc _) ⟨w5.heap.size, 0, none⟩ 1 1 [.string (P k), .string (V k)] rfl rfl (cell_two_new _ _ _ _) (by intro u hu; simp at hu; rcases hu with rfl | rfl <;> rfl) (by unfold maxLen; omega) (by omega) (by have := hBk.size; simp; omega) ?_; intro o' w4 hown4 hgrow4 _)
          go_roundw
          case rel =>
            refine ⟨k + 1, L ++ [(P k, V k)], false, by omega, by go_num, rfl, Lib.hid ?_, by simp; omega, hN, Lib.hid (fun _ => by simp; omega), ?_⟩
            · rw [List.length_append, List.length_singleton, ← mdVs_snoc]
              exact hown4
            · exact (hBk.alloc hBk.size _).grown hgrow4 (by have := hBk.size; simp; omega) hown.out
          case measure => simp [intOf]; omega
    · obtain rfl : n = k := by omega
      rw [List.drop_eq_nil_of_le (by rw [mdF_length]; exact Nat.le_refl _)] at hT
      have hs3 : w.heap.size ≤ w3.heap.size := hB.size
      clear hlt hk
      cases D with
      | true =>
        have hN : Hid (mdTs L = withL (mdF n P V) (mp.data.toList, mv.data.toList)) := Lib.hid (by rw [← hT.out, withR_stop])
        clear hT hLD cm0 cm1
        go_wp2_with fail
        go_ret
        exact ⟨⟨_, L, rfl, hN.out, hO.out.mono hs3⟩, hBw⟩
      | false =>
        have hN : Hid (mdTs (L ++ [(mp, mv)]) = withL (mdF n P V) (mp.data.toList, mv.data.toList)) := Lib.hid (by rw [← hT.out, withR_end, mdTs_sn])
        have HO := hO
        clear hT hLD hO
        go_wp2_with (at_builtin; refine wpList_append_own _ rfl _ _ 23 rfl w3.heap.size 38 i0 (.agg #[.string ⟨#[]⟩, .string ⟨#[]⟩]) 2 32 Tryz.underlying23 hi hz0 hz1 hz2 rfl (by decide) _ _ _ rfl (HO.out.alloc _) ⟨wr.heap.size, 0, none⟩ 1 1 [.string mp, .string mv] rfl rfl (cell_two_new _ _ _ _) (by intro u hu; simp at hu; rcases hu with rfl | rfl <;> rfl) (by unfold maxLen; omega) (by omega) (by have := hBk.size; simp; omega) ?_; intro o' w4 hown4 hgrow4 _)
        go_ret
        refine ⟨⟨_, L ++ [(mp, mv)], rfl, hN.out, ?_⟩, below_step hB ((hBk.alloc hBk.size _).grown hgrow4 (by have := hBk.size; simp; omega) hown.out)⟩
        rw [List.length_append, List.length_singleton, ← mdVs_snoc]
        exact hown4.mono hs3
end Go.Proofs.Pw

/- B.JoinOf: what the document says of joining. Conditions: texts of at most 1000000 bytes, lists of at most 1000. -/
namespace Go.Proofs.Pw
open Go.RowKit
open Go.Lib hiding intOf

/-- what is joined so far -/
def joinK (l : List Md) (T : List Md) : List Md := (l.filter fun m => decide (mdErr m = 0)).foldl withL T
theorem joinK_bad {l T : List Md} {m : Md} (h : mdErr m ≠ 0) : joinK (l ++ [m]) T = joinK l T := by
  unfold joinK
  rw [List.filter_append, List.filter_cons, if_neg (by simpa using h)]
  simp
theorem joinK_good {l T : List Md} {m : Md} (h : mdErr m = 0) : joinK (l ++ [m]) T = withL (joinK l T) m := by
  unfold joinK
  rw [List.filter_append, List.filter_cons, if_pos (by simpa using h)]
  simp
theorem joinK_app (a b : List Md) : joinK b (joinK a []) = joinL a b := by
  rw [← joinO_eq]
  unfold joinK joinO
  rw [List.filter_append, List.foldl_append]

set_option maxHeartbeats 4000000 in
set_option maxRecDepth 100000 in
theorem joinOf_calls (va vb : Value) (la lb : List Md) (w : World) (ha : ModsAt w va la) (hb0 : ModsAt w vb lb) (hla : la.length ≤ 1000) (hlb : lb.length ≤ 1000) (hs : ∀ m ∈ la ++ lb, m.2.length ≤ 1000000 ∧ m.1.length ≤ 1000000) :
    Calls Tryz.prog 49 #[va, vb] w fun e w' => (∃ v, e = .returned v ∧ ModsAt w' v (joinL la lb)) ∧ Below w.heap.size w w' := by
  obtain ⟨a1, n1, cap1, P1, V1, rfl, rfl, hmc1, hcap1, hc1⟩ := ha
  obtain ⟨a2, n2, cap2, P2, V2, rfl, rfl, hmc2, hcap2, hc2⟩ := hb0
  rw [mdF_length] at hla hlb
  have HS1 : Hid (∀ j, j < n1 → (P1 j).size ≤ 1000000 ∧ (V1 j).size ≤ 1000000) := Lib.hid (fun j hj => by
    have h1 := hs _ (List.mem_append.2 (.inl (List.mem_of_getElem? (mdF_get n1 P1 V1 j hj))))
    simp only [Array.length_toList] at h1
    exact ⟨h1.2, h1.1⟩)
  have HS2 : Hid (∀ j, j < n2 → (P2 j).size ≤ 1000000 ∧ (V2 j).size ≤ 1000000) := Lib.hid (fun j hj => by
    have h1 := hs _ (List.mem_append.2 (.inr (List.mem_of_getElem? (mdF_get n2 P2 V2 j hj))))
    simp only [Array.length_toList] at h1
    exact ⟨h1.2, h1.1⟩)
  have HJ : Hid (joinK (mdF n2 P2 V2) (joinK (mdF n1 P1 V1) []) = joinL (mdF n1 P1 V1) (mdF n2 P2 V2)) := Lib.hid (joinK_app _ _)
  replace hc1 := Lib.hid hc1
  replace hc2 := Lib.hid hc2
  clear hs
  go_enter Tryz.func49, Tryz.ntmps49
  go_wp2_with fail
  go_loopw [5, 6] (fun o x wr => ∃ (k : Nat) (T : List Md), k ≤ n1 ∧ x = .int .i64 k ∧ Hid (ModsAt wr o T) ∧ T.length ≤ 0 + k ∧ Hid (∀ m ∈ T, m.2.length ≤ 1000000) ∧ Hid (T = joinK ((mdF n1 P1 V1).take k) []) ∧ Below w.heap.size w wr) (fun _ x _ => n1 - (intOf x).toNat)
  case atStart => exact ⟨0, [], Nat.zero_le _, rfl, Lib.hid (ModsAt.nil _), Nat.le_refl _, Lib.hid (fun m hm => by cases hm), Lib.hid (by simp [joinK]), Below.refl _ _⟩
  case round =>
    obtain ⟨k, T, hk, rfl, hM, hTl, hZ, hT, hBk⟩ := hrel
    by_cases hlt : k < n1
    · skip
      have hkn : (k : Int) < (n1 : Int) := by omega
      obtain ⟨b1, o1, ea, c0, c1⟩ := hc1.out k hlt
      replace c0 := Below.cell_some hBk c0
      replace c1 := Below.cell_some hBk c1
      subst ea
      have hms := HS1.out k hlt
      have hme := refModErr_calls (P1 k) (V1 k) wr (by omega) (by omega)
      have hwi := fun (t : Value) (T : List Md) (W : World) (g : ModsAt W t T) (h1 : T.length ≤ 1000000) (h2 : ∀ m ∈ T, m.2.length ≤ 1000000000) => with_calls t T (P1 k) (V1 k) W g h1 h2 (by omega)
      have htk := mdF_take_succ n1 P1 V1 k hlt
      obtain ⟨E, hE⟩ : ∃ E, modErr (P1 k).data.toList (V1 k).data.toList = E := ⟨_, rfl⟩
      rw [hE] at hme
      obtain ⟨ta, tn, tc, _, _, rfl, -⟩ := id hM.out
      by_cases hE0 : E = 0
      · have HT : Hid (withL T ((P1 k).data.toList, (V1 k).data.toList) = joinK ((mdF n1 P1 V1).take (k + 1)) []) := Lib.hid (by
          rw [htk, joinK_good (by show modErr _ _ = 0; rw [hE, hE0]), ← hT.out])
        have HZ : Hid (∀ m ∈ withL T ((P1 k).data.toList, (V1 k).data.toList), m.2.length ≤ 1000000) := Lib.hid (withL_size (by simp only [Array.length_toList]; exact hms.2) hZ.out)
        have hwl := withL_len ((P1 k).data.toList, (V1 k).data.toList) T
        subst hE0
        replace hme := Lib.hid hme
        replace hwi := Lib.hid hwi
        clear hT htk hE hms
        go_wp2_with fail
        refine hme.out.mono ?_
        rintro e w1 ⟨rfl, hb⟩
        have hw2 := hwi.out _ T w1 (hM.out.below hb) (by omega) (fun m hm => by have := hZ.out m hm; omega)
        replace hBk := below_step hBk hb
        replace c0 := Below.cell_some hb c0
        replace c1 := Below.cell_some hb c1
        replace hw2 := Lib.hid hw2
        clear hb hme hwi hM hZ
        go_wp2_with fail
        refine hw2.out.mono ?_
        rintro e w2 ⟨⟨v', L, rfl, hL, ho⟩, hb⟩
        have hM2 := modsAt_own ho
        rw [hL] at hM2
        go_wp2_with fail
        go_roundw
        case rel => exact ⟨k + 1, _, by omega, by go_num, Lib.hid hM2, by omega, HZ, HT, below_step hBk hb⟩
        case measure => simp [intOf]; omega
      · have HT : Hid (T = joinK ((mdF n1 P1 V1).take (k + 1)) []) := Lib.hid (by
          rw [htk, joinK_bad (by show modErr _ _ ≠ 0; rw [hE]; exact hE0), ← hT.out])
        have hne : ((E : Int) == 0) = false := beq_eq_false_iff_ne.2 (by omega)
        replace hme := Lib.hid hme
        clear hT htk hE hms hwi hE0
        go_wp2_with fail
        refine hme.out.mono ?_
        rintro e w1 ⟨rfl, hb⟩
        have HM := Lib.hid (hM.out.below hb)
        replace hBk := below_step hBk hb
        clear hb hme hM
        go_wp2_with fail
        go_roundw
        case rel => exact ⟨k + 1, T, by omega, by go_num, HM, by omega, hZ, HT, hBk⟩
        case measure => simp [intOf]; omega
    · have HT1 : Hid (T = joinK (mdF n1 P1 V1) []) := Lib.hid (by
        rw [hT.out, show k = n1 by omega, mdF_take_all])
      have hTl1 : T.length ≤ 1000 := by omega
      have hnk : ¬ (k : Int) < (n1 : Int) := by omega
      obtain ⟨ta, tn, tc, _, _, rfl, -⟩ := id hM.out
      clear hT hlt hTl
      go_wp2_with fail
      clear hnk hk
      generalize hT0 : T = T0 at *
      generalize wr = wl at *
      clear hT0
      go_loopw [5, 7] (fun o x wr => ∃ (k : Nat) (T : List Md), k ≤ n2 ∧ x = .int .i64 k ∧ Hid (ModsAt wr o T) ∧ T.length ≤ 1000 + k ∧ Hid (∀ m ∈ T, m.2.length ≤ 1000000) ∧ Hid (T = joinK ((mdF n2 P2 V2).take k) T0) ∧ Below w.heap.size w wr) (fun _ x _ => n2 - (intOf x).toNat)
      case atStart => exact ⟨0, T0, Nat.zero_le _, rfl, hM, by omega, hZ, Lib.hid (by simp [joinK]), hBk⟩
      case round =>
        clear hM hZ hBk
        obtain ⟨k, T, hk, rfl, hM, hTl, hZ, hT, hBk⟩ := hrel
        by_cases hlt : k < n2
        · skip
          have hkn : (k : Int) < (n2 : Int) := by omega
          obtain ⟨b1, o1, ea, c0, c1⟩ := hc2.out k hlt
          replace c0 := Below.cell_some hBk c0
          replace c1 := Below.cell_some hBk c1
          subst ea
          have hms := HS2.out k hlt
          have hme := refModErr_calls (P2 k) (V2 k) wr (by omega) (by omega)
          have hwi := fun (t : Value) (T : List Md) (W : World) (g : ModsAt W t T) (h1 : T.length ≤ 1000000) (h2 : ∀ m ∈ T, m.2.length ≤ 1000000000) => with_calls t T (P2 k) (V2 k) W g h1 h2 (by omega)
          have htk := mdF_take_succ n2 P2 V2 k hlt
          obtain ⟨E, hE⟩ : ∃ E, modErr (P2 k).data.toList (V2 k).data.toList = E := ⟨_, rfl⟩
          rw [hE] at hme
          obtain ⟨ta, tn, tc, _, _, rfl, -⟩ := id hM.out
          by_cases hE0 : E = 0
          · have HT : Hid (withL T ((P2 k).data.toList, (V2 k).data.toList) = joinK ((mdF n2 P2 V2).take (k + 1)) T0) := Lib.hid (by
              rw [htk, joinK_good (by show modErr _ _ = 0; rw [hE, hE0]), ← hT.out])
            have HZ : Hid (∀ m ∈ withL T ((P2 k).data.toList, (V2 k).data.toList), m.2.length ≤ 1000000) := Lib.hid (withL_size (by simp only [Array.length_toList]; exact hms.2) hZ.out)
            have hwl := withL_len ((P2 k).data.toList, (V2 k).data.toList) T
            subst hE0
            replace hme := Lib.hid hme
            replace hwi := Lib.hid hwi
            clear hT htk hE hms
            go_wp2_with fail
            refine hme.out.mono ?_
            rintro e w1 ⟨rfl, hb⟩
            have hw2 := hwi.out _ T w1 (hM.out.below hb) (by omega) (fun m hm => by have := hZ.out m hm; omega)
            replace hBk := below_step hBk hb
            replace c0 := Below.cell_some hb c0
            replace c1 := Below.cell_some hb c1
            replace hw2 := Lib.hid hw2
            clear hb hme hwi hM hZ
            go_wp2_with fail
            refine hw2.out.mono ?_
            rintro e w2 ⟨⟨v', L, rfl, hL, ho⟩, hb⟩
            have hM2 := modsAt_own ho
            rw [hL] at hM2
            go_wp2_with fail
            go_roundw
            case rel => exact ⟨k + 1, _, by omega, by go_num, Lib.hid hM2, by omega, HZ, HT, below_step hBk hb⟩
            case measure => simp [intOf]; omega
          · have HT : Hid (T = joinK ((mdF n2 P2 V2).take (k + 1)) T0) := Lib.hid (by
              rw [htk, joinK_bad (by show modErr _ _ ≠ 0; rw [hE]; exact hE0), ← hT.out])
            have hne : ((E : Int) == 0) = false := beq_eq_false_iff_ne.2 (by omega)
            replace hme := Lib.hid hme
            clear hT htk hE hms hwi hE0
            go_wp2_with fail
            refine hme.out.mono ?_
            rintro e w1 ⟨rfl, hb⟩
            have HM := Lib.hid (hM.out.below hb)
            replace hBk := below_step hBk hb
            clear hb hme hM
            go_wp2_with fail
            go_roundw
            case rel => exact ⟨k + 1, T, by omega, by go_num, HM, by omega, hZ, HT, hBk⟩
            case measure => simp [intOf]; omega
        · have HF : Hid (T = joinL (mdF n1 P1 V1) (mdF n2 P2 V2)) := Lib.hid (by
            rw [hT.out, show k = n2 by omega, mdF_take_all, HT1.out, HJ.out])
          have hnk : ¬ (k : Int) < (n2 : Int) := by omega
          obtain ⟨ta', tn', tc', _, _, rfl, -⟩ := id hM.out
          clear hT hlt hTl
          go_wp2_with fail
          go_ret
          rw [← HF.out]
          exact ⟨⟨_, rfl, hM.out⟩, hBk⟩
end Go.Proofs.Pw

/- mvs.Join. Conditions: texts of at most 1000000 bytes, lists of at most 1000. -/
namespace Go.Proofs.Pw
open Go.RowKit
open Go.Lib hiding intOf

theorem Tryz.enters_join1 : ∀ args w, (callFunc 95 args).run Tryz.prog w = .ok (.enter 95 args) w := Go.Proofs.enters_of Tryz.func95 (by kernel_rfl) rfl
theorem join1_calls (ks : List Nat) (A : Nat → Addr) (h4 : 4 ∈ ks) (p q : ByteArray) (w : World) (hE : EnvP ks A w) (hp : p.size ≤ 1000000000) (hq : q.size ≤ 1000000000) :
    Calls Tryz.prog 95 #[.agg #[.string p, .string q]] w fun e w' => e = .returned (.bool (!decide (mdErr (p.data.toList, q.data.toList) = 0))) ∧ Below w.heap.size w w' := by
  have hb := below_alloc w (.cells #[.string p, .string q] 38)
  obtain ⟨y0, y1, _⟩ := box2_alloc w (.string p) (.string q) 38
  have hk := modCheck_calls ks A h4 p q (w.alloc (.cells #[.string p, .string q] 38)) (hE.below hb) hp hq
  show Calls _ _ _ _ fun e w' => e = .returned (.bool (!decide (modErr p.data.toList q.data.toList = 0))) ∧ Below w.heap.size w w'
  by_cases h0 : modErr p.data.toList q.data.toList = 0
  · rw [decide_eq_true h0]
    rw [h0, errV_zero] at hk
    clear h0
    replace hk := Lib.hid hk
    go_enter Tryz.func95, Tryz.ntmps95
    go_wp2_with fail
    refine hk.out.mono ?_
    rintro e w1 ⟨rfl, hb1⟩
    go_wp2_with fail
    go_ret
    exact ⟨rfl, below_step hb hb1⟩
  · rw [decide_eq_false h0]
    rw [errV_pos A h0] at hk
    clear h0
    replace hk := Lib.hid hk
    go_enter Tryz.func95, Tryz.ntmps95
    go_wp2_with fail
    refine hk.out.mono ?_
    rintro e w1 ⟨rfl, hb1⟩
    go_wp2_with fail
    go_ret
    exact ⟨rfl, below_step hb hb1⟩

set_option maxHeartbeats 2000000 in
set_option maxRecDepth 100000 in
/-- mvs.Join -/
theorem mvsJoin_calls (ks : List Nat) (A : Nat → Addr) (hks : IdxKs ks) (va vb : Value) (la lb : List Md) (w : World) (hE : EnvP ks A w) (ha : ModsAt w va la) (hb0 : ModsAt w vb lb) (hla : la.length ≤ 1000) (hlb : lb.length ≤ 1000) (hs : ∀ m ∈ la ++ lb, m.2.length ≤ 1000000 ∧ m.1.length ≤ 1000000) :
    Calls Tryz.prog 48 #[va, vb] w fun e w' => (∃ v, e = .returned v ∧ ModsAt w' v (joinL la lb)) ∧ Below w.heap.size w w' := by
  obtain ⟨a1, k1, e1⟩ := mods_len ha
  obtain ⟨a2, k2, e2⟩ := mods_len hb0
  subst e1 e2
  have hb := below_alloc w (.cells #[.slice a1 la.length k1, .slice a2 lb.length k2] 23)
  obtain ⟨y0, y1, _⟩ := box2_alloc w (.slice a1 la.length k1) (.slice a2 lb.length k2) 23
  have hcat := concatM_calls w.heap.size (.slice a1 la.length k1) (.slice a2 lb.length k2) la lb (w.alloc (.cells #[.slice a1 la.length k1, .slice a2 lb.length k2] 23)) (ha.below hb) (hb0.below hb) (by omega) (by omega) y0 y1
  have HE := Lib.hid hE
  have HS := Lib.hid hs
  have hl := Lib.hid (And.intro hla hlb)
  generalize hn1 : la.length = n1 at *
  generalize hn2 : lb.length = n2 at *
  replace hcat := Lib.hid hcat
  clear ha hb0 hs hE y0 y1
  go_enter Tryz.func48, Tryz.ntmps48
  go_wp2_with fail
  generalize w.alloc (.cells #[.slice a1 n1 k1, .slice a2 n2 k2] 23) = w1 at *
  refine hcat.out.mono ?_
  rintro e w2 ⟨⟨v2, L, rfl, hL, ho⟩, hb2⟩
  have hB := below_step hb hb2
  have hLl : L.length = n1 + n2 := by have := congrArg List.length hL; rw [mdTs_length, List.length_append] at this; omega
  have hT : TestsL 95 #[] (fun m => !decide (mdErr m = 0)) L w1.heap.size w2 := by
    intro W hW x y hxy
    have hm : (x.data.toList, y.data.toList) ∈ la ++ lb := by
      rw [← hL]; exact List.mem_map.2 ⟨(x, y), hxy, rfl⟩
    have h2 := HS.out _ hm
    exact join1_calls ks A hks.2.1 x y W (HE.out.below (hB.trans (hW.mono (by have := hb.size; omega)))) (by rw [size_eq]; exact Nat.le_trans h2.2 (by decide)) (by rw [size_eq]; exact Nat.le_trans h2.1 (by decide))
  have hdel := deleteFuncM_calls 95 #[] Tryz.enters_join1 (fun m => !decide (mdErr m = 0)) w1.heap.size v2 L w2 ho hb2.size (by have := hl.out; omega) hT
  have hfl : (L.filter fun m => !pOf (fun m => !decide (mdErr m = 0)) m) = L.filter (pOf fun m => decide (mdErr m = 0)) := by
    congr 1
    funext m
    unfold pOf
    simp
  rw [hfl] at hdel
  have hF : mdTs (L.filter (pOf fun m => decide (mdErr m = 0))) = (la ++ lb).filter fun m => decide (mdErr m = 0) := by rw [mdTs_filter, hL]
  have hok : ∀ m ∈ L.filter (pOf fun m => decide (mdErr m = 0)), OkM m := by
    rintro ⟨x, y⟩ hm
    obtain ⟨h1, h2⟩ := List.mem_filter.1 hm
    have hm2 : (x.data.toList, y.data.toList) ∈ la ++ lb := by
      rw [← hL]; exact List.mem_map.2 ⟨(x, y), h1, rfl⟩
    have h3 := HS.out _ hm2
    refine ⟨(modErr_zero (of_decide_eq_true h2)).2, ?_⟩
    show y.size ≤ _
    rw [size_eq]
    exact Nat.le_trans h3.1 (by decide)
  have hlf : (L.filter (pOf fun m => decide (mdErr m = 0))).length ≤ 1000000 := by
    have := List.length_filter_le (pOf fun m => decide (mdErr m = 0)) L
    have := hl.out
    omega
  generalize L.filter (pOf fun m => decide (mdErr m = 0)) = M at *
  obtain ⟨x2, z2, c2, rfl⟩ := own_form ho
  have HOK := Lib.hid (And.intro hok (And.intro hlf hF))
  replace hdel := Lib.hid hdel
  clear hcat ho hT hfl hok hlf hF hL hLl
  go_wp2_with fail
  refine hdel.out.mono ?_
  rintro e w3 ⟨⟨v3, rfl, ho3⟩, hb3⟩
  have hB3 := hB.trans (hb3.mono (show w.heap.size ≤ w1.heap.size from hb.size))
  have hso := sortM_calls ks A w w3 HE.out w1.heap.size v3 M hB3 hb.size ho3 HOK.out.1 HOK.out.2.1
  obtain ⟨x3, z3, c3, rfl⟩ := own_form ho3
  replace hso := Lib.hid hso
  clear hdel ho3 hb3 hB hb2
  go_wp2_with fail
  refine hso.out.mono ?_
  rintro e w4 ⟨rfl, ⟨l', hM, hp, hpw⟩, hB4⟩
  have hlen : l'.length ≤ 1000000 := by
    have := hp.length_eq
    rw [mdTs_length] at this
    have := HOK.out.2.1
    omega
  have hgr := greatest_calls _ l' w4 hM hlen
  have hJ : greatest l' = joinL la lb := join_of (by rw [← HOK.out.2.2]; exact hp) hpw
  rw [hJ] at hgr
  replace hgr := Lib.hid hgr
  clear hso hM hp hpw hlen hJ HOK
  go_wp2_with fail
  refine hgr.out.mono ?_
  rintro e w5 ⟨⟨v5, L5, rfl, hL5, ho5⟩, hb5⟩
  have hM5 := modsAt_own ho5
  rw [hL5] at hM5
  obtain ⟨x5, z5, c5, rfl⟩ := own_form ho5
  have HM := Lib.hid hM5
  clear hM5 ho5 hL5 hgr
  go_wp2_with fail
  go_ret
  exact ⟨⟨_, rfl, HM.out⟩, below_step hB4 hb5⟩
end Go.Proofs.Pw

/- MvsTells: its walk. -/
namespace Go.Proofs.Pw
open Go.RowKit
open Go.Lib hiding intOf

theorem closErr_le (l : List En) (roots sel : List Md) : (closErr l roots sel).1 ≤ 10 := by
  unfold closErr selErr
  refine orE_le (startErr_le l roots) (orE_le (rootsErr_le l sel) ?_)
  split
  · exact (by decide : 0 ≤ 10)
  · exact (by decide : 8 ≤ 10)
/-- what is shared by the walks -/
structure MtArgs (ks : List Nat) (A : Nat → Addr) (la : Option Addr) (ln lc : Nat) (P V : Nat → ByteArray) (R : Nat → List Md) (K : Nat → List Str) (Bk : Nat → Bool) (Rv Kv : Nat → Value) (av bv cv : Value) (Am Bm Cm : List Md) (w : World) : Prop where
  idx : IdxKs ks
  env : EnvP ks A w
  envC : EnvC A w
  l : EntsIn w la ln lc P V R K Bk Rv Kv
  a : ModsAt w av Am
  b : ModsAt w bv Bm
  c : ModsAt w cv Cm

set_option maxHeartbeats 4000000 in
set_option maxRecDepth 100000 in
theorem mvsTells_long (ks : List Nat) (A : Nat → Addr) (la : Option Addr) (ln lc : Nat) (P V : Nat → ByteArray) (R : Nat → List Md) (K : Nat → List Str) (Bk : Nat → Bool) (Rv Kv : Nat → Value) (av bv cv : Value) (Am Bm Cm : List Md) (w : World) (H : MtArgs ks A la ln lc P V R K Bk Rv Kv av bv cv Am Bm Cm w)
    (hlong : longIdx (enF ln P V R K Bk) = true ∨ (longIdx (enF ln P V R K Bk) = false ∧ ¬ (longMods Am 15 = false ∧ longMods Bm 15 = false ∧ longMods Cm 15 = false))) :
    Calls Tryz.prog 9 #[.slice la ln lc, av, bv, cv] w fun e w' => e = .returned (.bool true) ∧ Below w.heap.size w w' := by
  obtain ⟨a1, n1, c1, _, _, rfl, -⟩ := id H.a
  obtain ⟨a2, n2, c2, _, _, rfl, -⟩ := id H.b
  obtain ⟨a3, n3, c3, _, _, rfl, -⟩ := id H.c
  have hre := built_calls ks A H.idx w H.env
  have hlx := fun (W : World) (hb : Below w.heap.size w W) => longIndex_in la ln lc P V R K Bk Rv Kv W (H.l.below hb)
  have hlm1 := fun (W : World) (hb : Below w.heap.size w W) => longMods_calls (.slice a1 n1 c1) Am 15 W (H.a.below hb)
  have hlm2 := fun (W : World) (hb : Below w.heap.size w W) => longMods_calls (.slice a2 n2 c2) Bm 15 W (H.b.below hb)
  have hlm3 := fun (W : World) (hb : Below w.heap.size w W) => longMods_calls (.slice a3 n3 c3) Cm 15 W (H.c.below hb)
  replace hre := Lib.hid hre
  replace hlx := Lib.hid hlx
  replace hlm1 := Lib.hid hlm1
  replace hlm2 := Lib.hid hlm2
  replace hlm3 := Lib.hid hlm3
  clear H
  rcases hlong with h0 | ⟨h0, hlong⟩
  · rw [longII_yes h0] at hlx
    clear h0
    go_enter Tryz.func9, Tryz.ntmps9
    go_wp2_with fail
    refine hre.out.mono ?_
    rintro e w1 ⟨rfl, hB⟩
    go_wp2_with fail
    refine (hlx.out _ hB).mono ?_
    rintro e w' ⟨rfl, rfl⟩
    go_wp2_with fail
    go_ret
    exact ⟨rfl, hB⟩
  · rw [longII_no h0] at hlx
    clear h0
    cases h1 : longMods Am 15 <;> cases h2 : longMods Bm 15 <;> cases h3 : longMods Cm 15
    · exact absurd ⟨h1, h2, h3⟩ hlong
    all_goals
      clear hlong
      have e1 := longI_is Am 15
      have e2 := longI_is Bm 15
      have e3 := longI_is Cm 15
      rw [h1] at e1
      rw [h2] at e2
      rw [h3] at e3
      simp only [e1, e2, e3] at hlm1 hlm2 hlm3
      clear h1 h2 h3 e1 e2 e3
      go_enter Tryz.func9, Tryz.ntmps9
      go_wp2_with fail
      refine hre.out.mono ?_
      rintro e w1 ⟨rfl, hB⟩
      go_wp2_with fail
      refine (hlx.out _ hB).mono ?_
      rintro e w' ⟨rfl, rfl⟩
      go_wp2_with fail
      refine (hlm1.out _ hB).mono ?_
      rintro e w' ⟨rfl, rfl⟩
      go_wp2_with fail
      refine (hlm2.out _ hB).mono ?_
      rintro e w' ⟨rfl, rfl⟩
      go_wp2_with fail
      refine (hlm3.out _ hB).mono ?_
      rintro e w' ⟨rfl, rfl⟩
      go_wp2_with fail
      go_ret
      exact ⟨rfl, hB⟩

set_option maxHeartbeats 8000000 in
set_option maxRecDepth 100000 in
theorem mvsTells_main (ks : List Nat) (A : Nat → Addr) (la : Option Addr) (ln lc : Nat) (P V : Nat → ByteArray) (R : Nat → List Md) (K : Nat → List Str) (Bk : Nat → Bool) (Rv Kv : Nat → Value) (av bv cv : Value) (Am Bm Cm : List Md) (w : World) (H : MtArgs ks A la ln lc P V R K Bk Rv Kv av bv cv Am Bm Cm w)
    (h0 : longIdx (enF ln P V R K Bk) = false) (h1 : longMods Am 15 = false) (h2 : longMods Bm 15 = false) (h3 : longMods Cm 15 = false) :
    Calls Tryz.prog 9 #[.slice la ln lc, av, bv, cv] w fun e w' => e = .returned (.bool true) ∧ Below w.heap.size w w' := by
  obtain ⟨a1, n1, c1, _, _, rfl, -⟩ := id H.a
  obtain ⟨a2, n2, c2, _, _, rfl, -⟩ := id H.b
  obtain ⟨a3, n3, c3, _, _, rfl, -⟩ := id H.c
  have hre := built_calls ks A H.idx w H.env
  have hlx := fun (W : World) (hb : Below w.heap.size w W) => longIndex_in la ln lc P V R K Bk Rv Kv W (H.l.below hb)
  have hlm1 := fun (W : World) (hb : Below w.heap.size w W) => longMods_calls (.slice a1 n1 c1) Am 15 W (H.a.below hb)
  have hlm2 := fun (W : World) (hb : Below w.heap.size w W) => longMods_calls (.slice a2 n2 c2) Bm 15 W (H.b.below hb)
  have hlm3 := fun (W : World) (hb : Below w.heap.size w W) => longMods_calls (.slice a3 n3 c3) Cm 15 W (H.c.below hb)
  have hsi := longIdx_short h0
  have hsm := longIdx_small h0
  have s1 := longMods_small h1
  have s2 := longMods_small h2
  have s3 := longMods_small h3
  have hln : ln ≤ 101 := by have := hsm.1; rwa [enF_length] at this
  have HH := Lib.hid H
  have HSI := Lib.hid hsi
  have how := fun (W : World) (hb : Below w.heap.size w W) => ownIndex_calls (.slice la ln lc) (enF ln P V R K Bk) W ⟨la, ln, lc, P, V, R, K, Bk, Rv, Kv, rfl, rfl, HH.out.l.below hb⟩ (by rw [enF_length]; omega) (fun e he => by
    have h4 := longEn_small (hsm.2 e he)
    have h5 := longMods_small h4.2.2.1
    exact ⟨by omega, by omega⟩)
  have hom1 := fun (W : World) (hb : Below w.heap.size w W) => ownMods_calls (.slice a1 n1 c1) Am W (HH.out.a.below hb) (by omega)
  have hom2 := fun (W : World) (hb : Below w.heap.size w W) => ownMods_calls (.slice a2 n2 c2) Bm W (HH.out.b.below hb) (by omega)
  have hom3 := fun (W : World) (hb : Below w.heap.size w W) => ownMods_calls (.slice a3 n3 c3) Cm W (HH.out.c.below hb) (by omega)
  have hbo := fun (W : World) (hb : Below w.heap.size w W) => buildOf_in la ln lc P V R K Bk Rv Kv (.slice a1 n1 c1) Am W (HH.out.l.below hb) (HH.out.a.below hb) hsi (by omega)
  have hco := fun (W : World) (hb : Below w.heap.size w W) => closedOf_in la ln lc P V R K Bk Rv Kv (.slice a1 n1 c1) (.slice a2 n2 c2) Am Bm W (HH.out.l.below hb) (HH.out.a.below hb) (HH.out.b.below hb) hsi (by omega) (by omega) (fun m hm => by have := s1.2 m hm; omega) (fun m hm => by have := s2.2 m hm; omega)
  have hiu := fun (W : World) (hb : Below w.heap.size w W) => isUnder_calls (.slice a2 n2 c2) (.slice a3 n3 c3) Bm Cm W (HH.out.b.below hb) (HH.out.c.below hb) (fun m hm => by have := s2.2 m hm; omega) (fun m hm => by have := s3.2 m hm; omega)
  have hjo := fun (W : World) (hb : Below w.heap.size w W) => joinOf_calls (.slice a2 n2 c2) (.slice a3 n3 c3) Bm Cm W (HH.out.b.below hb) (HH.out.c.below hb) (by omega) (by omega) (fun m hm => by
    rcases List.mem_append.1 hm with h | h
    · have := s2.2 m h; omega
    · have := s3.2 m h; omega)
  have hE := fun (W : World) (hb : Below w.heap.size w W) => HH.out.env.below hb
  have hEC := fun (W : World) (hb : Below w.heap.size w W) => HH.out.envC.below hb
  have hun := fun (W : World) (hb : Below w.heap.size w W) (va vb : Value) (x1 : ModsAt W va Bm) (x2 : ModsAt W vb Cm) => mvsUnder_calls ks A va vb Bm Cm W (hE W hb) x1 x2 (by omega) (by omega) (fun m hm => by have := s2.2 m hm; omega) (fun m hm => by have := s3.2 m hm; omega)
  have hjn := fun (W : World) (hb : Below w.heap.size w W) (va vb : Value) (x1 : ModsAt W va Bm) (x2 : ModsAt W vb Cm) => mvsJoin_calls ks A H.idx va vb Bm Cm W (hE W hb) x1 x2 (by omega) (by omega) (fun m hm => by
    rcases List.mem_append.1 hm with h | h
    · have := s2.2 m h; omega
    · have := s3.2 m h; omega)
  rw [longII_no h0] at hlx
  rw [longI_no h1] at hlm1
  rw [longI_no h2] at hlm2
  rw [longI_no h3] at hlm3
  have HS1 := Lib.hid s1
  have HS2 := Lib.hid s2
  generalize hl0 : enF ln P V R K Bk = l at *
  have HI := Lib.hid HH.out.idx
  have lS := startErr_le l Am
  have lC := closErr_le l Am Bm
  have hfS := fun (W : World) (ev : Value) (h1 : Below w.heap.size w W) (h2 : FaultAt A W ev (startErr l Am)) => faulted2_calls A ev _ W (hEC W h1) h2 lS
  have hfC := fun (W : World) (ev : Value) (h1 : Below w.heap.size w W) (h2 : FaultAt A W ev (closErr l Am Bm)) => faulted2_calls A ev _ W (hEC W h1) h2 lC
  unfold fltV at hbo hco
  obtain ⟨SE, hSE⟩ : ∃ x, x = startErr l Am := ⟨_, rfl⟩
  obtain ⟨CE, hCE⟩ : ∃ x, x = closErr l Am Bm := ⟨_, rfl⟩
  obtain ⟨CR, hCR⟩ : ∃ x, x = closR l Am Bm := ⟨_, rfl⟩
  obtain ⟨X, hX⟩ : ∃ x, x = buildR l Am := ⟨_, rfl⟩
  simp only [← hSE, ← hX] at hbo hfS
  simp only [← hCE, ← hCR] at hco hfC
  obtain ⟨sc, sa⟩ := SE
  obtain ⟨cc, ca⟩ := CE
  simp only at hbo hco hfS hfC
  have HEQ := Lib.hid (And.intro hSE (And.intro hCE (And.intro hCR hX)))
  generalize underB Bm Cm = UB at *
  generalize joinL Bm Cm = JL at *
  replace hre := Lib.hid hre
  replace hlx := Lib.hid hlx
  replace hlm1 := Lib.hid hlm1
  replace hlm2 := Lib.hid hlm2
  replace hlm3 := Lib.hid hlm3
  replace how := Lib.hid how
  replace hom1 := Lib.hid hom1
  replace hom2 := Lib.hid hom2
  replace hom3 := Lib.hid hom3
  replace hE := Lib.hid hE
  replace hbo := Lib.hid hbo
  replace hco := Lib.hid hco
  replace hiu := Lib.hid hiu
  replace hjo := Lib.hid hjo
  replace hun := Lib.hid hun
  replace hjn := Lib.hid hjn
  replace hfS := Lib.hid hfS
  replace hfC := Lib.hid hfC
  clear h0 h1 h2 h3 hsi hsm s1 s2 s3 H hl0 hEC lS lC hSE hCE hCR hX
  go_enter Tryz.func9, Tryz.ntmps9
  go_wp2_with fail
  refine hre.out.mono ?_
  rintro e w1 ⟨rfl, hB⟩
  go_wp2_with fail
  refine (hlx.out _ hB).mono ?_
  rintro e w' ⟨rfl, rfl⟩
  go_wp2_with fail
  refine (hlm1.out _ hB).mono ?_
  rintro e w' ⟨rfl, rfl⟩
  go_wp2_with fail
  refine (hlm2.out _ hB).mono ?_
  rintro e w' ⟨rfl, rfl⟩
  go_wp2_with fail
  refine (hlm3.out _ hB).mono ?_
  rintro e w' ⟨rfl, rfl⟩
  clear hre hlx hlm1 hlm2 hlm3
  go_wp2_with fail
  refine (how.out _ hB).mono ?_
  rintro e w2 ⟨⟨ov, rfl, hOE⟩, hb⟩
  replace hB := below_step hB hb
  obtain ⟨oa, on, oc, P', V', R', K', B', Rv', Kv', rfl, hOl, hO⟩ := hOE
  have HO := Lib.hid hO
  have HOL := Lib.hid hOl
  have hC := Below.refl w2.heap.size w2
  clear hO hOl hb how
  go_wp2_with fail
  refine (hom1.out _ hB).mono ?_
  rintro e w3 ⟨⟨v3, rfl, hM3, _⟩, hb⟩
  replace hB := below_step hB hb
  replace hC := below_step hC hb
  obtain ⟨x3, y3, z3, _, _, rfl, _⟩ := id hM3
  have hb4 := mvsBuild_in ks A HI.out oa on oc P' V' R' K' B' Rv' Kv' (.slice x3 y3 z3) Am w3 (hE.out _ hB) (HO.out.below hC) (by rw [← HOL.out]; exact HSI.out) hM3 (by have := HS1.out.1; omega)
  simp only [← HOL.out, ← HEQ.out.1, ← HEQ.out.2.2.2] at hb4
  replace hb4 := Lib.hid hb4
  clear hb hM3
  go_wp2_with fail
  refine hb4.out.mono ?_
  rintro e w4 ⟨⟨x4, ev4, rfl, hf4, hx4⟩, hb⟩
  replace hB := below_step hB hb
  replace hC := below_step hC hb
  obtain ⟨a4, n4, c4, _, _, rfl, _⟩ := id hx4
  have HF4 := Lib.hid hf4
  have HX4 := Lib.hid hx4
  clear hb hb4 hf4 hx4
  go_wp2_with fail
  refine (hbo.out _ hB).mono ?_
  rintro e w5 ⟨⟨x5, rfl, hx5⟩, hb⟩
  have hba := below_alloc w5 (.cells #[.int .i64 (sc : Nat), .int .i64 sa] 49)
  have hz := box2_alloc w5 (.int .i64 (sc : Nat)) (.int .i64 sa) 49
  replace hC := below_step hC hb
  have hs5 := hC.size
  have hsb := (below_step hB hb).size
  replace hx5 := hx5.below hba
  replace hb := below_step hb hba
  replace hC := below_step hC hba
  replace hB := below_step hB hb
  have hf4 := HF4.out.below hb
  have hx4 := HX4.out.below hb
  obtain ⟨a5, n5, c5, _, _, rfl, _⟩ := id hx5
  have hft := hfS.out _ ev4 hB hf4
  have hsm := fun W (hW : Below (w5.alloc (.cells #[.int .i64 (sc : Nat), .int .i64 sa] 49)).heap.size (w5.alloc (.cells #[.int .i64 (sc : Nat), .int .i64 sa] 49)) W) => sameMods_calls _ _ _ _ W (hx4.below hW) (hx5.below hW)
  rw [decide_eq_true rfl] at hsm
  replace hft := Lib.hid hft
  replace hsm := Lib.hid hsm
  clear hb hba hbo hf4 hx4 hx5 HF4 HX4 hfS
  obtain ⟨z0, z1, zf⟩ := id hz
  go_wp2_with fail
  generalize w5.alloc (.cells #[.int .i64 (sc : Nat), .int .i64 sa] 49) = w6 at *
  generalize w5.heap.size = bf at *
  refine hft.out.mono ?_
  rintro e w7 ⟨rfl, hb⟩
  replace hB := below_step hB hb
  replace hC := below_step hC hb
  replace hz := hz.below hb
  have hsm7 := hsm.out _ hb
  replace hsm7 := Lib.hid hsm7
  clear hb hft hsm z0 z1 zf
  go_wp2_with fail
  refine hsm7.out.mono ?_
  rintro e w8 ⟨rfl, hb⟩
  replace hB := below_step hB hb
  replace hC := below_step hC hb
  replace hz := hz.below hb
  clear hb hsm7
  go_wp2_with fail
  refine (hom1.out _ hB).mono ?_
  rintro e w9 ⟨⟨v9, rfl, hM9, _⟩, hb⟩
  replace hB := below_step hB hb
  replace hC := below_step hC hb
  replace hz := hz.below hb
  obtain ⟨x9, y9, z9, _, _, rfl, _⟩ := id hM9
  have HM9 := Lib.hid hM9
  clear hb hM9
  go_wp2_with fail
  refine (hom2.out _ hB).mono ?_
  rintro e w10 ⟨⟨v10, rfl, hM10, _⟩, hb⟩
  replace hB := below_step hB hb
  replace hC := below_step hC hb
  replace hz := hz.below hb
  have hM9 := HM9.out.below hb
  obtain ⟨x10, y10, z10, _, _, rfl, _⟩ := id hM10
  have hc11 := closed_in ks A HI.out oa on oc P' V' R' K' B' Rv' Kv' (.slice x9 y9 z9) (.slice x10 y10 z10) Am Bm w10 (hE.out _ hB) (HO.out.below hC) (by rw [← HOL.out]; exact HSI.out) hM9 hM10 (by have := HS1.out.1; omega) (by have := HS2.out.1; omega) (fun m hm => by have := HS1.out.2 m hm; omega) (fun m hm => by have := HS2.out.2 m hm; omega)
  simp only [← HOL.out, ← HEQ.out.2.1, ← HEQ.out.2.2.1] at hc11
  replace hc11 := Lib.hid hc11
  clear hb hM9 hM10 HM9
  go_wp2_with fail
  refine hc11.out.mono ?_
  rintro e w11 ⟨⟨ev11, rfl, hf11⟩, hb⟩
  replace hB := below_step hB hb
  replace hz := hz.below hb
  have HF11 := Lib.hid hf11
  clear hb hc11 hf11 hC
  go_wp2_with fail
  refine (hco.out _ hB).mono ?_
  rintro e w12 ⟨rfl, hb⟩
  replace hB := below_step hB hb
  replace hz := hz.below hb
  have hf12 := (HF11.out.below hb).flt hz (.int .i64 (cc : Nat)) (.int .i64 ca)
  obtain ⟨z0, z1, zf⟩ := id hz
  have hz2 := hz.sto (.int .i64 (cc : Nat)) (.int .i64 ca)
  have hB2 := below_sto2 hB (b := bf) (by omega) (.int .i64 (cc : Nat)) (.int .i64 ca)
  have hft := hfC.out _ _ hB2 hf12
  replace hft := Lib.hid hft
  clear hb hco hf12 HF11 hB hz hfC
  go_wp2_with fail
  generalize (w12.setCell ⟨bf, 0, none⟩ (.int .i64 (cc : Nat))).setCell ⟨bf, 1, none⟩ (.int .i64 ca) = w13 at *
  clear z0 z1 zf
  obtain ⟨z0, z1, zf⟩ := id hz2
  have hB := hB2
  clear hB2
  go_wp2_with fail
  refine hft.out.mono ?_
  rintro e w14 ⟨rfl, hb⟩
  replace hB := below_step hB hb
  clear hb hft z0 z1 zf hz2
  cases CR
  all_goals
    go_wp2_with fail
    refine (hiu.out _ hB).mono ?_
    rintro e w15 ⟨rfl, hb⟩
    replace hB := below_step hB hb
    clear hb
    go_wp2_with fail
    refine (hom2.out _ hB).mono ?_
    rintro e w16 ⟨⟨v16, rfl, hM16, _⟩, hb⟩
    replace hB := below_step hB hb
    obtain ⟨x16, y16, z16, _, _, rfl, _⟩ := id hM16
    have HM16 := Lib.hid hM16
    clear hb hM16
    go_wp2_with fail
    refine (hom3.out _ hB).mono ?_
    rintro e w17 ⟨⟨v17, rfl, hM17, _⟩, hb⟩
    replace hB := below_step hB hb
    obtain ⟨x17, y17, z17, _, _, rfl, _⟩ := id hM17
    have hu := hun.out _ hB _ _ (HM16.out.below hb) hM17
    replace hu := Lib.hid hu
    clear hb hM17 HM16
    go_wp2_with fail
    refine hu.out.mono ?_
    rintro e w18 ⟨rfl, hb⟩
    replace hB := below_step hB hb
    clear hb hu
    have huu : ((UB == UB) : Bool) = true := by simp
    cases UB
    all_goals
      clear huu
      go_wp2_with fail
      refine (hom2.out _ hB).mono ?_
      rintro e w19 ⟨⟨v19, rfl, hM19, _⟩, hb⟩
      replace hB := below_step hB hb
      obtain ⟨x19, y19, z19, _, _, rfl, _⟩ := id hM19
      have HM19 := Lib.hid hM19
      clear hb hM19
      go_wp2_with fail
      refine (hom3.out _ hB).mono ?_
      rintro e w20 ⟨⟨v20, rfl, hM20, _⟩, hb⟩
      replace hB := below_step hB hb
      obtain ⟨x20, y20, z20, _, _, rfl, _⟩ := id hM20
      have hj := hjn.out _ hB _ _ (HM19.out.below hb) hM20
      replace hj := Lib.hid hj
      clear hb hM20 HM19
      go_wp2_with fail
      refine hj.out.mono ?_
      rintro e w21 ⟨⟨v21, rfl, hM21⟩, hb⟩
      replace hB := below_step hB hb
      obtain ⟨x21, y21, z21, _, _, rfl, _⟩ := id hM21
      have HM21 := Lib.hid hM21
      clear hb hj hM21
      go_wp2_with fail
      refine (hjo.out _ hB).mono ?_
      rintro e w22 ⟨⟨v22, rfl, hM22⟩, hb⟩
      replace hB := below_step hB hb
      obtain ⟨x22, y22, z22, _, _, rfl, _⟩ := id hM22
      have hs23 := sameMods_calls _ _ _ _ w22 (HM21.out.below hb) hM22
      rw [decide_eq_true rfl] at hs23
      replace hs23 := Lib.hid hs23
      clear hb hM22 HM21
      go_wp2_with fail
      refine hs23.out.mono ?_
      rintro e w23 ⟨rfl, hb⟩
      go_wp2_with fail
      go_ret
      exact ⟨rfl, below_step hB hb⟩

theorem mvsTells_calls (ks : List Nat) (A : Nat → Addr) (hks : IdxKs ks) (lv av bv cv : Value) (l : List En) (Am Bm Cm : List Md) (w : World) (hE : EnvP ks A w) (hC : EnvC A w) (hl : EntsAt w lv l) (ha : ModsAt w av Am) (hb : ModsAt w bv Bm) (hc : ModsAt w cv Cm) :
    Calls Tryz.prog 9 #[lv, av, bv, cv] w fun e w' => e = .returned (.bool true) ∧ Below w.heap.size w w' := by
  obtain ⟨la, ln, lc, P, V, R, K, Bk, Rv, Kv, rfl, rfl, hin⟩ := hl
  have H : MtArgs ks A la ln lc P V R K Bk Rv Kv av bv cv Am Bm Cm w := ⟨hks, hE, hC, hin, ha, hb, hc⟩
  cases h1 : longIdx (enF ln P V R K Bk)
  · by_cases h3 : longMods Am 15 = false ∧ longMods Bm 15 = false ∧ longMods Cm 15 = false
    · exact mvsTells_main ks A la ln lc P V R K Bk Rv Kv av bv cv Am Bm Cm w H h1 h3.1 h3.2.1 h3.2.2
    · exact mvsTells_long ks A la ln lc P V R K Bk Rv Kv av bv cv Am Bm Cm w H (.inr ⟨h1, h3⟩)
  · exact mvsTells_long ks A la ln lc P V R K Bk Rv Kv av bv cv Am Bm Cm w H (.inl h1)
end Go.Proofs.Pw
