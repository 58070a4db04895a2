/- St: walks and plain laws, joined: RefIdx RefSumsOf. Conditions: at each theorem. -/
import Derived.Test.YtglhgbcebpeomaaGreatDoorSty
import Derived.Test.YtglhgbcebpeomaaGreatDoorStx
import Derived.Test.YtglhgbcebpeomaaGreatDoorSts
import Derived.Deep.RegionHeld2
import Derived.Deep.Upon

namespace Go.Proofs.Pw
open Go.RowKit
open Go.Lib hiding intOf
theorem any_mdF {n : Nat} {P V : Nat → ByteArray} {p : Md → Bool} (h : ∀ j, j < n → p ((P j).data.toList, (V j).data.toList) = false) : (mdF n P V).any p = false := by
  rw [List.any_eq_false]
  intro m hm
  obtain ⟨j, hj⟩ := List.getElem?_of_mem hm
  have hl := (List.getElem?_eq_some_iff.1 hj).1
  rw [mdF_length] at hl
  rw [mdF_get n P V j hl] at hj
  rw [← Option.some.inj hj, h j hl]
  simp
set_option maxHeartbeats 8000000 in
set_option maxRecDepth 100000 in
theorem indexFault_in (a : Option Addr) (n cap : Nat) (P V : Nat → ByteArray) (R : Nat → List Md) (K : Nat → List Str) (B : Nat → Bool) (Rv Kv : Nat → Value) (w : World) (h : EntsIn w a n cap P V R K B Rv Kv) (hs : ShortI (enF n P V R K B)) :
    Calls Tryz.prog 57 #[.slice a n cap] w fun e w' => e = .returned (fltV (idxErr (enF n P V R K B))) ∧ Below w.heap.size w w' := by
  have hn : n ≤ 1000000 := by have := hs.len; rwa [enF_length] at this
  have hB := below_alloc w (.cells #[.int .i64 0, .int .i64 0] 46)
  have hz := box2_alloc w (.int .i64 0) (.int .i64 0) 46
  have HFE : Hid (idxErr (enF n P V R K B) = if 100 < n then (7, -1) else orE (firstE (entErr (enF n P V R K B)) n) (firstE (lostE (enF n P V R K B)) n)) := Lib.hid (by unfold idxErr; rw [enF_length])
  have hee := fun (i : Nat) (hi : i < n) (W : World) (hb : Below w.heap.size w W) => entryError_in a n cap P V R K B Rv Kv i W (h.below hb) hs hi
  have hfo := fun (p v : ByteArray) (W : World) (hb : Below w.heap.size w W) => findOf_in a n cap P V R K B Rv Kv p v W (h.below hb) hn
  have H := Lib.hid h
  have HSH := Lib.hid hs
  replace hee := Lib.hid hee
  replace hfo := Lib.hid hfo
  clear h hs
  by_cases h100 : 100 < n
  · have HF : Hid (idxErr (enF n P V R K B) = (7, -1)) := Lib.hid (by rw [HFE.out, if_pos h100])
    have h100' : (100 : Int) < (n : Int) := by omega
    have hba := fun W => refBare_calls 7 W
    unfold fltV at hba
    replace hba := Lib.hid hba
    clear h100
    go_enter Tryz.func57, Tryz.ntmps57
    go_wp2_with fail
    generalize w.alloc (.cells #[.int .i64 0, .int .i64 0] 46) = w1 at *
    refine (hba.out _).mono ?_
    rintro e w2 ⟨rfl, hb⟩
    have hB2 := below_step hB hb
    obtain ⟨z0, z1, zf⟩ := hz.below hb
    clear hb hba
    go_wp2_with fail
    refine bodyPost_ret (v := fltV (7, -1)) (by simp [results, Tryz.results57, fltV, go_sem, *]) rfl ?_
    rw [HF.out]
    exact ⟨rfl, (hB2.setCell (p := ⟨w.heap.size, 0, none⟩) (Nat.le_refl _) _).setCell (p := ⟨w.heap.size, 1, none⟩) (Nat.le_refl _) _⟩
  · have HF1 : Hid (idxErr (enF n P V R K B) = orE (firstE (entErr (enF n P V R K B)) n) (firstE (lostE (enF n P V R K B)) n)) := Lib.hid (by rw [HFE.out, if_neg h100])
    have h100' : ¬ (100 : Int) < (n : Int) := by omega
    clear h100
    go_enter Tryz.func57, Tryz.ntmps57
    go_wp2_with fail
    generalize w.alloc (.cells #[.int .i64 0, .int .i64 0] 46) = w1 at *
    clear h100'
    go_loopw [3] (fun x wr => ∃ k : Nat, k ≤ n ∧ x = .int .i64 k ∧ Below w1.heap.size w1 wr ∧ Hid (∀ j, j < k → entErr (enF n P V R K B) j = 0)) (fun x _ => n - (intOf x).toNat)
    case atStart => exact ⟨0, Nat.zero_le _, rfl, Below.refl _ _, Lib.hid (fun j hj => absurd hj (Nat.not_lt_zero _))⟩
    case round =>
      obtain ⟨k, hk, rfl, hBk, HA⟩ := hrel
      have hBw := below_step hB hBk
      have hzk := hz.below hBk
      by_cases hlt : k < n
      · have hkn : (k : Int) < (n : Int) := by omega
        have hf := hee.out k hlt wr hBw
        obtain ⟨c, hc⟩ : ∃ c, entErr (enF n P V R K B) k = c := ⟨_, rfl⟩
        rw [hc] at hf
        by_cases h0 : c = 0
        · have HN : Hid (∀ j, j < k + 1 → entErr (enF n P V R K B) j = 0) := Lib.hid (fun j hj => by
            by_cases e : j = k
            · subst e; rw [hc, h0]
            · exact HA.out j (by omega))
          subst h0
          replace hf := Lib.hid hf
          clear hc
          go_wp2_with fail
          refine hf.out.mono ?_
          rintro e w2 ⟨rfl, hb⟩
          replace hBk := below_step hBk hb
          clear hb hf
          go_wp2_with fail
          go_roundw
          case rel => exact ⟨k + 1, by omega, by go_num, hBk, HN⟩
          case measure => simp [intOf]; omega
        · have HF : Hid (idxErr (enF n P V R K B) = (c, (k : Int))) := Lib.hid (by
            rw [HF1.out, firstE_hit (by rw [hc]; exact h0) HA.out hlt, hc]
            unfold orE
            rw [if_pos h0])
          have hc9 : (0 : Int) < (c : Int) := by omega
          replace hf := Lib.hid hf
          clear hc h0
          go_wp2_with fail
          refine hf.out.mono ?_
          rintro e w2 ⟨rfl, hb⟩
          have hB2 := below_step hBw hb
          obtain ⟨z0, z1, zf⟩ := hzk.below hb
          clear hb hf
          go_wp2_with fail
          refine bodyPost_ret (v := fltV (c, (k : Int))) (by simp [results, Tryz.results57, fltV, go_sem, *]) rfl ?_
          rw [HF.out]
          exact ⟨rfl, (hB2.setCell (p := ⟨w.heap.size, 0, none⟩) (Nat.le_refl _) _).setCell (p := ⟨w.heap.size, 1, none⟩) (Nat.le_refl _) _⟩
      · have HF2 : Hid (idxErr (enF n P V R K B) = firstE (lostE (enF n P V R K B)) n) := Lib.hid (by
          rw [HF1.out, firstE_none (fun j hj => HA.out j (by omega))]
          rfl)
        have hnk : ¬ (k : Int) < (n : Int) := by omega
        clear hlt HA hk
        go_wp2_with fail
        clear hnk
        generalize wr = wl at *
        go_loopw [5] (fun x wr => ∃ k : Nat, k ≤ n ∧ x = .int .i64 k ∧ Below wl.heap.size wl wr ∧ Hid (∀ j, j < k → lostE (enF n P V R K B) j = 0)) (fun x _ => n - (intOf x).toNat)
        case atStart => exact ⟨0, Nat.zero_le _, rfl, Below.refl _ _, Lib.hid (fun j hj => absurd hj (Nat.not_lt_zero _))⟩
        case round =>
          obtain ⟨k, hk, rfl, hBm, HA⟩ := hrel
          have hBx := below_step hBw hBm
          by_cases hlt : k < n
          · have hkn : (k : Int) < (n : Int) := by omega
            obtain ⟨b1, o1, ea, hcell⟩ := H.out.at_ k hlt
            obtain ⟨a1, n1, c1, P1, V1, e1, e2, _, _, hc1⟩ := H.out.reqs k hlt
            have hlen : n1 ≤ 1000000 := by
              have := (HSH.out.at_ hlt).2.2.2.1.1
              rw [e2, mdF_length] at this
              exact this
            have HL : Hid (lostE (enF n P V R K B) k = if (mdF n1 P1 V1).any (lost (enF n P V R K B)) then 5 else 0) := Lib.hid (by unfold lostE; rw [enAt_enF hlt, e2])
            rw [e1] at hcell
            have d2 := hcell.c2
            subst ea
            replace hc1 := Lib.hid hc1
            clear e1 e2 hcell
            go_wp2_with fail
            generalize hwo : wr = wo at *
            clear hwo
            go_loopw [6] (fun x wr => ∃ q : Nat, q ≤ n1 ∧ x = .int .i64 q ∧ Below wo.heap.size wo wr ∧ Hid (∀ j, j < q → lost (enF n P V R K B) ((P1 j).data.toList, (V1 j).data.toList) = false)) (fun x _ => n1 - (intOf x).toNat)
            case atStart => exact ⟨0, Nat.zero_le _, rfl, Below.refl _ _, Lib.hid (fun j hj => absurd hj (Nat.not_lt_zero _))⟩
            case round =>
              obtain ⟨q, hq, rfl, hBn, HA2⟩ := hrel
              have hBy := below_step hBx hBn
              have x2 := Below.cell_some hBy d2
              by_cases hlq : q < n1
              · have hqn : (q : Int) < (n1 : Int) := by omega
                obtain ⟨b2, o2, e3, y0, y1⟩ := hc1.out q hlq
                subst e3
                replace y0 := Below.cell_some hBy y0
                replace y1 := Below.cell_some hBy y1
                have hf := hfo.out (P1 q) (V1 q) wr hBy
                obtain ⟨x, hx⟩ : ∃ x, findE (enF n P V R K B) ((P1 q).data.toList, (V1 q).data.toList) = x := ⟨_, rfl⟩
                rw [hx] at hf
                by_cases h0 : x < 0
                · have HF : Hid (idxErr (enF n P V R K B) = (5, (k : Int))) := Lib.hid (by
                    have hR : lostE (enF n P V R K B) k = 5 := by
                      rw [HL.out, if_pos]
                      rw [List.any_eq_true]
                      refine ⟨_, List.mem_of_getElem? (mdF_get n1 P1 V1 q hlq), ?_⟩
                      unfold lost
                      rw [hx]
                      exact decide_eq_true h0
                    rw [HF2.out, firstE_hit (by rw [hR]; decide) HA.out hlt, hR])
                  have hzy := hz.below (below_step hBk (below_step hBm hBn))
                  replace hf := Lib.hid hf
                  clear hx hlen
                  go_wp2_with fail
                  refine hf.out.mono ?_
                  rintro e w2 ⟨rfl, hb⟩
                  have hB2 := below_step hBy hb
                  obtain ⟨z0, z1, zf⟩ := hzy.below hb
                  clear hb hf x2 y0 y1
                  go_wp2_with fail
                  refine bodyPost_ret (v := fltV (5, (k : Int))) (by simp [results, Tryz.results57, fltV, go_sem, *]) rfl ?_
                  rw [HF.out]
                  exact ⟨rfl, (hB2.setCell (p := ⟨w.heap.size, 0, none⟩) (Nat.le_refl _) _).setCell (p := ⟨w.heap.size, 1, none⟩) (Nat.le_refl _) _⟩
                · have HN : Hid (∀ j, j < q + 1 → lost (enF n P V R K B) ((P1 j).data.toList, (V1 j).data.toList) = false) := Lib.hid (fun j hj => by
                    by_cases e : j = q
                    · subst e; unfold lost; rw [hx]; exact decide_eq_false h0
                    · exact HA2.out j (by omega))
                  have hq0 : decide (x < 0) = false := decide_eq_false h0
                  replace hf := Lib.hid hf
                  clear hx h0
                  go_wp2_with fail
                  refine hf.out.mono ?_
                  rintro e w2 ⟨rfl, hb⟩
                  replace hBn := below_step hBn hb
                  clear hb hf x2 y0 y1
                  go_wp2_with fail
                  go_roundw
                  case rel => exact ⟨q + 1, by omega, by go_num, hBn, HN⟩
                  case measure => simp [intOf]; omega
              · have HN : Hid (∀ j, j < k + 1 → lostE (enF n P V R K B) j = 0) := Lib.hid (fun j hj => by
                  by_cases e : j = k
                  · subst e
                    rw [HL.out, any_mdF (fun i hi => HA2.out i (by omega))]
                    rfl
                  · exact HA.out j (by omega))
                have hnq : ¬ (q : Int) < (n1 : Int) := by omega
                replace hBm := below_step hBm hBn
                clear hlq hq
                go_wp2_with fail
                go_roundw
                case rel => exact ⟨k + 1, by omega, by go_num, hBm, HN⟩
                case measure => simp [intOf]; omega
          · have HF : Hid (idxErr (enF n P V R K B) = (0, -1)) := Lib.hid (by rw [HF2.out, firstE_none (fun j hj => HA.out j (by omega))])
            have hfi := fun W => refFine_calls W
            unfold fltV at hfi
            have hnk : ¬ (k : Int) < (n : Int) := by omega
            have hzy := hz.below (below_step hBk hBm)
            replace hfi := Lib.hid hfi
            clear hlt hk
            go_wp2_with fail
            refine (hfi.out _).mono ?_
            rintro e w2 ⟨rfl, hb⟩
            have hB2 := below_step hBx hb
            obtain ⟨z0, z1, zf⟩ := hzy.below hb
            clear hb hfi
            go_wp2_with fail
            refine bodyPost_ret (v := fltV (0, -1)) (by simp [results, Tryz.results57, fltV, go_sem, *]) rfl ?_
            rw [HF.out]
            exact ⟨rfl, (hB2.setCell (p := ⟨w.heap.size, 0, none⟩) (Nat.le_refl _) _).setCell (p := ⟨w.heap.size, 1, none⟩) (Nat.le_refl _) _⟩
end Go.Proofs.Pw

namespace Go.Proofs.Pw
open Go.RowKit
open Go.Lib hiding intOf
set_option maxHeartbeats 16000000 in
set_option maxRecDepth 100000 in
theorem refSumsOf_in (a : Option Addr) (n cap : Nat) (P V : Nat → ByteArray) (R : Nat → List Md) (K : Nat → List Str) (B : Nat → Bool) (Rv Kv : Nat → Value) (sv : Value) (sel : List Md) (l : List En) (hle : enF n P V R K B = l) (w : World) (h : EntsIn w a n cap P V R K B Rv Kv) (hr : ModsAt w sv sel) (hs : ShortI l) (hl2 : sel.length ≤ 1000000) :
    Calls Tryz.prog 17 #[.slice a n cap, sv] w fun e w' => (∃ v, e = .returned (.tuple #[v, fltV (allErr l sel)]) ∧ LnsAt .i64 w' v (sumsL l sel)) ∧ Below w.heap.size w w' := by
  obtain ⟨i0, hi, hz0, hz1, hz2⟩ := info_parts Tryz.infoLineG
  obtain ⟨a2, m, cap2, Q, U, rfl, hsl, -, -, hc2⟩ := id hr
  have hm : m ≤ 1000000 := by rw [hsl, mdF_length] at hl2; exact hl2
  have hn : n ≤ 1000000 := by have := hs.len; rwa [← hle, enF_length] at this
  have hB := below_alloc w (.cells #[.int .i64 0, .int .i64 0] 46)
  have hz := box2_alloc w (.int .i64 0) (.int .i64 0) 46
  have hif := fun (W : World) (hb : Below w.heap.size w W) => indexFault_in a n cap P V R K B Rv Kv W (h.below hb) (by rw [hle]; exact hs)
  have hrf := fun (W : World) (hb : Below w.heap.size w W) => selFault_in a n cap P V R K B Rv Kv (.slice a2 m cap2) sel W (h.below hb) (hr.below hb) hn hl2
  have hfo := fun (p v : ByteArray) (W : World) (hb : Below w.heap.size w W) => findOf_in a n cap P V R K B Rv Kv p v W (h.below hb) hn
  simp only [hle] at hif hrf hfo
  have H := Lib.hid h
  have HAT : Hid (∀ j, j < n → enAt l j = ⟨((P j).data.toList, (V j).data.toList), R j, K j, B j⟩) := Lib.hid (fun j hj => by rw [← hle, enAt_enF hj])
  have HSZ : Hid (∀ j, j < n → (P j).size ≤ 1000000 ∧ (V j).size ≤ 1000000) := Lib.hid (fun j hj => by rw [← hle] at hs; exact ⟨(hs.at_ hj).2.1, (hs.at_ hj).2.2.1⟩)
  have HSH := Lib.hid hs
  have HLN : Hid (l.length = n) := Lib.hid (by rw [← hle, enF_length])
  have HSL := Lib.hid hsl
  have HSE : Hid (allErr l sel = orE (idxErr l) (rootsErr l sel)) := Lib.hid rfl
  have HRZ : Hid ((rootsErr l sel).1 = 0 → ∀ m ∈ sel, ∃ e ∈ l, e.md = m) := Lib.hid rootsErr_zero.1
  have HS0 : Hid ((idxErr l).1 = 0 → ∀ j, j < n → SumIn (R j) (K j)) := Lib.hid (fun h0 j hj => by
    have h1 := sumIn_of h0 HSH.out (enAt_mem (l := l) (i := j) (by rw [HLN.out]; exact hj))
    rw [HAT.out j hj] at h1
    exact h1)
  obtain ⟨F, hF⟩ : ∃ F, idxErr l = F := ⟨_, rfl⟩
  obtain ⟨G, hGG⟩ : ∃ G, rootsErr l sel = G := ⟨_, rfl⟩
  simp only [hF] at hif HSE HS0
  simp only [hGG] at hrf HSE HRZ
  obtain ⟨fc, fa⟩ := F
  obtain ⟨gc, ga⟩ := G
  unfold fltV at hif hrf
  simp only at hif hrf
  replace hif := Lib.hid hif
  replace hrf := Lib.hid hrf
  replace hfo := Lib.hid hfo
  replace hc2 := Lib.hid hc2
  clear h hr hs hF hGG hle hsl
  go_enter Tryz.func17, Tryz.ntmps17
  go_wp2_with fail
  generalize w.alloc (.cells #[.int .i64 0, .int .i64 0] 46) = w1 at *
  refine (hif.out _ hB).mono ?_
  rintro e w2 ⟨rfl, hb⟩
  have hba := below_alloc w2 (.cells #[.int .i64 (fc : Nat), .int .i64 fa] 46)
  have hx := box2_alloc w2 (.int .i64 (fc : Nat)) (.int .i64 fa) 46
  have hs2 : w.heap.size < w2.heap.size := Nat.lt_of_lt_of_le (lt_of_cell hz.c0) hb.size
  replace hb := below_step hb hba
  replace hz := hz.below hb
  replace hB := below_step hB hb
  clear hb hba hif
  obtain ⟨x0, x1, xf⟩ := id hx
  have nx1 : w.heap.size ≠ w2.heap.size := by omega
  have nx2 : w2.heap.size ≠ w.heap.size := by omega
  by_cases h0 : fc = 0
  · subst h0
    go_wp2_with fail
    generalize w2.alloc (.cells #[.int .i64 ((0 : Nat) : Int), .int .i64 fa] 46) = w3 at *
    generalize w2.heap.size = bx at *
    refine (hrf.out _ hB).mono ?_
    rintro e w4 ⟨rfl, hb⟩
    replace hz := hz.below hb
    replace hx := hx.below hb
    replace hB := below_step hB hb
    clear x0 x1 xf hb hrf
    obtain ⟨x0, x1, xf⟩ := id hx
    have HF : Hid (allErr l sel = (gc, ga)) := Lib.hid (by rw [HSE.out]; unfold orE; rw [if_neg (by simp)])
    by_cases h1 : gc = 0
    · subst h1
      have HSA : Hid (allErr l sel = (0, -1)) := Lib.hid (startErr_at (l := l) (roots := sel) (show (allErr l sel).1 = 0 by rw [HF.out]))
      have HSF := Lib.hid (HRZ.out rfl)
      have HRR : Hid (sumsL l sel = sel.map (sumPair l)) := Lib.hid (sumsL_ok (by rw [HF.out]))
      have hzz : Box2 ((w4.setCell ⟨bx, 0, none⟩ (.int .i64 ((0 : Nat) : Int))).setCell ⟨bx, 1, none⟩ (.int .i64 ga)) w.heap.size (.int .i64 0) (.int .i64 0) := ⟨by rw [set_blk _ nx1, set_blk _ nx1]; exact hz.c0, by rw [set_blk _ nx1, set_blk _ nx1]; exact hz.c1, fun j => by simp [hz.fr j]⟩
      replace hB := (hB.setCell (p := ⟨bx, 0, none⟩) (by show w.heap.size ≤ bx; omega) (.int .i64 ((0 : Nat) : Int))).setCell (p := ⟨bx, 1, none⟩) (by show w.heap.size ≤ bx; omega) (.int .i64 ga)
      clear HSE HF HRZ
      have y0 : ((w4.setCell ⟨bx, 0, none⟩ (.int .i64 ((0 : Nat) : Int))).setCell ⟨bx, 1, none⟩ (.int .i64 ga)).cell? ⟨bx, 0, none⟩ = some (.int .i64 ((0 : Nat) : Int)) := by rw [set_off _ (by decide)]; exact set_same _ x0
      go_wp2_with fail
      generalize hw5 : ((w4.setCell ⟨bx, 0, none⟩ (.int .i64 ((0 : Nat) : Int))).setCell ⟨bx, 1, none⟩ (.int .i64 ga)) = w5 at *
      clear x0 x1 xf hx hz hw5 y0 nx1 nx2
      have HSI := Lib.hid (HS0.out trivial)
      go_loopw [7, 8] (fun o i wr => ∃ (k : Nat) (T : List LnB), k ≤ m ∧ i = .int .i64 k ∧ Hid (wr.ownsRow w5.heap.size 31 3 o T.length (lnVs .i64 T)) ∧ T.length = k ∧ Hid (lnTs T = ((mdF m Q U).take k).map (sumPair l)) ∧ Below w5.heap.size w5 wr) (fun _ i _ => m - (intOf i).toNat)
      case atStart => exact ⟨0, [], Nat.zero_le _, rfl, Lib.hid (World.ownsRow_nil _ _ _ _), rfl, Lib.hid rfl, Below.refl _ _⟩
      case round =>
        obtain ⟨k, T, hk, rfl, hO, hTk, hT, hBr⟩ := hrel
        have hBw := below_step hB hBr
        by_cases hlt : k < m
        · obtain ⟨ao, no, co, rfl⟩ := own_form hO.out
          have hkn : (k : Int) < (m : Int) := by omega
          obtain ⟨b1, o1, ea, c0, c1⟩ := hc2.out k hlt
          have HC := Lib.hid (And.intro c0 c1)
          clear c0 c1
          subst ea
          have hmem : ((Q k).data.toList, (U k).data.toList) ∈ sel := by rw [HSL.out]; exact List.mem_of_getElem? (mdF_get m Q U k hlt)
          have hnf : ¬ findE l ((Q k).data.toList, (U k).data.toList) < 0 := fun h2 => by
            obtain ⟨e, he, h3⟩ := HSF.out _ hmem
            exact findE_lt.1 h2 e he h3
          obtain ⟨x, ex, hxl, _⟩ := findE_nat hnf
          rw [HLN.out] at hxl
          have hf1 := fun W hW => hfo.out (Q k) (U k) W hW
          rw [ex] at hf1
          obtain ⟨a1, n1, s1, aK, nK, cK, e1, e2⟩ := H.out.forms2 hxl
          have hof1 := fun W (hb : Below w.heap.size w W) => refSumOf_calls (P x) (V x) (Rv x) (Kv x) (B x) (R x) (K x) W ((H.out.below hb).reqs x hxl) ((H.out.below hb).packs x hxl) (HSZ.out x hxl).1 (HSZ.out x hxl).2 (HSI.out x hxl)
          have hEN : entOf l ((Q k).data.toList, (U k).data.toList) = ⟨((P x).data.toList, (V x).data.toList), R x, K x, B x⟩ := by
            unfold entOf
            rw [ex, Int.toNat_natCast, HAT.out x hxl]
          obtain ⟨S, hS⟩ : ∃ S, sumOf ⟨((P x).data.toList, (V x).data.toList), R x, K x, B x⟩ = S := ⟨_, rfl⟩
          rw [hS] at hof1
          simp only [e1, e2] at hof1
          have HTN : Hid (lnTs (T ++ [(Q k, U k, S)]) = ((mdF m Q U).take (k + 1)).map (sumPair l)) := Lib.hid (by
            rw [lnTs_snoc, hT.out, mapF_succ _ hlt]
            unfold sumPair
            rw [hEN, hS])
          have hxn : ((x : Nat) : Int) < (n : Int) := by omega
          obtain ⟨b3, o3, ea3, hcell⟩ := H.out.at_ x hxl
          rw [e1, e2] at hcell
          subst ea3
          have HCE := Lib.hid hcell
          have hbW := hBr.drew
          have hO8 := Lib.hid hO.out.drew
          have hb0 := hBr.size
          have held : ∀ W, Below w5.heap.size w5 W → (W.cell? ⟨b1, o1 + k * 2, none⟩ = some (.string (Q k)) ∧ W.cell? ⟨b1, o1 + k * 2 + 1, none⟩ = some (.string (U k)) ∧ W.cell? ⟨b3, o3 + x * 5, none⟩ = some (.string (P x)) ∧ W.cell? ⟨b3, o3 + x * 5 + 1, none⟩ = some (.string (V x)) ∧ W.cell? ⟨b3, o3 + x * 5 + 2, none⟩ = some (.slice a1 n1 s1) ∧ W.cell? ⟨b3, o3 + x * 5 + 3, none⟩ = some (.slice aK nK cK) ∧ W.cell? ⟨b3, o3 + x * 5 + 4, none⟩ = some (.bool (B x))) ∧ Below w5.heap.size w5 W := fun W hW =>
            ⟨⟨Below.cell_some (below_step hB hW) HC.out.1, Below.cell_some (below_step hB hW) HC.out.2, (HCE.out.below (below_step hB hW)).c0, (HCE.out.below (below_step hB hW)).c1, (HCE.out.below (below_step hB hW)).c2, (HCE.out.below (below_step hB hW)).c3, (HCE.out.below (below_step hB hW)).c4⟩, hW⟩
          replace hf1 := Lib.hid hf1
          replace hof1 := Lib.hid hof1
          clear hmem hnf ex hEN hS hT e1 e2 hcell hO hBw hBr
          go_wp2_with fail
          go_region_held2 (fun W => (W.cell? ⟨b1, o1 + k * 2, none⟩ = some (.string (Q k)) ∧ W.cell? ⟨b1, o1 + k * 2 + 1, none⟩ = some (.string (U k)) ∧ W.cell? ⟨b3, o3 + x * 5, none⟩ = some (.string (P x)) ∧ W.cell? ⟨b3, o3 + x * 5 + 1, none⟩ = some (.string (V x)) ∧ W.cell? ⟨b3, o3 + x * 5 + 2, none⟩ = some (.slice a1 n1 s1) ∧ W.cell? ⟨b3, o3 + x * 5 + 3, none⟩ = some (.slice aK nK cK) ∧ W.cell? ⟨b3, o3 + x * 5 + 4, none⟩ = some (.bool (B x))) ∧ Below w5.heap.size w5 W) (first | exact held _ hbX | exact held _ (hbW.alloc hbW.size _) | exact held _ hbW) (first
            | (go_at_call 59; refine (hf1.out _ (below_step hB hbW)).mono ?_; rintro e w8 ⟨rfl, hb8⟩; replace hbW := below_step hbW hb8; have hO9 := Lib.hid (hO8.out.below hb8))
            | (go_at_call 14; refine (hof1.out _ (below_step hB hbW)).mono ?_; rintro e w9 ⟨rfl, hb9⟩; replace hbW := below_step hbW hb9; replace hO9 := Lib.hid (hO9.out.below hb9))
            | (refine step_append_lies _ rfl (.tmp 27) (.tmp 43) 24 rfl w5.heap.size 31 i0 (.agg #[.string ⟨#[]⟩, .string ⟨#[]⟩, .int .i64 0]) 3 40 Tryz.underlying24 hi hz0 hz1 hz2 rfl (by decide) (.slice ao no co) T.length (lnVs .i64 T) (by simp [Act.eval]) (hO9.out.alloc _) ⟨w9.heap.size, 0, none⟩ 1 1 [.string (Q k), .string (U k), .int .i64 S] (by simp [Act.eval]) rfl (cell_ln_new w9 _ _ _ _ _) (fun u hu => by simp at hu; rcases hu with rfl | rfl | rfl <;> rfl) (by decide) (by unfold maxLen; omega) (by omega) (by have := hbW.size; simp; omega) _ rfl ?_; intro g7 c7 w10 hown7 hgrow7 hg7 hl7; have hbX := (hbW.alloc hbW.size _).grown hgrow7 (by have := hbW.size; simp; omega) (fun q hq => ((hO9.out.lt q hq).1))))
          all_goals
            go_wp2_with fail
            go_roundw
            case rel =>
              refine ⟨k + 1, T ++ [(Q k, U k, S)], by omega, by go_num, Lib.hid ?_, by simp; omega, HTN, hbX⟩
              rw [List.length_append, List.length_singleton, ← lnVs_snoc]
              rw [hTk] at hown7 ⊢
              exact hown7
            case measure => simp [intOf]; omega
        · obtain rfl : k = m := by omega
          have HL : Hid (lnTs T = sumsL l sel) := Lib.hid (by
            rw [hT.out, HRR.out, mdF_take_all, ← HSL.out])
          have hfi := fun W => refFine_calls W
          unfold fltV at hfi
          have hnk : ¬ (k : Int) < (k : Int) := by omega
          obtain ⟨ao, no, co, rfl⟩ := own_form hO.out
          replace hfi := Lib.hid hfi
          clear hlt hT hTk
          go_wp2_with fail
          refine (hfi.out _).mono ?_
          rintro e w8 ⟨rfl, hb⟩
          have hB8 := below_step hB (below_step hBr hb)
          obtain ⟨z0, z1, zf⟩ := hzz.below (below_step hBr hb)
          have hO8 := hO.out.below hb
          have hlt0 : w.heap.size < w5.heap.size := lt_of_cell hzz.c0
          have HFIN : Hid (∀ u0 u1 : Value, LnsAt .i64 ((w8.setCell ⟨w.heap.size, 0, none⟩ u0).setCell ⟨w.heap.size, 1, none⟩ u1) (.slice ao no co) (sumsL l sel)) := Lib.hid (fun u0 u1 => by
            rw [← HL.out]
            exact lnsAt_own (ownsRow_set (ownsRow_set hO8 (own_ne hO8 hlt0) u0) (own_ne hO8 hlt0) u1))
          clear hb hfi hnk hO hO8
          go_wp2_with fail
          refine bodyPost_ret (v := .tuple #[(.slice ao no co), fltV (0, -1)]) (by simp [results, Tryz.results17, fltV, go_sem, *]) rfl ?_
          rw [HSA.out]
          exact ⟨⟨_, rfl, HFIN.out _ _⟩, (hB8.setCell (p := ⟨w.heap.size, 0, none⟩) (Nat.le_refl _) _).setCell (p := ⟨w.heap.size, 1, none⟩) (Nat.le_refl _) _⟩
    · have hc9 : (0 : Int) < (gc : Int) := by omega
      have hc8 : ((gc : Int) == 0) = false := beq_eq_false_iff_ne.2 (by omega)
      have HR : Hid (sumsL l sel = []) := Lib.hid (sumsL_bad (by rw [HF.out]; exact h1))
      have hx2 : Box2 ((w4.setCell ⟨bx, 0, none⟩ (.int .i64 (gc : Nat))).setCell ⟨bx, 1, none⟩ (.int .i64 ga)) bx (.int .i64 (gc : Nat)) (.int .i64 ga) := ⟨by rw [set_off _ (by decide)]; exact set_same _ x0, set_same _ (by rw [set_off _ (by decide)]; exact x1), fun j => by simp [xf j]⟩
      have hzz : Box2 ((w4.setCell ⟨bx, 0, none⟩ (.int .i64 (gc : Nat))).setCell ⟨bx, 1, none⟩ (.int .i64 ga)) w.heap.size (.int .i64 0) (.int .i64 0) := ⟨by rw [set_blk _ nx1, set_blk _ nx1]; exact hz.c0, by rw [set_blk _ nx1, set_blk _ nx1]; exact hz.c1, fun j => by simp [hz.fr j]⟩
      replace hB := (hB.setCell (p := ⟨bx, 0, none⟩) (by show w.heap.size ≤ bx; omega) (.int .i64 (gc : Nat))).setCell (p := ⟨bx, 1, none⟩) (by show w.heap.size ≤ bx; omega) (.int .i64 ga)
      clear h1 HSE HRZ
      go_wp2_with fail
      generalize (w4.setCell ⟨bx, 0, none⟩ (.int .i64 (gc : Nat))).setCell ⟨bx, 1, none⟩ (.int .i64 ga) = w5 at *
      clear x0 x1 xf hx hz
      obtain ⟨x0, x1, xf⟩ := id hx2
      obtain ⟨z0, z1, zf⟩ := id hzz
      go_region
      all_goals
        go_wp2_with fail
        refine bodyPost_ret (v := .tuple #[.slice none 0 0, fltV (gc, ga)]) (by simp [results, Tryz.results17, fltV, go_sem, *]) rfl ?_
        rw [HF.out, HR.out]
        exact ⟨⟨_, rfl, LnsAt.nil _ _⟩, (hB.drew.setCell (p := ⟨w.heap.size, 0, none⟩) (Nat.le_refl _) _).setCell (p := ⟨w.heap.size, 1, none⟩) (Nat.le_refl _) _⟩
  · have hc9 : (0 : Int) < (fc : Int) := by omega
    have hc8 : ((fc : Int) == 0) = false := beq_eq_false_iff_ne.2 (by omega)
    have HF : Hid (allErr l sel = (fc, fa)) := Lib.hid (by rw [HSE.out]; unfold orE; rw [if_pos h0])
    have HR : Hid (sumsL l sel = []) := Lib.hid (sumsL_bad (by rw [HF.out]; exact h0))
    obtain ⟨z0, z1, zf⟩ := id hz
    clear h0 HSE HRZ
    go_wp2_with fail
    generalize w2.alloc (.cells #[.int .i64 (fc : Nat), .int .i64 fa] 46) = w3 at *
    generalize w2.heap.size = bx at *
    go_region
    all_goals
      go_wp2_with fail
      refine bodyPost_ret (v := .tuple #[.slice none 0 0, fltV (fc, fa)]) (by simp [results, Tryz.results17, fltV, go_sem, *]) rfl ?_
      rw [HF.out, HR.out]
      exact ⟨⟨_, rfl, LnsAt.nil _ _⟩, (hB.drew.setCell (p := ⟨w.heap.size, 0, none⟩) (Nat.le_refl _) _).setCell (p := ⟨w.heap.size, 1, none⟩) (Nat.le_refl _) _⟩
end Go.Proofs.Pw
