/- Pk: walks and plain laws, joined: RefAllPacks Box. Conditions: at each theorem. -/
import Derived.Test.YtkfnhchlfojomaaGreatDoorPfa
import Derived.Test.YtkfnhchlfojomaaGreatDoorPfb
import Derived.Test.YtkfnhchlfojomaaGreatDoorPfc
import Derived.Test.YtkfnhchlfojomaaGreatDoorPfd
import Derived.Test.YtkfnhchlfojomaaGreatDoorPfe
import Derived.Test.YtkfnhchlfojomaaGreatDoorPff
import Derived.Test.YtkfnhchlfojomaaGreatDoorPfg
import Derived.Test.YtkfnhchlfojomaaGreatDoorPfh
import Derived.Test.YtkfnhchlfojomaaGreatDoorPfi
import Derived.Test.YtkfnhchlfojomaaGreatDoorPfj
import Derived.Test.YtkfnhchlfojomaaGreatDoorPfk
import Derived.Test.YtkfnhchlfojomaaGreatDoorPfl
import Derived.Test.YtkfnhchlfojomaaGreatDoorPfm
import Derived.Test.YtkfnhchlfojomaaGreatDoorPfn
import Derived.Test.YtkfnhchlfojomaaGreatDoorPfo
import Derived.Test.YtkfnhchlfojomaaGreatDoorPfp
import Derived.Test.YtkfnhchlfojomaaGreatDoorPfq
import Derived.Test.YtkfnhchlfojomaaGreatDoorPfr
import Derived.Test.YtkfnhchlfojomaaGreatDoorPfs
import Derived.Test.YtkfnhchlfojomaaGreatDoorPft
import Derived.Test.YtkfnhchlfojomaaGreatDoorPfu
import Derived.Test.YtkfnhchlfojomaaGreatDoorPfv
import Derived.Test.YtkfnhchlfojomaaGreatDoorPfw
import Derived.Test.YtkfnhchlfojomaaGreatDoorPfx
import Derived.Test.YtkfnhchlfojomaaGreatDoorPfy
import Derived.Test.YtkfnhchlfojomaaGreatDoorPfz
import Derived.Test.YtkfnhchlfojomaaGreatDoorPfza
import Derived.Test.YtkfnhchlfojomaaGreatDoorPfzb
import Derived.Test.YtkfnhchlfojomaaGreatDoorPfzc
import Derived.Test.YtkfnhchlfojomaaGreatDoorPfze
import Derived.Test.YtkfnhchlfojomaaGreatDoorPka
import Derived.Test.YtkfnhchlfojomaaGreatDoorPkb
import Derived.Test.YtkfnhchlfojomaaGreatDoorPkc
import Derived.Test.YtkfnhchlfojomaaGreatDoorPkd
import Derived.Test.YtkfnhchlfojomaaGreatDoorPke
import Derived.Test.YtkfnhchlfojomaaGreatDoorPkf
import Derived.Test.YtkfnhchlfojomaaGreatDoorPkg
import Derived.Test.YtkfnhchlfojomaaGreatDoorPkh

namespace Go.Proofs.Pw
open Go.RowKit
open Go.Lib hiding intOf
theorem pathsL_lenT {T : List ByteArray} {l : List Str} (h : strTs T = pathsL l) : T.length ≤ l.length := by
  have h1 := congrArg List.length h
  rw [strTs_length] at h1
  have h2 := insFold_lenP l
  omega
set_option maxHeartbeats 16000000 in
set_option maxRecDepth 100000 in
theorem refAllPacks_in (a : Option Addr) (n cap : Nat) (P V : Nat → ByteArray) (R : Nat → List Md) (K : Nat → List Str) (B : Nat → Bool) (Rv Kv : Nat → Value) (sv : Value) (sel : List Md) (l : List En) (hle : enF n P V R K B = l) (w : World) (h : EntsIn w a n cap P V R K B Rv Kv) (hr : ModsAt w sv sel) (hs : ShortI l) (hl2 : sel.length ≤ 1000000) :
    Calls Tryz.prog 48 #[.slice a n cap, sv] w fun e w' => (∃ v, e = .returned (.tuple #[v, fltV (allErr l sel)]) ∧ StrsAt w' v (allK l sel)) ∧ Below w.heap.size w w' := by
  obtain ⟨a2, m, cap2, Q, U, rfl, hsl, -, -, hc2⟩ := id hr
  have hm : m ≤ 1000000 := by rw [hsl, mdF_length] at hl2; exact hl2
  have hn : n ≤ 1000000 := by have := hs.len; rwa [← hle, enF_length] at this
  have hB := below_alloc w (.cells #[.int .i64 0, .int .i64 0] 46)
  have hz := box2_alloc w (.int .i64 0) (.int .i64 0) 46
  have hif := fun (W : World) (hb : Below w.heap.size w W) => indexFault_in a n cap P V R K B Rv Kv W (h.below hb) (by rw [hle]; exact hs)
  have hrf := fun (W : World) (hb : Below w.heap.size w W) => selFault_in a n cap P V R K B Rv Kv (.slice a2 m cap2) sel W (h.below hb) (hr.below hb) hn hl2
  have hfo := fun (p v : ByteArray) (W : World) (hb : Below w.heap.size w W) => findOf_in a n cap P V R K B Rv Kv p v W (h.below hb) hn
  simp only [hle] at hif hrf hfo
  have H := Lib.hid h
  have HAT : Hid (∀ j, j < n → enAt l j = ⟨((P j).data.toList, (V j).data.toList), R j, K j, B j⟩) := Lib.hid (fun j hj => by rw [← hle, enAt_enF hj])
  have HSK : Hid (∀ j, j < n → (K j).length ≤ 1000000 ∧ (P j).size ≤ 1000000 ∧ ∀ x ∈ K j, x.length ≤ 1000000) := Lib.hid (fun j hj => by rw [← hle] at hs; exact ⟨(hs.at_ hj).2.2.2.2.1, (hs.at_ hj).2.1, (hs.at_ hj).2.2.2.2.2⟩)
  have HLN : Hid (l.length = n) := Lib.hid (by rw [← hle, enF_length])
  have HSL := Lib.hid hsl
  have HSE : Hid (allErr l sel = orE (idxErr l) (rootsErr l sel)) := Lib.hid rfl
  have HOM : Hid (allK l sel = if (allErr l sel).1 = 0 then pathsL (allP l sel) else []) := Lib.hid rfl
  have HRZ : Hid ((rootsErr l sel).1 = 0 → ∀ m ∈ sel, ∃ e ∈ l, e.md = m) := Lib.hid rootsErr_zero.1
  obtain ⟨F, hF⟩ : ∃ F, idxErr l = F := ⟨_, rfl⟩
  obtain ⟨G, hGG⟩ : ∃ G, rootsErr l sel = G := ⟨_, rfl⟩
  simp only [hF] at hif HSE
  simp only [hGG] at hrf HSE HRZ
  obtain ⟨fc, fa⟩ := F
  obtain ⟨gc, ga⟩ := G
  unfold fltV at hif hrf
  simp only at hif hrf
  replace hif := Lib.hid hif
  replace hrf := Lib.hid hrf
  replace hfo := Lib.hid hfo
  replace hc2 := Lib.hid hc2
  clear h hr hs hF hGG hle hsl
  go_enter Tryz.func48, Tryz.ntmps48
  go_wp2_with fail
  generalize w.alloc (.cells #[.int .i64 0, .int .i64 0] 46) = w1 at *
  refine (hif.out _ hB).mono ?_
  rintro e w2 ⟨rfl, hb⟩
  have hba := below_alloc w2 (.cells #[.int .i64 (fc : Nat), .int .i64 fa] 46)
  have hx := box2_alloc w2 (.int .i64 (fc : Nat)) (.int .i64 fa) 46
  have hs2 : w.heap.size < w2.heap.size := Nat.lt_of_lt_of_le (lt_of_cell hz.c0) hb.size
  replace hb := below_step hb hba
  replace hz := hz.below hb
  replace hB := below_step hB hb
  clear hb hba hif
  obtain ⟨x0, x1, xf⟩ := id hx
  have nx1 : w.heap.size ≠ w2.heap.size := by omega
  have nx2 : w2.heap.size ≠ w.heap.size := by omega
  by_cases h0 : fc = 0
  · subst h0
    go_wp2_with fail
    generalize w2.alloc (.cells #[.int .i64 ((0 : Nat) : Int), .int .i64 fa] 46) = w3 at *
    generalize w2.heap.size = bx at *
    refine (hrf.out _ hB).mono ?_
    rintro e w4 ⟨rfl, hb⟩
    replace hz := hz.below hb
    replace hx := hx.below hb
    replace hB := below_step hB hb
    clear x0 x1 xf hb hrf
    obtain ⟨x0, x1, xf⟩ := id hx
    have HF : Hid (allErr l sel = (gc, ga)) := Lib.hid (by rw [HSE.out]; unfold orE; rw [if_neg (by simp)])
    by_cases h1 : gc = 0
    · subst h1
      have HSA : Hid (allErr l sel = (0, -1)) := Lib.hid (startErr_at (l := l) (roots := sel) (show (allErr l sel).1 = 0 by rw [HF.out]))
      have HSF := Lib.hid (HRZ.out rfl)
      have HRR : Hid (allK l sel = pathsL (allP l sel)) := Lib.hid (by rw [HOM.out, if_pos (by rw [HF.out])])
      have hz2 : Box2 ((w4.setCell ⟨bx, 0, none⟩ (.int .i64 ((0 : Nat) : Int))).setCell ⟨bx, 1, none⟩ (.int .i64 ga)) w.heap.size (.int .i64 0) (.int .i64 0) := ⟨by rw [set_blk _ nx1, set_blk _ nx1]; exact hz.c0, by rw [set_blk _ nx1, set_blk _ nx1]; exact hz.c1, fun j => by simp [hz.fr j]⟩
      replace hB := (hB.setCell (p := ⟨bx, 0, none⟩) (by show w.heap.size ≤ bx; omega) (.int .i64 ((0 : Nat) : Int))).setCell (p := ⟨bx, 1, none⟩) (by show w.heap.size ≤ bx; omega) (.int .i64 ga)
      clear HSE HF HRZ
      have y0 : ((w4.setCell ⟨bx, 0, none⟩ (.int .i64 ((0 : Nat) : Int))).setCell ⟨bx, 1, none⟩ (.int .i64 ga)).cell? ⟨bx, 0, none⟩ = some (.int .i64 ((0 : Nat) : Int)) := by rw [set_off _ (by decide)]; exact set_same _ x0
      go_wp2_with fail
      generalize hw5 : ((w4.setCell ⟨bx, 0, none⟩ (.int .i64 ((0 : Nat) : Int))).setCell ⟨bx, 1, none⟩ (.int .i64 ga)) = w5 at *
      clear x0 x1 xf hx hz hw5 y0 nx1 nx2
      go_loopw [7, 8, 9, 10] (fun o i _ _ wr => ∃ (k : Nat) (T : List ByteArray), k ≤ m ∧ i = .int .i64 k ∧ AccAt wr w5.heap.size o T ∧ Hid ((((mdF m Q U).take k).flatMap fun x => packsP (entOf l x)).length ≤ k * 1000000) ∧ Hid (strTs T = pathsL (((mdF m Q U).take k).flatMap fun x => packsP (entOf l x))) ∧ Below w5.heap.size w5 wr) (fun _ i _ _ _ => m - (intOf i).toNat)
      case atStart => exact ⟨0, [], Nat.zero_le _, rfl, .inl ⟨rfl, rfl⟩, Lib.hid (Nat.le_refl _), Lib.hid rfl, Below.refl _ _⟩
      case round =>
        obtain ⟨k, T, hk, rfl, hacc, hLk, hT, hBr⟩ := hrel
        have hBw := below_step hB hBr
        by_cases hlt : k < m
        · have hkn : (k : Int) < (m : Int) := by omega
          obtain ⟨b1, o1, ea, c0, c1⟩ := hc2.out k hlt
          replace c0 := Below.cell_some hBw c0
          replace c1 := Below.cell_some hBw c1
          subst ea
          have hmem : ((Q k).data.toList, (U k).data.toList) ∈ sel := by rw [HSL.out]; exact List.mem_of_getElem? (mdF_get m Q U k hlt)
          have hnf : ¬ findE l ((Q k).data.toList, (U k).data.toList) < 0 := fun h2 => by
            obtain ⟨e, he, h3⟩ := HSF.out _ hmem
            exact findE_lt.1 h2 e he h3
          obtain ⟨x, ex, hxl, _⟩ := findE_nat hnf
          rw [HLN.out] at hxl
          have hf1 := hfo.out (Q k) (U k) wr hBw
          rw [ex] at hf1
          obtain ⟨a1, n1, s1, aK, nK, cK, e1, e2⟩ := H.out.forms2 hxl
          have hTk : ((mdF m Q U).take (k + 1)).flatMap (fun x => packsP (entOf l x)) = ((mdF m Q U).take k).flatMap (fun x => packsP (entOf l x)) ++ (K x).map (packP (P x).data.toList) := by
            rw [List.take_add_one, mdF_get m Q U k hlt, List.flatMap_append]
            congr 1
            show packsP (entOf l ((Q k).data.toList, (U k).data.toList)) ++ [] = _
            rw [List.append_nil]
            unfold entOf
            rw [ex, Int.toNat_natCast, HAT.out x hxl]
            rfl
          have hkl := HSK.out x hxl
          have hxn : ((x : Nat) : Int) < (n : Int) := by omega
          replace hf1 := Lib.hid hf1
          clear hmem hnf ex
          go_wp2_with fail
          refine hf1.out.mono ?_
          rintro e w6 ⟨rfl, hb⟩
          replace hacc := hacc.below hb
          replace hBr := below_step hBr hb
          obtain ⟨b3, o3, ea3, hcell⟩ := (H.out.below (below_step hB hBr)).at_ x hxl
          have hpk := (H.out.below (below_step hB hBr)).packs x hxl
          rw [e1, e2] at hcell
          rw [e2] at hpk
          obtain ⟨d0, d1, d2, d3, d4⟩ := hcell
          subst ea3
          have hpp := refPacks_calls (P x) (V x) a1 n1 s1 (.slice aK nK cK) (B x) (K x) w6 hpk hkl.1 hkl.2.1 hkl.2.2
          replace hpp := Lib.hid hpp
          clear hb hf1 hpk e1 e2 hBw c0 c1
          go_wp2_with fail
          refine hpp.out.mono ?_
          rintro e w7 ⟨⟨v7, rfl, hs7⟩, hb⟩
          replace hacc := hacc.below hb
          replace hBr := below_step hBr hb
          obtain ⟨a8, m8, c8, L8, rfl, e8, hc8⟩ := strsAt_cells hs7
          rw [e8] at hTk
          have hm8 : m8 ≤ 1000000 := by
            have := congrArg List.length e8
            rw [lstF_length, List.length_map] at this
            omega
          have HTK := Lib.hid hTk
          have HLK := hLk
          replace hc8 := Lib.hid hc8
          clear hs7 hb hpp d0 d1 d2 d3 d4 e8 hTk hkl hLk
          go_wp2_with fail
          generalize hwq : wr = wq at *
          clear hwq
          go_loopw [7, 10] (fun o i wr => ∃ (j : Nat) (T2 : List ByteArray), j ≤ m8 ∧ i = .int .i64 j ∧ AccAt wr w5.heap.size o T2 ∧ Hid (strTs T2 = pathsL (((mdF m Q U).take k).flatMap (fun x => packsP (entOf l x)) ++ (lstF m8 L8).take j)) ∧ Below w7.heap.size w7 wr) (fun _ i _ => m8 - (intOf i).toNat)
          case atStart => exact ⟨0, T, Nat.zero_le _, rfl, hacc, Lib.hid (by rw [hT.out]; simp), Below.refl _ _⟩
          case round =>
            obtain ⟨j, T2, hj, rfl, hacc2, hT2, hBi⟩ := hrel
            by_cases hlj : j < m8
            · have hkj : (j : Int) < (m8 : Int) := by omega
              obtain ⟨b9, o9, ea9, f0⟩ := hc8.out _ hBi j hlj
              subst ea9
              have hlen2 : T2.length ≤ 1000000000000 := by
                have h1 := pathsL_lenT hT2.out
                rw [List.length_append, List.length_take, lstF_length] at h1
                have h2 := HLK.out
                omega
              have hwi := fun s W (hb : Below wr.heap.size wr W) => withS_calls w5.heap.size _ T2 s W (by have h1 := hBr.size; have h2 := hBi.size; have h3 := hb.size; omega) (hacc2.below hb) hlen2
              have hstep : ∀ T3 : List ByteArray, strTs T3 = insU compareBytes (L8 j).data.toList (strTs T2) → strTs T3 = pathsL (((mdF m Q U).take k).flatMap (fun x => packsP (entOf l x)) ++ (lstF m8 L8).take (j + 1)) := fun T3 h3 => by
                rw [h3, hT2.out, List.take_add_one, lstF_get m8 L8 j hlj, Option.toList_some, ← List.append_assoc]
                exact (pathsL_snoc _ _).symm
              have HST := Lib.hid hstep
              replace hwi := Lib.hid hwi
              clear hstep hT2
              go_wp2_with fail
              refine (hwi.out _ _ (Below.refl _ _)).mono ?_
              rintro e w9 ⟨⟨o', T3, rfl, hacc3, hT3⟩, hb⟩
              go_wp2_with fail
              go_roundw
              case rel => exact ⟨j + 1, T3, by omega, by go_num, hacc3, Lib.hid (HST.out T3 hT3), below_step hBi hb⟩
              case measure => simp [intOf]; omega
            · obtain rfl : m8 = j := by omega
              have hkj : ¬ (m8 : Int) < (m8 : Int) := by omega
              rw [List.take_of_length_le (l := lstF m8 L8) (by rw [lstF_length]; exact Nat.le_refl _), ← HTK.out] at hT2
              have HLN2 : Hid ((((mdF m Q U).take (k + 1)).flatMap fun x => packsP (entOf l x)).length ≤ (k + 1) * 1000000) := Lib.hid (by
                rw [HTK.out, List.length_append, lstF_length]
                have h2 := HLK.out
                omega)
              clear hlj
              go_wp2_with fail
              go_roundw
              case rel => exact ⟨k + 1, T2, by omega, by go_num, hacc2, HLN2, hT2, below_step hBr hBi⟩
              case measure => simp [intOf]; omega
        · obtain rfl : k = m := by omega
          have HL : Hid (strTs T = allK l sel) := Lib.hid (by
            rw [hT.out, HRR.out, List.take_of_length_le (by rw [mdF_length]; exact Nat.le_refl _), ← HSL.out]
            rfl)
          have hfi := fun W => refFine_calls W
          unfold fltV at hfi
          have hnk : ¬ (k : Int) < (k : Int) := by omega
          replace hfi := Lib.hid hfi
          clear hlt hT hLk
          go_wp2_with fail
          refine (hfi.out _).mono ?_
          rintro e w8 ⟨rfl, hb⟩
          have hB8 := below_step hB (below_step hBr hb)
          obtain ⟨z0, z1, zf⟩ := hz2.below (below_step hBr hb)
          have hacc8 := hacc.below hb
          have hlt0 : w.heap.size < w5.heap.size := lt_of_cell hz2.c0
          have HFIN : Hid (∀ u0 u1 : Value, StrsAt ((w8.setCell ⟨w.heap.size, 0, none⟩ u0).setCell ⟨w.heap.size, 1, none⟩ u1) u7 (allK l sel)) := Lib.hid (fun u0 u1 => by
            rw [← HL.out]
            refine AccAt.strs (base := w5.heap.size) ?_
            rcases hacc8 with h | ⟨g, c, h1, h2, h3, h4, h5, h6, h7⟩
            · exact .inl h
            · refine .inr ⟨g, c, h1, h2, h3, by simpa using h4, h5, h6, fun j hj => ?_⟩
              have hne : g ≠ w.heap.size := by omega
              rw [set_blk _ hne, set_blk _ hne]
              exact h7 j hj)
          clear hb hfi hnk hacc hacc8
          go_wp2_with fail
          refine bodyPost_ret (v := .tuple #[u7, fltV (0, -1)]) (by simp [results, Tryz.results48, fltV, go_sem, *]) rfl ?_
          rw [HSA.out]
          exact ⟨⟨_, rfl, HFIN.out _ _⟩, (hB8.setCell (p := ⟨w.heap.size, 0, none⟩) (Nat.le_refl _) _).setCell (p := ⟨w.heap.size, 1, none⟩) (Nat.le_refl _) _⟩
    · have hc9 : (0 : Int) < (gc : Int) := by omega
      have hc8 : ((gc : Int) == 0) = false := beq_eq_false_iff_ne.2 (by omega)
      have HR : Hid (allK l sel = []) := Lib.hid (by rw [HOM.out, if_neg (by rw [HF.out]; exact h1)])
      have hx2 : Box2 ((w4.setCell ⟨bx, 0, none⟩ (.int .i64 (gc : Nat))).setCell ⟨bx, 1, none⟩ (.int .i64 ga)) bx (.int .i64 (gc : Nat)) (.int .i64 ga) := ⟨by rw [set_off _ (by decide)]; exact set_same _ x0, set_same _ (by rw [set_off _ (by decide)]; exact x1), fun j => by simp [xf j]⟩
      have hz2 : Box2 ((w4.setCell ⟨bx, 0, none⟩ (.int .i64 (gc : Nat))).setCell ⟨bx, 1, none⟩ (.int .i64 ga)) w.heap.size (.int .i64 0) (.int .i64 0) := ⟨by rw [set_blk _ nx1, set_blk _ nx1]; exact hz.c0, by rw [set_blk _ nx1, set_blk _ nx1]; exact hz.c1, fun j => by simp [hz.fr j]⟩
      replace hB := (hB.setCell (p := ⟨bx, 0, none⟩) (by show w.heap.size ≤ bx; omega) (.int .i64 (gc : Nat))).setCell (p := ⟨bx, 1, none⟩) (by show w.heap.size ≤ bx; omega) (.int .i64 ga)
      clear h1 HSE HRZ
      go_wp2_with fail
      generalize (w4.setCell ⟨bx, 0, none⟩ (.int .i64 (gc : Nat))).setCell ⟨bx, 1, none⟩ (.int .i64 ga) = w5 at *
      clear x0 x1 xf hx hz
      obtain ⟨x0, x1, xf⟩ := id hx2
      obtain ⟨z0, z1, zf⟩ := id hz2
      go_region
      all_goals
        go_wp2_with fail
        refine bodyPost_ret (v := .tuple #[.slice none 0 0, fltV (gc, ga)]) (by simp [results, Tryz.results48, fltV, go_sem, *]) rfl ?_
        rw [HF.out, HR.out]
        exact ⟨⟨_, rfl, StrsAt.nil _⟩, (hB.drew.setCell (p := ⟨w.heap.size, 0, none⟩) (Nat.le_refl _) _).setCell (p := ⟨w.heap.size, 1, none⟩) (Nat.le_refl _) _⟩
  · have hc9 : (0 : Int) < (fc : Int) := by omega
    have hc8 : ((fc : Int) == 0) = false := beq_eq_false_iff_ne.2 (by omega)
    have HF : Hid (allErr l sel = (fc, fa)) := Lib.hid (by rw [HSE.out]; unfold orE; rw [if_pos h0])
    have HR : Hid (allK l sel = []) := Lib.hid (by rw [HOM.out, if_neg (by rw [HF.out]; exact h0)])
    obtain ⟨z0, z1, zf⟩ := id hz
    clear h0 HSE HRZ
    go_wp2_with fail
    generalize w2.alloc (.cells #[.int .i64 (fc : Nat), .int .i64 fa] 46) = w3 at *
    generalize w2.heap.size = bx at *
    go_region
    all_goals
      go_wp2_with fail
      refine bodyPost_ret (v := .tuple #[.slice none 0 0, fltV (fc, fa)]) (by simp [results, Tryz.results48, fltV, go_sem, *]) rfl ?_
      rw [HF.out, HR.out]
      exact ⟨⟨_, rfl, StrsAt.nil _⟩, (hB.drew.setCell (p := ⟨w.heap.size, 0, none⟩) (Nat.le_refl _) _).setCell (p := ⟨w.heap.size, 1, none⟩) (Nat.le_refl _) _⟩
end Go.Proofs.Pw

namespace Go.Proofs.Pw
open Go.RowKit
open Go.Lib hiding intOf
theorem ModsAt.flt {w : World} {b : Nat} {v : Value} {l : List Md} {x y : Int} (hm : ModsAt w v l) (hb : Box2 w b (.int .i64 x) (.int .i64 y)) (u0 u1 : Value) : ModsAt ((w.setCell ⟨b, 0, none⟩ u0).setCell ⟨b, 1, none⟩ u1) v l := by
  have key : ∀ (q : Addr) (s : ByteArray), w.cell? q = some (.string s) → ((w.setCell ⟨b, 0, none⟩ u0).setCell ⟨b, 1, none⟩ u1).cell? q = some (.string s) := fun q s hq => by
    rw [World.cell?_setCell_other _ _ _ _ (fun e => by rw [← e, hb.c1] at hq; cases hq), World.cell?_setCell_other _ _ _ _ (fun e => by rw [← e, hb.c0] at hq; cases hq)]
    exact hq
  obtain ⟨a, n, cap, P, V, e, e2, h3, h4, h5⟩ := hm
  exact ⟨a, n, cap, P, V, e, e2, h3, h4, fun j hj => let ⟨b', o', e', c0, c1⟩ := h5 j hj; ⟨b', o', e', key _ _ c0, key _ _ c1⟩⟩
theorem Box2.sto {w : World} {b : Nat} {u0 u1 : Value} (h : Box2 w b u0 u1) (v0 v1 : Value) : Box2 ((w.setCell ⟨b, 0, none⟩ v0).setCell ⟨b, 1, none⟩ v1) b v0 v1 := ⟨by rw [set_off _ (by decide)]; exact set_same _ h.c0, set_same _ (by rw [set_off _ (by decide)]; exact h.c1), fun j => by simp [h.fr j]⟩
theorem below_sto2 {B : Nat} {w W : World} (h : Below B w W) {b : Nat} (hb : B ≤ b) (u0 u1 : Value) : Below B w ((W.setCell ⟨b, 0, none⟩ u0).setCell ⟨b, 1, none⟩ u1) := (h.setCell (p := ⟨b, 0, none⟩) hb u0).setCell (p := ⟨b, 1, none⟩) hb u1
theorem FaultAt.flt {A : Nat → Addr} {w : World} {b : Nat} {v : Value} {r : Nat × Int} {x y : Int} (h : FaultAt A w v r) (hb : Box2 w b (.int .i64 x) (.int .i64 y)) (u0 u1 : Value) : FaultAt A ((w.setCell ⟨b, 0, none⟩ u0).setCell ⟨b, 1, none⟩ u1) v r := by
  rcases h with h | h | ⟨h, c, h1, h2, h3⟩
  · exact .inl h
  · exact .inr (.inl h)
  · have hne : c ≠ b := fun e => by
      subst e
      rw [hb.c1, errV_pos A h] at h3
      cases h3
    exact .inr (.inr ⟨h, c, h1, by rw [set_blk _ hne, set_blk _ hne]; exact h2, by rw [set_blk _ hne, set_blk _ hne]; exact h3⟩)
end Go.Proofs.Pw
