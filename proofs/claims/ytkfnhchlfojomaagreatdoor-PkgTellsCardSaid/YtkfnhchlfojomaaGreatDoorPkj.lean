/- Pk: walks and plain laws, joined: RefOfPack. Conditions: at each theorem. -/
import Derived.Test.YtkfnhchlfojomaaGreatDoorPfa
import Derived.Test.YtkfnhchlfojomaaGreatDoorPfb
import Derived.Test.YtkfnhchlfojomaaGreatDoorPfc
import Derived.Test.YtkfnhchlfojomaaGreatDoorPfd
import Derived.Test.YtkfnhchlfojomaaGreatDoorPfe
import Derived.Test.YtkfnhchlfojomaaGreatDoorPff
import Derived.Test.YtkfnhchlfojomaaGreatDoorPfg
import Derived.Test.YtkfnhchlfojomaaGreatDoorPfh
import Derived.Test.YtkfnhchlfojomaaGreatDoorPfi
import Derived.Test.YtkfnhchlfojomaaGreatDoorPfj
import Derived.Test.YtkfnhchlfojomaaGreatDoorPfk
import Derived.Test.YtkfnhchlfojomaaGreatDoorPfl
import Derived.Test.YtkfnhchlfojomaaGreatDoorPfm
import Derived.Test.YtkfnhchlfojomaaGreatDoorPfn
import Derived.Test.YtkfnhchlfojomaaGreatDoorPfo
import Derived.Test.YtkfnhchlfojomaaGreatDoorPfp
import Derived.Test.YtkfnhchlfojomaaGreatDoorPfq
import Derived.Test.YtkfnhchlfojomaaGreatDoorPfr
import Derived.Test.YtkfnhchlfojomaaGreatDoorPfs
import Derived.Test.YtkfnhchlfojomaaGreatDoorPft
import Derived.Test.YtkfnhchlfojomaaGreatDoorPfu
import Derived.Test.YtkfnhchlfojomaaGreatDoorPfv
import Derived.Test.YtkfnhchlfojomaaGreatDoorPfw
import Derived.Test.YtkfnhchlfojomaaGreatDoorPfx
import Derived.Test.YtkfnhchlfojomaaGreatDoorPfy
import Derived.Test.YtkfnhchlfojomaaGreatDoorPfz
import Derived.Test.YtkfnhchlfojomaaGreatDoorPfza
import Derived.Test.YtkfnhchlfojomaaGreatDoorPfzb
import Derived.Test.YtkfnhchlfojomaaGreatDoorPfzc
import Derived.Test.YtkfnhchlfojomaaGreatDoorPfze
import Derived.Test.YtkfnhchlfojomaaGreatDoorPka
import Derived.Test.YtkfnhchlfojomaaGreatDoorPkb
import Derived.Test.YtkfnhchlfojomaaGreatDoorPkc
import Derived.Test.YtkfnhchlfojomaaGreatDoorPkd
import Derived.Test.YtkfnhchlfojomaaGreatDoorPke
import Derived.Test.YtkfnhchlfojomaaGreatDoorPkf
import Derived.Test.YtkfnhchlfojomaaGreatDoorPkg
import Derived.Test.YtkfnhchlfojomaaGreatDoorPkh
import Derived.Test.YtkfnhchlfojomaaGreatDoorPki

namespace Go.Proofs.Pw
open Go.RowKit
open Go.Lib hiding intOf
theorem roots_pos {l : List En} {sel : List Md} (hi : RightI l) (h : (rootsErr l sel).1 = 0) : ∀ m ∈ sel, m.1 ≠ [] := fun m hm => by
  obtain ⟨e, he, h1⟩ := rootsErr_zero.1 h m hm
  have h2 := (modErr_zero (hi.mds e he)).1
  rw [h1] at h2
  exact path_ne h2
theorem best_none {out : List Md} (hp : ∀ m ∈ out, m.1 ≠ []) : (bestM out).1 = [] ↔ out = [] := by
  constructor
  · intro h
    by_cases h2 : out = []
    · exact h2
    · exact absurd h (hp _ (bestM_mem h2 hp))
  · intro h
    rw [h]; rfl
theorem box2_belowdP {w w' : World} {b : Nat} {v0 v1 : Value} (h : Box2 w b v0 v1) (hb : Below w.drew.heap.size w.drew w') : Box2 w' b v0 v1 :=
  Box2.below (w := w.drew) ⟨h.c0, h.c1, h.fr⟩ hb
def stepM (l : List En) (p : Str) (b x : Md) : Md := if selHas l p x then longM b x else b
theorem best_step (l : List En) (p : Str) (sel : List Md) : bestM (sel.filter (selHas l p)) = sel.foldl (stepM l p) ([], []) := bestM_filter _ _
set_option maxHeartbeats 16000000 in
set_option maxRecDepth 100000 in
theorem refOfPack_in (a : Option Addr) (n cap : Nat) (P V : Nat → ByteArray) (R : Nat → List Md) (K : Nat → List Str) (B : Nat → Bool) (Rv Kv : Nat → Value) (sv : Value) (sel : List Md) (q : ByteArray) (l : List En) (hle : enF n P V R K B = l) (w : World) (h : EntsIn w a n cap P V R K B Rv Kv) (hr : ModsAt w sv sel) (hs : ShortI l) (hl2 : sel.length ≤ 1000000) (hq : q.size ≤ 1000000) :
    Calls Tryz.prog 47 #[.slice a n cap, sv, .string q] w fun e w' => e = .returned (.tuple #[.agg #[.string ⟨(ofM l sel q.data.toList).1.toArray⟩, .string ⟨(ofM l sel q.data.toList).2.toArray⟩], fltV (ofErr l sel q.data.toList)]) ∧ Below w.heap.size w w' := by
  obtain ⟨a2, m, cap2, Q, U, rfl, hsl, -, -, hc2⟩ := id hr
  have hmm : m ≤ 1000000 := by rw [hsl, mdF_length] at hl2; exact hl2
  have hn : n ≤ 1000000 := by have := hs.len; rwa [← hle, enF_length] at this
  have hB0 := below_alloc w (.cells #[.string ⟨#[]⟩, .string ⟨#[]⟩] 29)
  have hm0 := box2_alloc w (.string ⟨#[]⟩) (.string ⟨#[]⟩) 29
  have hB1 := below_alloc (w.alloc (.cells #[.string ⟨#[]⟩, .string ⟨#[]⟩] 29)) (.cells #[.int .i64 0, .int .i64 0] 46)
  have hz := box2_alloc (w.alloc (.cells #[.string ⟨#[]⟩, .string ⟨#[]⟩] 29)) (.int .i64 0) (.int .i64 0) 46
  have hm := hm0.below hB1
  have hB := below_step hB0 hB1
  simp only [World.size_alloc] at hz
  clear hB0 hm0 hB1
  have hif := fun (W : World) (hb : Below w.heap.size w W) => indexFault_in a n cap P V R K B Rv Kv W (h.below hb) (by rw [hle]; exact hs)
  have hrf := fun (W : World) (hb : Below w.heap.size w W) => selFault_in a n cap P V R K B Rv Kv (.slice a2 m cap2) sel W (h.below hb) (hr.below hb) hn hl2
  have hfo := fun (p v : ByteArray) (W : World) (hb : Below w.heap.size w W) => findOf_in a n cap P V R K B Rv Kv p v W (h.below hb) hn
  have hpe := fun (W : World) => refPath_calls q W (by omega)
  simp only [hle] at hif hrf hfo
  have H := Lib.hid h
  have HAT : Hid (∀ j, j < n → enAt l j = ⟨((P j).data.toList, (V j).data.toList), R j, K j, B j⟩) := Lib.hid (fun j hj => by rw [← hle, enAt_enF hj])
  have HSK : Hid (∀ j, j < n → (K j).length ≤ 1000000 ∧ (P j).size ≤ 1000000 ∧ ∀ x ∈ K j, x.length ≤ 1000000) := Lib.hid (fun j hj => by rw [← hle] at hs; exact ⟨(hs.at_ hj).2.2.2.2.1, (hs.at_ hj).2.1, (hs.at_ hj).2.2.2.2.2⟩)
  have HLN : Hid (l.length = n) := Lib.hid (by rw [← hle, enF_length])
  have HSL := Lib.hid hsl
  have hOE : ofErr l sel q.data.toList = orE (idxErr l) (if pathErr q.data.toList ≠ 0 ∧ pathErr q.data.toList ≠ 4 then (pathErr q.data.toList, -1) else orE (rootsErr l sel) (if (sel.filter (selHas l q.data.toList)) = [] then (5, -1) else (0, -1))) := rfl
  have HOM : Hid (ofM l sel q.data.toList = if (ofErr l sel q.data.toList).1 = 0 then bestM (sel.filter (selHas l q.data.toList)) else ([], [])) := Lib.hid rfl
  have hRZ : (rootsErr l sel).1 = 0 → ∀ m ∈ sel, ∃ e ∈ l, e.md = m := rootsErr_zero.1
  have hPS : (idxErr l).1 = 0 → (rootsErr l sel).1 = 0 → ∀ m ∈ sel, m.1 ≠ [] := fun h1 h2 => roots_pos (rightI_of h1) h2
  obtain ⟨F, hF⟩ : ∃ F, idxErr l = F := ⟨_, rfl⟩
  obtain ⟨G, hGG⟩ : ∃ G, rootsErr l sel = G := ⟨_, rfl⟩
  have hpi := pathErr_inP q.data.toList
  simp only [hF] at hif hOE hPS
  simp only [hGG] at hrf hOE hRZ hPS
  generalize pathErr q.data.toList = pe at hpe hOE hpi
  obtain ⟨fc, fa⟩ := F
  obtain ⟨gc, ga⟩ := G
  unfold fltV at hif hrf
  simp only at hif hrf hRZ hPS
  have HRZ := Lib.hid hRZ
  have HOE := Lib.hid hOE
  have HPS0 := Lib.hid hPS
  replace hif := Lib.hid hif
  replace hrf := Lib.hid hrf
  replace hfo := Lib.hid hfo
  replace hc2 := Lib.hid hc2
  replace hpe := Lib.hid hpe
  clear h hr hs hF hGG hle hsl hOE hRZ hPS
  go_enter Tryz.func47, Tryz.ntmps47
  go_wp2_with fail
  generalize (w.alloc (.cells #[.string ⟨#[]⟩, .string ⟨#[]⟩] 29)).alloc (.cells #[.int .i64 0, .int .i64 0] 46) = w1 at *
  refine (hif.out _ hB).mono ?_
  rintro e w2 ⟨rfl, hb⟩
  have hba := below_alloc w2 (.cells #[.int .i64 (fc : Nat), .int .i64 fa] 46)
  have hx := box2_alloc w2 (.int .i64 (fc : Nat)) (.int .i64 fa) 46
  have hs2 : w.heap.size + 1 < w2.heap.size := Nat.lt_of_lt_of_le (lt_of_cell hz.c0) hb.size
  replace hb := below_step hb hba
  replace hz := hz.below hb
  replace hm := hm.below hb
  replace hB := below_step hB hb
  clear hb hba hif
  have nx1 : w.heap.size + 1 ≠ w2.heap.size := by omega
  have nx2 : w2.heap.size ≠ w.heap.size + 1 := by omega
  have nx3 : w.heap.size ≠ w2.heap.size := by omega
  have nx4 : w2.heap.size ≠ w.heap.size := by omega
  obtain ⟨x0, x1, xf⟩ := id hx
  by_cases h0 : fc = 0
  · subst h0
    have HPS := Lib.hid (HPS0.out rfl)
    have hF0 : ofErr l sel q.data.toList = if pe ≠ 0 ∧ pe ≠ 4 then (pe, -1) else orE (gc, ga) (if (sel.filter (selHas l q.data.toList)) = [] then (5, -1) else (0, -1)) := by
      rw [HOE.out]
      unfold orE
      rw [if_neg (by simp)]
    clear HOE HPS0
    go_wp2_with fail
    generalize w2.alloc (.cells #[.int .i64 ((0 : Nat) : Int), .int .i64 fa] 46) = w3 at *
    generalize w2.heap.size = bx at *
    refine (hpe.out _).mono ?_
    rintro e w3a ⟨rfl, hb⟩
    replace hz := hz.below hb
    replace hm := hm.below hb
    replace hx := hx.below hb
    replace hB := below_step hB hb
    clear hb hpe x0 x1 xf
    obtain ⟨x0, x1, xf⟩ := id hx
    rcases hpi with rfl | rfl | rfl | rfl
    · rw [if_neg (by simp)] at hF0
      have HF1 := Lib.hid hF0
      clear hF0
      go_wp2_with fail
      refine (hrf.out _ hB).mono ?_
      rintro e w4 ⟨rfl, hb⟩
      replace hz := hz.below hb
      replace hm := hm.below hb
      replace hx := hx.below hb
      replace hB := below_step hB hb
      clear hb hrf x0 x1 xf
      obtain ⟨x0, x1, xf⟩ := id hx
      obtain ⟨z0, z1, zf⟩ := id hz
      obtain ⟨m0, m1, mf⟩ := id hm
      have HF2 : Hid (ofErr l sel q.data.toList = if gc ≠ 0 then (gc, ga) else if (sel.filter (selHas l q.data.toList)) = [] then (5, -1) else (0, -1)) := Lib.hid HF1.out
      by_cases h1 : gc = 0
      · subst h1
        have hz2 : Box2 ((w4.setCell ⟨bx, 0, none⟩ (.int .i64 ((0 : Nat) : Int))).setCell ⟨bx, 1, none⟩ (.int .i64 ga)) (w.heap.size + 1) (.int .i64 0) (.int .i64 0) := ⟨by rw [set_blk _ nx1, set_blk _ nx1]; exact hz.c0, by rw [set_blk _ nx1, set_blk _ nx1]; exact hz.c1, fun j => by simp [hz.fr j]⟩
        have hm2 : Box2 ((w4.setCell ⟨bx, 0, none⟩ (.int .i64 ((0 : Nat) : Int))).setCell ⟨bx, 1, none⟩ (.int .i64 ga)) w.heap.size (.string ⟨#[]⟩) (.string ⟨#[]⟩) := ⟨by rw [set_blk _ nx3, set_blk _ nx3]; exact hm.c0, by rw [set_blk _ nx3, set_blk _ nx3]; exact hm.c1, fun j => by simp [hm.fr j]⟩
        replace hB := (hB.setCell (p := ⟨bx, 0, none⟩) (by show w.heap.size ≤ bx; omega) (.int .i64 ((0 : Nat) : Int))).setCell (p := ⟨bx, 1, none⟩) (by show w.heap.size ≤ bx; omega) (.int .i64 ga)
        have y0 : ((w4.setCell ⟨bx, 0, none⟩ (.int .i64 ((0 : Nat) : Int))).setCell ⟨bx, 1, none⟩ (.int .i64 ga)).cell? ⟨bx, 0, none⟩ = some (.int .i64 ((0 : Nat) : Int)) := by rw [set_off _ (by decide)]; exact set_same _ x0
        have HSF := Lib.hid (HRZ.out rfl)
        have HF3 : Hid (ofErr l sel q.data.toList = if (sel.filter (selHas l q.data.toList)) = [] then (5, -1) else (0, -1)) := Lib.hid (by rw [HF2.out, if_neg (by simp)])
        have HPO := Lib.hid (HPS.out rfl)
        clear HF1 HF2 HRZ HPS hz hm
        go_wp2_with fail
        have h54 : ((w4.setCell ⟨bx, 0, none⟩ (.int .i64 ((0 : Nat) : Int))).setCell ⟨bx, 1, none⟩ (.int .i64 ga)).heap.size = w4.heap.size := by simp
        generalize hw5 : ((w4.setCell ⟨bx, 0, none⟩ (.int .i64 ((0 : Nat) : Int))).setCell ⟨bx, 1, none⟩ (.int .i64 ga)) = w5 at *
        have hbe := box2_alloc w5 (.string ⟨#[]⟩) (.string ⟨#[]⟩) 29
        have hBe := below_alloc w5 (.cells #[.string ⟨#[]⟩, .string ⟨#[]⟩] 29)
        have hs5 : w.heap.size + 1 < w5.heap.size := lt_of_cell hz2.c0
        have HB5 := Lib.hid h54
        rw [h54] at hbe
        clear h54
        generalize w4.heap.size = bb at *
        clear x0 x1 xf hx hw5 y0 nx1 nx2 nx3 nx4 z0 z1 zf m0 m1 mf
        generalize w5.alloc (.cells #[.string ⟨#[]⟩, .string ⟨#[]⟩] 29) = w6 at *
        go_loopw [11, 12] (fun i _ wr => ∃ (k : Nat) (X Y : ByteArray), k ≤ m ∧ i = .int .i64 k ∧ Box2 wr bb (.string X) (.string Y) ∧ Hid ((X.data.toList, Y.data.toList) = ((mdF m Q U).take k).foldl (stepM l q.data.toList) ([], [])) ∧ Below w5.heap.size w5 wr) (fun i _ _ => m - (intOf i).toNat)
        case atStart => exact ⟨0, ⟨#[]⟩, ⟨#[]⟩, Nat.zero_le _, rfl, hbe, Lib.hid rfl, hBe⟩
        case round =>
          obtain ⟨k, X, Y, hk, rfl, hbx, hT, hBr⟩ := hrel
          have hBw := below_step hB hBr
          by_cases hlt : k < m
          · have hkn : (k : Int) < (m : Int) := by omega
            obtain ⟨b1, o1, ea, c0, c1⟩ := hc2.out k hlt
            have hb1 := lt_of_cell c0
            simp only at hb1
            replace c0 := Below.cell_some hBw c0
            replace c1 := Below.cell_some hBw c1
            subst ea
            have hmem : ((Q k).data.toList, (U k).data.toList) ∈ sel := by rw [HSL.out]; exact List.mem_of_getElem? (mdF_get m Q U k hlt)
            have hnf : ¬ findE l ((Q k).data.toList, (U k).data.toList) < 0 := fun h2 => by
              obtain ⟨e, he, h3⟩ := HSF.out _ hmem
              exact findE_lt.1 h2 e he h3
            obtain ⟨x, ex, hxl, _⟩ := findE_nat hnf
            rw [HLN.out] at hxl
            have hf1 := hfo.out (Q k) (U k) wr hBw
            rw [ex] at hf1
            obtain ⟨a1, n1, s1, aK, nK, cK, e1, e2⟩ := H.out.forms2 hxl
            have hTk : ((mdF m Q U).take (k + 1)).foldl (stepM l q.data.toList) ([], []) = if hasK ⟨((P x).data.toList, (V x).data.toList), R x, K x, B x⟩ q.data.toList then longM (X.data.toList, Y.data.toList) ((Q k).data.toList, (U k).data.toList) else (X.data.toList, Y.data.toList) := by
              rw [List.take_add_one, mdF_get m Q U k hlt, List.foldl_append, ← hT.out]
              show stepM _ _ _ _ = _
              unfold stepM selHas entOf
              rw [ex, Int.toNat_natCast, HAT.out x hxl]
            have hkl := HSK.out x hxl
            have hin0 : decide (q.data.toList ∈ (K x).map (packP (P x).data.toList)) = hasK ⟨((P x).data.toList, (V x).data.toList), R x, K x, B x⟩ q.data.toList := (hasK_in ⟨((P x).data.toList, (V x).data.toList), R x, K x, B x⟩ q.data.toList).symm
            generalize hasK ⟨((P x).data.toList, (V x).data.toList), R x, K x, B x⟩ q.data.toList = HX at hTk hin0
            have hxn : ((x : Nat) : Int) < (n : Int) := by omega
            replace hf1 := Lib.hid hf1
            replace hin0 := Lib.hid hin0
            clear hmem hnf ex hT
            go_wp2_with fail
            refine hf1.out.mono ?_
            rintro e w7 ⟨rfl, hb⟩
            replace hbx := hbx.below hb
            replace hBr := below_step hBr hb
            replace c0 := Below.cell_some hb c0
            replace c1 := Below.cell_some hb c1
            obtain ⟨b3, o3, ea3, hcell⟩ := (H.out.below (below_step hB hBr)).at_ x hxl
            have hpk := (H.out.below (below_step hB hBr)).packs x hxl
            rw [e1, e2] at hcell
            rw [e2] at hpk
            obtain ⟨d0, d1, d2, d3, d4⟩ := hcell
            subst ea3
            have hpp := refPacks_calls (P x) (V x) a1 n1 s1 (.slice aK nK cK) (B x) (K x) w7 hpk hkl.1 hkl.2.1 hkl.2.2
            replace hpp := Lib.hid hpp
            clear hb hf1 hpk e1 e2 hBw
            go_wp2_with fail
            refine hpp.out.mono ?_
            rintro e w8 ⟨⟨v8, rfl, hs8⟩, hb⟩
            replace hbx := hbx.below hb
            replace hBr := below_step hBr hb
            replace c0 := Below.cell_some hb c0
            replace c1 := Below.cell_some hb c1
            have hit := inTexts_calls q v8 _ w8 hs8 (by rw [List.length_map]; exact hkl.1)
            rw [hin0.out] at hit
            obtain ⟨a8, m8, c8, _, rfl, -⟩ := hs8
            replace hit := Lib.hid hit
            clear hb hpp d0 d1 d2 d3 d4 hkl
            go_wp2_with fail
            refine hit.out.mono ?_
            rintro e w9 ⟨rfl, hb⟩
            replace hbx := hbx.below hb
            replace hBr := below_step hBr hb
            replace c0 := Below.cell_some hb c0
            replace c1 := Below.cell_some hb c1
            clear hb hit
            obtain ⟨y0, y1, yf⟩ := id hbx
            have hxb : b1 ≠ bb := by have := HB5.out; omega
            cases HX with
            | false =>
              have HN : Hid ((X.data.toList, Y.data.toList) = ((mdF m Q U).take (k + 1)).foldl (stepM l q.data.toList) ([], [])) := Lib.hid (by rw [hTk]; rfl)
              clear hTk
              go_wp2_with fail
              have kqc0 := fun d os => cell_patch (d := d) (os := os) c0
              have kqy0 := fun d os => cell_patch (d := d) (os := os) y0
              refine wp_region_quiet_patch (by kernel_rfl) (by kernel_rfl) ?_
              repeat (go_big_quiet_step (fail))
              refine wpQuiet_nil ?_
              intro _ hw'
              obtain ⟨⟨dq, osq⟩, hw''⟩ := hw'
              subst hw''
              clear kqc0 kqy0
              have hb := below_patch w9 dq osq
              replace hBr := below_step hBr hb
              replace hbx := hbx.below hb
              clear hb
              generalize patch w9 dq osq = w10 at hBr hbx ⊢
              go_wp2_with fail
              go_roundw
              case rel => exact ⟨k + 1, X, Y, by omega, by go_num, hbx, HN, hBr⟩
              case measure => simp [intOf]; omega
            | true =>
              by_cases hlg : X.size < (Q k).size
              · have HN : Hid (((Q k).data.toList, (U k).data.toList) = ((mdF m Q U).take (k + 1)).foldl (stepM l q.data.toList) ([], [])) := Lib.hid (by
                  rw [hTk, if_pos rfl]
                  unfold longM
                  rw [if_pos (by rw [size_eq, size_eq] at hlg; exact hlg)])
                have HL9 := Lib.hid (decide_eq_true (p := (X.size : Int) < ((Q k).size : Int)) (by omega))
                have HL8 := Lib.hid (decide_eq_true (p := X.size < (Q k).size) hlg)
                clear hTk hlg
                go_wp2_with fail
                have hl9 := HL9.out
                have hl8 := HL8.out
                have kqc0 := fun d os => cell_patch (d := d) (os := os) c0
                have kqy0 := fun d os => cell_patch (d := d) (os := os) y0
                refine wp_region_quiet_patch (by kernel_rfl) (by kernel_rfl) ?_
                repeat (go_big_quiet_step (fail))
                refine wpQuiet_nil ?_
                intro _ hw'
                obtain ⟨⟨dq, osq⟩, hw''⟩ := hw'
                subst hw''
                clear kqc0 kqy0
                have hb := below_patch w9 dq osq
                replace hBr := below_step hBr hb
                replace hbx := hbx.below hb
                replace c0 := Below.cell_some hb c0
                replace c1 := Below.cell_some hb c1
                clear hb
                generalize patch w9 dq osq = w10 at hBr hbx c0 c1 ⊢
                clear y0 y1 yf
                obtain ⟨y0, y1, yf⟩ := id hbx
                go_wp2_with fail
                go_roundw
                case rel => exact ⟨k + 1, Q k, U k, by omega, by go_num, hbx.sto _ _, HN, (hBr.setCell (p := ⟨bb, 0, none⟩) (by rw [HB5.out]; exact Nat.le_refl _) _).setCell (p := ⟨bb, 1, none⟩) (by rw [HB5.out]; exact Nat.le_refl _) _⟩
                case measure => simp [intOf]; omega
              · have HN : Hid ((X.data.toList, Y.data.toList) = ((mdF m Q U).take (k + 1)).foldl (stepM l q.data.toList) ([], [])) := Lib.hid (by
                  rw [hTk, if_pos rfl]
                  unfold longM
                  rw [if_neg (by rw [size_eq, size_eq] at hlg; exact hlg)])
                have HL9 := Lib.hid (decide_eq_false (p := (X.size : Int) < ((Q k).size : Int)) (by omega))
                have HL8 := Lib.hid (decide_eq_false (p := X.size < (Q k).size) hlg)
                clear hTk hlg
                go_wp2_with fail
                have hl9 := HL9.out
                have hl8 := HL8.out
                have kqc0 := fun d os => cell_patch (d := d) (os := os) c0
                have kqy0 := fun d os => cell_patch (d := d) (os := os) y0
                refine wp_region_quiet_patch (by kernel_rfl) (by kernel_rfl) ?_
                repeat (go_big_quiet_step (fail))
                refine wpQuiet_nil ?_
                intro _ hw'
                obtain ⟨⟨dq, osq⟩, hw''⟩ := hw'
                subst hw''
                clear kqc0 kqy0
                have hb := below_patch w9 dq osq
                replace hBr := below_step hBr hb
                replace hbx := hbx.below hb
                clear hb
                generalize patch w9 dq osq = w10 at hBr hbx ⊢
                go_wp2_with fail
                go_roundw
                case rel => exact ⟨k + 1, X, Y, by omega, by go_num, hbx, HN, hBr⟩
                case measure => simp [intOf]; omega
          · obtain rfl : k = m := by omega
            have hnk : ¬ (k : Int) < (k : Int) := by omega
            have HBM : Hid ((X.data.toList, Y.data.toList) = bestM (sel.filter (selHas l q.data.toList))) := Lib.hid (by
              rw [best_step, hT.out, List.take_of_length_le (by rw [mdF_length]; exact Nat.le_refl _), ← HSL.out])
            have hno := best_none (out := sel.filter (selHas l q.data.toList)) (fun m hm => HPO.out m (List.mem_filter.1 hm).1)
            rw [← HBM.out] at hno
            simp only at hno
            obtain ⟨y0, y1, yf⟩ := id hbx
            have hz6 := hz2.below hBr
            have hm6 := hm2.below hBr
            clear hT hlt
            by_cases hX : X.data.toList = []
            · have HF : Hid (ofErr l sel q.data.toList = (5, -1)) := Lib.hid (by rw [HF3.out, if_pos (hno.1 hX)])
              have HM : Hid (ofM l sel q.data.toList = ([], [])) := Lib.hid (by rw [HOM.out, HF.out, if_neg (by decide)])
              have q9 : (X.toList == []) = true := by rw [toList_data, hX]; rfl
              have hbr := fun W => refBare_calls 5 W
              unfold fltV at hbr
              simp only at hbr
              replace hbr := Lib.hid hbr
              clear hno hX
              go_wp2_with fail
              refine (hbr.out _).mono ?_
              rintro e w10 ⟨rfl, hb⟩
              have hB10 := below_step hBw hb
              obtain ⟨z0, z1, zf⟩ := hz6.below hb
              obtain ⟨m0, m1, mf⟩ := hm6.below hb
              clear hb hbr
              go_wp2_with fail
              refine bodyPost_ret (v := .tuple #[.agg #[.string ⟨#[]⟩, .string ⟨#[]⟩], fltV ((5 : Nat), -1)]) (by simp [results, Tryz.results47, fltV, go_sem, *]) rfl ?_
              rw [HM.out, HF.out]
              exact ⟨rfl, (((hB10.setCell (p := ⟨w.heap.size, 0, none⟩) (Nat.le_refl _) _).setCell (p := ⟨w.heap.size, 1, none⟩) (Nat.le_refl _) _).setCell (p := ⟨w.heap.size + 1, 0, none⟩) (Nat.le_succ _) _).setCell (p := ⟨w.heap.size + 1, 1, none⟩) (Nat.le_succ _) _⟩
            · have HF : Hid (ofErr l sel q.data.toList = (0, -1)) := Lib.hid (by rw [HF3.out, if_neg (fun e => hX (hno.2 e))])
              have HM : Hid (ofM l sel q.data.toList = (X.data.toList, Y.data.toList)) := Lib.hid (by rw [HOM.out, HF.out, if_pos rfl, ← HBM.out])
              have q9 : (X.toList == []) = false := by rw [toList_data]; exact beq_eq_false_iff_ne.2 hX
              have hfi := fun W => refFine_calls W
              unfold fltV at hfi
              replace hfi := Lib.hid hfi
              obtain ⟨z0, z1, zf⟩ := id hz6
              obtain ⟨m0, m1, mf⟩ := id hm6
              clear hno hX
              go_wp2_with fail
              go_region_with (go_at_call 63; refine (hfi.out _).mono ?_; rintro e w10 ⟨rfl, hb10⟩; have hB10 := below_step hBw.drew hb10; obtain ⟨y0, y1, yf⟩ := box2_belowdP hbx hb10; obtain ⟨z0, z1, zf⟩ := box2_belowdP hz6 hb10; obtain ⟨m0, m1, mf⟩ := box2_belowdP hm6 hb10; replace hB10 := Lib.hid hB10)
              all_goals
                go_wp2_with fail
                refine bodyPost_ret (v := .tuple #[.agg #[.string X, .string Y], fltV ((0 : Nat), -1)]) (by simp [results, Tryz.results47, fltV, go_sem, *]) rfl ?_
                rw [HM.out, HF.out]
                exact ⟨rfl, (((hB10.out.setCell (p := ⟨w.heap.size, 0, none⟩) (Nat.le_refl _) _).setCell (p := ⟨w.heap.size, 1, none⟩) (Nat.le_refl _) _).setCell (p := ⟨w.heap.size + 1, 0, none⟩) (Nat.le_succ _) _).setCell (p := ⟨w.heap.size + 1, 1, none⟩) (Nat.le_succ _) _⟩
      · have hc9 : (0 : Int) < (gc : Int) := by omega
        have hc8 : ((gc : Int) == 0) = false := beq_eq_false_iff_ne.2 (by omega)
        have HF : Hid (ofErr l sel q.data.toList = (gc, ga)) := Lib.hid (by rw [HF2.out, if_pos h1])
        have HM : Hid (ofM l sel q.data.toList = ([], [])) := Lib.hid (by rw [HOM.out, HF.out, if_neg h1])
        have hx2 : Box2 ((w4.setCell ⟨bx, 0, none⟩ (.int .i64 (gc : Nat))).setCell ⟨bx, 1, none⟩ (.int .i64 ga)) bx (.int .i64 (gc : Nat)) (.int .i64 ga) := ⟨by rw [set_off _ (by decide)]; exact set_same _ x0, set_same _ (by rw [set_off _ (by decide)]; exact x1), fun j => by simp [xf j]⟩
        have hz2 : Box2 ((w4.setCell ⟨bx, 0, none⟩ (.int .i64 (gc : Nat))).setCell ⟨bx, 1, none⟩ (.int .i64 ga)) (w.heap.size + 1) (.int .i64 0) (.int .i64 0) := ⟨by rw [set_blk _ nx1, set_blk _ nx1]; exact hz.c0, by rw [set_blk _ nx1, set_blk _ nx1]; exact hz.c1, fun j => by simp [hz.fr j]⟩
        have hm2 : Box2 ((w4.setCell ⟨bx, 0, none⟩ (.int .i64 (gc : Nat))).setCell ⟨bx, 1, none⟩ (.int .i64 ga)) w.heap.size (.string ⟨#[]⟩) (.string ⟨#[]⟩) := ⟨by rw [set_blk _ nx3, set_blk _ nx3]; exact hm.c0, by rw [set_blk _ nx3, set_blk _ nx3]; exact hm.c1, fun j => by simp [hm.fr j]⟩
        replace hB := (hB.setCell (p := ⟨bx, 0, none⟩) (by show w.heap.size ≤ bx; omega) (.int .i64 (gc : Nat))).setCell (p := ⟨bx, 1, none⟩) (by show w.heap.size ≤ bx; omega) (.int .i64 ga)
        clear h1 HF1 HF2 HRZ HPS
        go_wp2_with fail
        generalize (w4.setCell ⟨bx, 0, none⟩ (.int .i64 (gc : Nat))).setCell ⟨bx, 1, none⟩ (.int .i64 ga) = w5 at *
        clear x0 x1 xf hx hz hm z0 z1 zf m0 m1 mf
        obtain ⟨x0, x1, xf⟩ := id hx2
        obtain ⟨z0, z1, zf⟩ := id hz2
        obtain ⟨m0, m1, mf⟩ := id hm2
        go_region
        all_goals
          go_wp2_with fail
          refine bodyPost_ret (v := .tuple #[.agg #[.string ⟨#[]⟩, .string ⟨#[]⟩], fltV (gc, ga)]) (by simp [results, Tryz.results47, fltV, go_sem, *]) rfl ?_
          rw [HM.out, HF.out]
          exact ⟨rfl, (((hB.drew.setCell (p := ⟨w.heap.size, 0, none⟩) (Nat.le_refl _) _).setCell (p := ⟨w.heap.size, 1, none⟩) (Nat.le_refl _) _).setCell (p := ⟨w.heap.size + 1, 0, none⟩) (Nat.le_succ _) _).setCell (p := ⟨w.heap.size + 1, 1, none⟩) (Nat.le_succ _) _⟩
    · skip
      rw [if_pos ⟨by decide, by decide⟩] at hF0
      have HF := Lib.hid hF0
      have HM : Hid (ofM l sel q.data.toList = ([], [])) := Lib.hid (by rw [HOM.out, HF.out, if_neg (by decide)])
      have hbr := fun W => refBare_calls 1 W
      unfold fltV at hbr
      simp only at hbr
      replace hbr := Lib.hid hbr
      clear hF0 hrf x0 x1 xf
      go_wp2_with fail
      refine (hbr.out _).mono ?_
      rintro e w10 ⟨rfl, hb⟩
      have hB10 := below_step hB hb
      obtain ⟨z0, z1, zf⟩ := hz.below hb
      obtain ⟨m0, m1, mf⟩ := hm.below hb
      clear hb hbr
      go_wp2_with fail
      refine bodyPost_ret (v := .tuple #[.agg #[.string ⟨#[]⟩, .string ⟨#[]⟩], fltV ((1 : Nat), -1)]) (by simp [results, Tryz.results47, fltV, go_sem, *]) rfl ?_
      rw [HM.out, HF.out]
      exact ⟨rfl, (((hB10.setCell (p := ⟨w.heap.size, 0, none⟩) (Nat.le_refl _) _).setCell (p := ⟨w.heap.size, 1, none⟩) (Nat.le_refl _) _).setCell (p := ⟨w.heap.size + 1, 0, none⟩) (Nat.le_succ _) _).setCell (p := ⟨w.heap.size + 1, 1, none⟩) (Nat.le_succ _) _⟩
    · skip
      rw [if_pos ⟨by decide, by decide⟩] at hF0
      have HF := Lib.hid hF0
      have HM : Hid (ofM l sel q.data.toList = ([], [])) := Lib.hid (by rw [HOM.out, HF.out, if_neg (by decide)])
      have hbr := fun W => refBare_calls 2 W
      unfold fltV at hbr
      simp only at hbr
      replace hbr := Lib.hid hbr
      clear hF0 hrf x0 x1 xf
      go_wp2_with fail
      refine (hbr.out _).mono ?_
      rintro e w10 ⟨rfl, hb⟩
      have hB10 := below_step hB hb
      obtain ⟨z0, z1, zf⟩ := hz.below hb
      obtain ⟨m0, m1, mf⟩ := hm.below hb
      clear hb hbr
      go_wp2_with fail
      refine bodyPost_ret (v := .tuple #[.agg #[.string ⟨#[]⟩, .string ⟨#[]⟩], fltV ((2 : Nat), -1)]) (by simp [results, Tryz.results47, fltV, go_sem, *]) rfl ?_
      rw [HM.out, HF.out]
      exact ⟨rfl, (((hB10.setCell (p := ⟨w.heap.size, 0, none⟩) (Nat.le_refl _) _).setCell (p := ⟨w.heap.size, 1, none⟩) (Nat.le_refl _) _).setCell (p := ⟨w.heap.size + 1, 0, none⟩) (Nat.le_succ _) _).setCell (p := ⟨w.heap.size + 1, 1, none⟩) (Nat.le_succ _) _⟩
    · rw [if_neg (fun h => h.2 rfl)] at hF0
      have HF1 := Lib.hid hF0
      clear hF0
      go_wp2_with fail
      refine (hrf.out _ hB).mono ?_
      rintro e w4 ⟨rfl, hb⟩
      replace hz := hz.below hb
      replace hm := hm.below hb
      replace hx := hx.below hb
      replace hB := below_step hB hb
      clear hb hrf x0 x1 xf
      obtain ⟨x0, x1, xf⟩ := id hx
      obtain ⟨z0, z1, zf⟩ := id hz
      obtain ⟨m0, m1, mf⟩ := id hm
      have HF2 : Hid (ofErr l sel q.data.toList = if gc ≠ 0 then (gc, ga) else if (sel.filter (selHas l q.data.toList)) = [] then (5, -1) else (0, -1)) := Lib.hid HF1.out
      by_cases h1 : gc = 0
      · subst h1
        have hz2 : Box2 ((w4.setCell ⟨bx, 0, none⟩ (.int .i64 ((0 : Nat) : Int))).setCell ⟨bx, 1, none⟩ (.int .i64 ga)) (w.heap.size + 1) (.int .i64 0) (.int .i64 0) := ⟨by rw [set_blk _ nx1, set_blk _ nx1]; exact hz.c0, by rw [set_blk _ nx1, set_blk _ nx1]; exact hz.c1, fun j => by simp [hz.fr j]⟩
        have hm2 : Box2 ((w4.setCell ⟨bx, 0, none⟩ (.int .i64 ((0 : Nat) : Int))).setCell ⟨bx, 1, none⟩ (.int .i64 ga)) w.heap.size (.string ⟨#[]⟩) (.string ⟨#[]⟩) := ⟨by rw [set_blk _ nx3, set_blk _ nx3]; exact hm.c0, by rw [set_blk _ nx3, set_blk _ nx3]; exact hm.c1, fun j => by simp [hm.fr j]⟩
        replace hB := (hB.setCell (p := ⟨bx, 0, none⟩) (by show w.heap.size ≤ bx; omega) (.int .i64 ((0 : Nat) : Int))).setCell (p := ⟨bx, 1, none⟩) (by show w.heap.size ≤ bx; omega) (.int .i64 ga)
        have y0 : ((w4.setCell ⟨bx, 0, none⟩ (.int .i64 ((0 : Nat) : Int))).setCell ⟨bx, 1, none⟩ (.int .i64 ga)).cell? ⟨bx, 0, none⟩ = some (.int .i64 ((0 : Nat) : Int)) := by rw [set_off _ (by decide)]; exact set_same _ x0
        have HSF := Lib.hid (HRZ.out rfl)
        have HF3 : Hid (ofErr l sel q.data.toList = if (sel.filter (selHas l q.data.toList)) = [] then (5, -1) else (0, -1)) := Lib.hid (by rw [HF2.out, if_neg (by simp)])
        have HPO := Lib.hid (HPS.out rfl)
        clear HF1 HF2 HRZ HPS hz hm
        go_wp2_with fail
        have h54 : ((w4.setCell ⟨bx, 0, none⟩ (.int .i64 ((0 : Nat) : Int))).setCell ⟨bx, 1, none⟩ (.int .i64 ga)).heap.size = w4.heap.size := by simp
        generalize hw5 : ((w4.setCell ⟨bx, 0, none⟩ (.int .i64 ((0 : Nat) : Int))).setCell ⟨bx, 1, none⟩ (.int .i64 ga)) = w5 at *
        have hbe := box2_alloc w5 (.string ⟨#[]⟩) (.string ⟨#[]⟩) 29
        have hBe := below_alloc w5 (.cells #[.string ⟨#[]⟩, .string ⟨#[]⟩] 29)
        have hs5 : w.heap.size + 1 < w5.heap.size := lt_of_cell hz2.c0
        have HB5 := Lib.hid h54
        rw [h54] at hbe
        clear h54
        generalize w4.heap.size = bb at *
        clear x0 x1 xf hx hw5 y0 nx1 nx2 nx3 nx4 z0 z1 zf m0 m1 mf
        generalize w5.alloc (.cells #[.string ⟨#[]⟩, .string ⟨#[]⟩] 29) = w6 at *
        go_loopw [11, 12] (fun i _ wr => ∃ (k : Nat) (X Y : ByteArray), k ≤ m ∧ i = .int .i64 k ∧ Box2 wr bb (.string X) (.string Y) ∧ Hid ((X.data.toList, Y.data.toList) = ((mdF m Q U).take k).foldl (stepM l q.data.toList) ([], [])) ∧ Below w5.heap.size w5 wr) (fun i _ _ => m - (intOf i).toNat)
        case atStart => exact ⟨0, ⟨#[]⟩, ⟨#[]⟩, Nat.zero_le _, rfl, hbe, Lib.hid rfl, hBe⟩
        case round =>
          obtain ⟨k, X, Y, hk, rfl, hbx, hT, hBr⟩ := hrel
          have hBw := below_step hB hBr
          by_cases hlt : k < m
          · have hkn : (k : Int) < (m : Int) := by omega
            obtain ⟨b1, o1, ea, c0, c1⟩ := hc2.out k hlt
            have hb1 := lt_of_cell c0
            simp only at hb1
            replace c0 := Below.cell_some hBw c0
            replace c1 := Below.cell_some hBw c1
            subst ea
            have hmem : ((Q k).data.toList, (U k).data.toList) ∈ sel := by rw [HSL.out]; exact List.mem_of_getElem? (mdF_get m Q U k hlt)
            have hnf : ¬ findE l ((Q k).data.toList, (U k).data.toList) < 0 := fun h2 => by
              obtain ⟨e, he, h3⟩ := HSF.out _ hmem
              exact findE_lt.1 h2 e he h3
            obtain ⟨x, ex, hxl, _⟩ := findE_nat hnf
            rw [HLN.out] at hxl
            have hf1 := hfo.out (Q k) (U k) wr hBw
            rw [ex] at hf1
            obtain ⟨a1, n1, s1, aK, nK, cK, e1, e2⟩ := H.out.forms2 hxl
            have hTk : ((mdF m Q U).take (k + 1)).foldl (stepM l q.data.toList) ([], []) = if hasK ⟨((P x).data.toList, (V x).data.toList), R x, K x, B x⟩ q.data.toList then longM (X.data.toList, Y.data.toList) ((Q k).data.toList, (U k).data.toList) else (X.data.toList, Y.data.toList) := by
              rw [List.take_add_one, mdF_get m Q U k hlt, List.foldl_append, ← hT.out]
              show stepM _ _ _ _ = _
              unfold stepM selHas entOf
              rw [ex, Int.toNat_natCast, HAT.out x hxl]
            have hkl := HSK.out x hxl
            have hin0 : decide (q.data.toList ∈ (K x).map (packP (P x).data.toList)) = hasK ⟨((P x).data.toList, (V x).data.toList), R x, K x, B x⟩ q.data.toList := (hasK_in ⟨((P x).data.toList, (V x).data.toList), R x, K x, B x⟩ q.data.toList).symm
            generalize hasK ⟨((P x).data.toList, (V x).data.toList), R x, K x, B x⟩ q.data.toList = HX at hTk hin0
            have hxn : ((x : Nat) : Int) < (n : Int) := by omega
            replace hf1 := Lib.hid hf1
            replace hin0 := Lib.hid hin0
            clear hmem hnf ex hT
            go_wp2_with fail
            refine hf1.out.mono ?_
            rintro e w7 ⟨rfl, hb⟩
            replace hbx := hbx.below hb
            replace hBr := below_step hBr hb
            replace c0 := Below.cell_some hb c0
            replace c1 := Below.cell_some hb c1
            obtain ⟨b3, o3, ea3, hcell⟩ := (H.out.below (below_step hB hBr)).at_ x hxl
            have hpk := (H.out.below (below_step hB hBr)).packs x hxl
            rw [e1, e2] at hcell
            rw [e2] at hpk
            obtain ⟨d0, d1, d2, d3, d4⟩ := hcell
            subst ea3
            have hpp := refPacks_calls (P x) (V x) a1 n1 s1 (.slice aK nK cK) (B x) (K x) w7 hpk hkl.1 hkl.2.1 hkl.2.2
            replace hpp := Lib.hid hpp
            clear hb hf1 hpk e1 e2 hBw
            go_wp2_with fail
            refine hpp.out.mono ?_
            rintro e w8 ⟨⟨v8, rfl, hs8⟩, hb⟩
            replace hbx := hbx.below hb
            replace hBr := below_step hBr hb
            replace c0 := Below.cell_some hb c0
            replace c1 := Below.cell_some hb c1
            have hit := inTexts_calls q v8 _ w8 hs8 (by rw [List.length_map]; exact hkl.1)
            rw [hin0.out] at hit
            obtain ⟨a8, m8, c8, _, rfl, -⟩ := hs8
            replace hit := Lib.hid hit
            clear hb hpp d0 d1 d2 d3 d4 hkl
            go_wp2_with fail
            refine hit.out.mono ?_
            rintro e w9 ⟨rfl, hb⟩
            replace hbx := hbx.below hb
            replace hBr := below_step hBr hb
            replace c0 := Below.cell_some hb c0
            replace c1 := Below.cell_some hb c1
            clear hb hit
            obtain ⟨y0, y1, yf⟩ := id hbx
            have hxb : b1 ≠ bb := by have := HB5.out; omega
            cases HX with
            | false =>
              have HN : Hid ((X.data.toList, Y.data.toList) = ((mdF m Q U).take (k + 1)).foldl (stepM l q.data.toList) ([], [])) := Lib.hid (by rw [hTk]; rfl)
              clear hTk
              go_wp2_with fail
              have kqc0 := fun d os => cell_patch (d := d) (os := os) c0
              have kqy0 := fun d os => cell_patch (d := d) (os := os) y0
              refine wp_region_quiet_patch (by kernel_rfl) (by kernel_rfl) ?_
              repeat (go_big_quiet_step (fail))
              refine wpQuiet_nil ?_
              intro _ hw'
              obtain ⟨⟨dq, osq⟩, hw''⟩ := hw'
              subst hw''
              clear kqc0 kqy0
              have hb := below_patch w9 dq osq
              replace hBr := below_step hBr hb
              replace hbx := hbx.below hb
              clear hb
              generalize patch w9 dq osq = w10 at hBr hbx ⊢
              go_wp2_with fail
              go_roundw
              case rel => exact ⟨k + 1, X, Y, by omega, by go_num, hbx, HN, hBr⟩
              case measure => simp [intOf]; omega
            | true =>
              by_cases hlg : X.size < (Q k).size
              · have HN : Hid (((Q k).data.toList, (U k).data.toList) = ((mdF m Q U).take (k + 1)).foldl (stepM l q.data.toList) ([], [])) := Lib.hid (by
                  rw [hTk, if_pos rfl]
                  unfold longM
                  rw [if_pos (by rw [size_eq, size_eq] at hlg; exact hlg)])
                have HL9 := Lib.hid (decide_eq_true (p := (X.size : Int) < ((Q k).size : Int)) (by omega))
                have HL8 := Lib.hid (decide_eq_true (p := X.size < (Q k).size) hlg)
                clear hTk hlg
                go_wp2_with fail
                have hl9 := HL9.out
                have hl8 := HL8.out
                have kqc0 := fun d os => cell_patch (d := d) (os := os) c0
                have kqy0 := fun d os => cell_patch (d := d) (os := os) y0
                refine wp_region_quiet_patch (by kernel_rfl) (by kernel_rfl) ?_
                repeat (go_big_quiet_step (fail))
                refine wpQuiet_nil ?_
                intro _ hw'
                obtain ⟨⟨dq, osq⟩, hw''⟩ := hw'
                subst hw''
                clear kqc0 kqy0
                have hb := below_patch w9 dq osq
                replace hBr := below_step hBr hb
                replace hbx := hbx.below hb
                replace c0 := Below.cell_some hb c0
                replace c1 := Below.cell_some hb c1
                clear hb
                generalize patch w9 dq osq = w10 at hBr hbx c0 c1 ⊢
                clear y0 y1 yf
                obtain ⟨y0, y1, yf⟩ := id hbx
                go_wp2_with fail
                go_roundw
                case rel => exact ⟨k + 1, Q k, U k, by omega, by go_num, hbx.sto _ _, HN, (hBr.setCell (p := ⟨bb, 0, none⟩) (by rw [HB5.out]; exact Nat.le_refl _) _).setCell (p := ⟨bb, 1, none⟩) (by rw [HB5.out]; exact Nat.le_refl _) _⟩
                case measure => simp [intOf]; omega
              · have HN : Hid ((X.data.toList, Y.data.toList) = ((mdF m Q U).take (k + 1)).foldl (stepM l q.data.toList) ([], [])) := Lib.hid (by
                  rw [hTk, if_pos rfl]
                  unfold longM
                  rw [if_neg (by rw [size_eq, size_eq] at hlg; exact hlg)])
                have HL9 := Lib.hid (decide_eq_false (p := (X.size : Int) < ((Q k).size : Int)) (by omega))
                have HL8 := Lib.hid (decide_eq_false (p := X.size < (Q k).size) hlg)
                clear hTk hlg
                go_wp2_with fail
                have hl9 := HL9.out
                have hl8 := HL8.out
                have kqc0 := fun d os => cell_patch (d := d) (os := os) c0
                have kqy0 := fun d os => cell_patch (d := d) (os := os) y0
                refine wp_region_quiet_patch (by kernel_rfl) (by kernel_rfl) ?_
                repeat (go_big_quiet_step (fail))
                refine wpQuiet_nil ?_
                intro _ hw'
                obtain ⟨⟨dq, osq⟩, hw''⟩ := hw'
                subst hw''
                clear kqc0 kqy0
                have hb := below_patch w9 dq osq
                replace hBr := below_step hBr hb
                replace hbx := hbx.below hb
                clear hb
                generalize patch w9 dq osq = w10 at hBr hbx ⊢
                go_wp2_with fail
                go_roundw
                case rel => exact ⟨k + 1, X, Y, by omega, by go_num, hbx, HN, hBr⟩
                case measure => simp [intOf]; omega
          · obtain rfl : k = m := by omega
            have hnk : ¬ (k : Int) < (k : Int) := by omega
            have HBM : Hid ((X.data.toList, Y.data.toList) = bestM (sel.filter (selHas l q.data.toList))) := Lib.hid (by
              rw [best_step, hT.out, List.take_of_length_le (by rw [mdF_length]; exact Nat.le_refl _), ← HSL.out])
            have hno := best_none (out := sel.filter (selHas l q.data.toList)) (fun m hm => HPO.out m (List.mem_filter.1 hm).1)
            rw [← HBM.out] at hno
            simp only at hno
            obtain ⟨y0, y1, yf⟩ := id hbx
            have hz6 := hz2.below hBr
            have hm6 := hm2.below hBr
            clear hT hlt
            by_cases hX : X.data.toList = []
            · have HF : Hid (ofErr l sel q.data.toList = (5, -1)) := Lib.hid (by rw [HF3.out, if_pos (hno.1 hX)])
              have HM : Hid (ofM l sel q.data.toList = ([], [])) := Lib.hid (by rw [HOM.out, HF.out, if_neg (by decide)])
              have q9 : (X.toList == []) = true := by rw [toList_data, hX]; rfl
              have hbr := fun W => refBare_calls 5 W
              unfold fltV at hbr
              simp only at hbr
              replace hbr := Lib.hid hbr
              clear hno hX
              go_wp2_with fail
              refine (hbr.out _).mono ?_
              rintro e w10 ⟨rfl, hb⟩
              have hB10 := below_step hBw hb
              obtain ⟨z0, z1, zf⟩ := hz6.below hb
              obtain ⟨m0, m1, mf⟩ := hm6.below hb
              clear hb hbr
              go_wp2_with fail
              refine bodyPost_ret (v := .tuple #[.agg #[.string ⟨#[]⟩, .string ⟨#[]⟩], fltV ((5 : Nat), -1)]) (by simp [results, Tryz.results47, fltV, go_sem, *]) rfl ?_
              rw [HM.out, HF.out]
              exact ⟨rfl, (((hB10.setCell (p := ⟨w.heap.size, 0, none⟩) (Nat.le_refl _) _).setCell (p := ⟨w.heap.size, 1, none⟩) (Nat.le_refl _) _).setCell (p := ⟨w.heap.size + 1, 0, none⟩) (Nat.le_succ _) _).setCell (p := ⟨w.heap.size + 1, 1, none⟩) (Nat.le_succ _) _⟩
            · have HF : Hid (ofErr l sel q.data.toList = (0, -1)) := Lib.hid (by rw [HF3.out, if_neg (fun e => hX (hno.2 e))])
              have HM : Hid (ofM l sel q.data.toList = (X.data.toList, Y.data.toList)) := Lib.hid (by rw [HOM.out, HF.out, if_pos rfl, ← HBM.out])
              have q9 : (X.toList == []) = false := by rw [toList_data]; exact beq_eq_false_iff_ne.2 hX
              have hfi := fun W => refFine_calls W
              unfold fltV at hfi
              replace hfi := Lib.hid hfi
              obtain ⟨z0, z1, zf⟩ := id hz6
              obtain ⟨m0, m1, mf⟩ := id hm6
              clear hno hX
              go_wp2_with fail
              go_region_with (go_at_call 63; refine (hfi.out _).mono ?_; rintro e w10 ⟨rfl, hb10⟩; have hB10 := below_step hBw.drew hb10; obtain ⟨y0, y1, yf⟩ := box2_belowdP hbx hb10; obtain ⟨z0, z1, zf⟩ := box2_belowdP hz6 hb10; obtain ⟨m0, m1, mf⟩ := box2_belowdP hm6 hb10; replace hB10 := Lib.hid hB10)
              all_goals
                go_wp2_with fail
                refine bodyPost_ret (v := .tuple #[.agg #[.string X, .string Y], fltV ((0 : Nat), -1)]) (by simp [results, Tryz.results47, fltV, go_sem, *]) rfl ?_
                rw [HM.out, HF.out]
                exact ⟨rfl, (((hB10.out.setCell (p := ⟨w.heap.size, 0, none⟩) (Nat.le_refl _) _).setCell (p := ⟨w.heap.size, 1, none⟩) (Nat.le_refl _) _).setCell (p := ⟨w.heap.size + 1, 0, none⟩) (Nat.le_succ _) _).setCell (p := ⟨w.heap.size + 1, 1, none⟩) (Nat.le_succ _) _⟩
      · have hc9 : (0 : Int) < (gc : Int) := by omega
        have hc8 : ((gc : Int) == 0) = false := beq_eq_false_iff_ne.2 (by omega)
        have HF : Hid (ofErr l sel q.data.toList = (gc, ga)) := Lib.hid (by rw [HF2.out, if_pos h1])
        have HM : Hid (ofM l sel q.data.toList = ([], [])) := Lib.hid (by rw [HOM.out, HF.out, if_neg h1])
        have hx2 : Box2 ((w4.setCell ⟨bx, 0, none⟩ (.int .i64 (gc : Nat))).setCell ⟨bx, 1, none⟩ (.int .i64 ga)) bx (.int .i64 (gc : Nat)) (.int .i64 ga) := ⟨by rw [set_off _ (by decide)]; exact set_same _ x0, set_same _ (by rw [set_off _ (by decide)]; exact x1), fun j => by simp [xf j]⟩
        have hz2 : Box2 ((w4.setCell ⟨bx, 0, none⟩ (.int .i64 (gc : Nat))).setCell ⟨bx, 1, none⟩ (.int .i64 ga)) (w.heap.size + 1) (.int .i64 0) (.int .i64 0) := ⟨by rw [set_blk _ nx1, set_blk _ nx1]; exact hz.c0, by rw [set_blk _ nx1, set_blk _ nx1]; exact hz.c1, fun j => by simp [hz.fr j]⟩
        have hm2 : Box2 ((w4.setCell ⟨bx, 0, none⟩ (.int .i64 (gc : Nat))).setCell ⟨bx, 1, none⟩ (.int .i64 ga)) w.heap.size (.string ⟨#[]⟩) (.string ⟨#[]⟩) := ⟨by rw [set_blk _ nx3, set_blk _ nx3]; exact hm.c0, by rw [set_blk _ nx3, set_blk _ nx3]; exact hm.c1, fun j => by simp [hm.fr j]⟩
        replace hB := (hB.setCell (p := ⟨bx, 0, none⟩) (by show w.heap.size ≤ bx; omega) (.int .i64 (gc : Nat))).setCell (p := ⟨bx, 1, none⟩) (by show w.heap.size ≤ bx; omega) (.int .i64 ga)
        clear h1 HF1 HF2 HRZ HPS
        go_wp2_with fail
        generalize (w4.setCell ⟨bx, 0, none⟩ (.int .i64 (gc : Nat))).setCell ⟨bx, 1, none⟩ (.int .i64 ga) = w5 at *
        clear x0 x1 xf hx hz hm z0 z1 zf m0 m1 mf
        obtain ⟨x0, x1, xf⟩ := id hx2
        obtain ⟨z0, z1, zf⟩ := id hz2
        obtain ⟨m0, m1, mf⟩ := id hm2
        go_region
        all_goals
          go_wp2_with fail
          refine bodyPost_ret (v := .tuple #[.agg #[.string ⟨#[]⟩, .string ⟨#[]⟩], fltV (gc, ga)]) (by simp [results, Tryz.results47, fltV, go_sem, *]) rfl ?_
          rw [HM.out, HF.out]
          exact ⟨rfl, (((hB.drew.setCell (p := ⟨w.heap.size, 0, none⟩) (Nat.le_refl _) _).setCell (p := ⟨w.heap.size, 1, none⟩) (Nat.le_refl _) _).setCell (p := ⟨w.heap.size + 1, 0, none⟩) (Nat.le_succ _) _).setCell (p := ⟨w.heap.size + 1, 1, none⟩) (Nat.le_succ _) _⟩
  · have hc9 : (0 : Int) < (fc : Int) := by omega
    have hc8 : ((fc : Int) == 0) = false := beq_eq_false_iff_ne.2 (by omega)
    have HF : Hid (ofErr l sel q.data.toList = (fc, fa)) := Lib.hid (by rw [HOE.out]; unfold orE; rw [if_pos h0])
    have HM : Hid (ofM l sel q.data.toList = ([], [])) := Lib.hid (by rw [HOM.out, HF.out, if_neg h0])
    obtain ⟨z0, z1, zf⟩ := id hz
    obtain ⟨m0, m1, mf⟩ := id hm
    clear h0 HOE HRZ
    go_wp2_with fail
    generalize w2.alloc (.cells #[.int .i64 (fc : Nat), .int .i64 fa] 46) = w3 at *
    generalize w2.heap.size = bx at *
    go_region
    all_goals
      go_wp2_with fail
      refine bodyPost_ret (v := .tuple #[.agg #[.string ⟨#[]⟩, .string ⟨#[]⟩], fltV (fc, fa)]) (by simp [results, Tryz.results47, fltV, go_sem, *]) rfl ?_
      rw [HM.out, HF.out]
      exact ⟨rfl, (((hB.drew.setCell (p := ⟨w.heap.size, 0, none⟩) (Nat.le_refl _) _).setCell (p := ⟨w.heap.size, 1, none⟩) (Nat.le_refl _) _).setCell (p := ⟨w.heap.size + 1, 0, none⟩) (Nat.le_succ _) _).setCell (p := ⟨w.heap.size + 1, 1, none⟩) (Nat.le_succ _) _⟩
end Go.Proofs.Pw
