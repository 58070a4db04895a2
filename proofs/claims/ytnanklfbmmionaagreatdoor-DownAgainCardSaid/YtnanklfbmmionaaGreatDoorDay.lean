/- Da: walks and plain laws, joined: RefBad. Conditions: at each theorem. -/
import Derived.Test.YtnanklfbmmionaaGreatDoorDax
import Derived.Test.YtnanklfbmmionaaGreatDoorDah
import Derived.Test.YtnanklfbmmionaaGreatDoorDaw
import Derived.Test.YtnanklfbmmionaaGreatDoorDaj

namespace Go.Proofs.Pw
open Go.RowKit
open Go.Lib hiding intOf
def BlsAt (w : World) (v : Value) (n : Nat) (M : Nat → Bool) : Prop :=
  ∃ (a : Option Addr) (c : Nat), v = .slice a n c ∧ ∀ j, j < n → ∃ b o, a = some ⟨b, o, none⟩ ∧ w.cell? ⟨b, o + j, none⟩ = some (.bool (M j))
theorem BlsAt.below {w w' : World} {v : Value} {n : Nat} {M : Nat → Bool} (h : BlsAt w v n M) (hb : Below w.heap.size w w') : BlsAt w' v n M := by
  obtain ⟨a, c, e, h1⟩ := h
  refine ⟨a, c, e, fun j hj => ?_⟩
  obtain ⟨b, o, e2, h2⟩ := h1 j hj
  exact ⟨b, o, e2, Below.cell_some hb h2⟩
theorem MarkRow.bls {w : World} {g n c : Nat} {M : Nat → Bool} (h : MarkRow w g n M) : BlsAt w (.slice (some ⟨g, 0, none⟩) n c) n M :=
  ⟨_, c, rfl, fun j hj => ⟨g, 0, rfl, by rw [Nat.zero_add]; exact h.cell hj⟩⟩
def BoolsAt (w : World) (v : Value) (l : List En) (caps : List Md) : Prop :=
  ∃ M : Nat → Bool, BlsAt w v l.length M ∧ ∀ j, j < l.length → (M j = true ↔ BadP l caps (enAt l j).md)
theorem blsAt_own {w : World} {base e : Nat} {v : Value} {L : List Bool} (h : w.ownsRow base e 1 v L.length (L.map Value.bool)) : BlsAt w v L.length (fun j => L.getD j false) := by
  rcases h.2 with ⟨rfl, h0⟩ | ⟨g, cap, cur, rfl, hb, hg, hn, hm, hs, ht⟩
  · exact ⟨none, 0, by rw [h0], fun j hj => by omega⟩
  · refine ⟨_, cap, rfl, fun j hj => ⟨g, 0, rfl, ?_⟩⟩
    rw [Nat.zero_add, cell_of_row w g j cur e (0, 0) hg]
    have h1 : (L.map Value.bool)[j]? = some (.bool (L.getD j false)) := by
      simp [List.getD_eq_getElem?_getD, List.getElem?_eq_getElem hj]
    rw [← ht, List.getElem?_take, if_pos (by omega)] at h1
    simpa using h1
theorem badErr_at {l : List En} {caps : List Md} (h : (badErr l caps).1 = 0) : badErr l caps = (0, -1) := by
  unfold badErr at h ⊢
  rw [orE_zero] at h
  unfold orE
  rw [if_neg (by rw [h.1]; simp)]
  have h2 := h.2
  unfold capsErr at h2 ⊢
  exact firstE_none (firstE_zero h2)
set_option maxHeartbeats 8000000 in
set_option maxRecDepth 100000 in
theorem badOf_in (a : Option Addr) (n cap : Nat) (P V : Nat → ByteArray) (R : Nat → List Md) (K : Nat → List Str) (B : Nat → Bool) (Rv Kv : Nat → Value) (cv : Value) (caps : List Md) (w : World) (h : EntsIn w a n cap P V R K B Rv Kv) (hr : ModsAt w cv caps) (hs : ShortI (enF n P V R K B)) (hsc : Short caps) :
    Calls Tryz.prog 52 #[.slice a n cap, cv] w fun e w' => (∃ v, e = .returned (.tuple #[v, fltV (badErr (enF n P V R K B) caps)]) ∧ ((badErr (enF n P V R K B) caps).1 = 0 → BoolsAt w' v (enF n P V R K B) caps) ∧ ((badErr (enF n P V R K B) caps).1 ≠ 0 → v = .slice none 0 0)) ∧ Below w.heap.size w w' := by
  obtain ⟨i0, hi, hz0, hz1, hz2⟩ := info_parts Tryz.infoBool
  obtain ⟨a2, m, cap2, _, _, rfl, -⟩ := id hr
  have hn : n ≤ 1000000 := by have := hs.len; rwa [enF_length] at this
  have hB := below_alloc w (.cells #[.int .i64 0, .int .i64 0] 46)
  have hz := box2_alloc w (.int .i64 0) (.int .i64 0) 46
  have hif := fun (W : World) (hb : Below w.heap.size w W) => indexFault_in a n cap P V R K B Rv Kv W (h.below hb) hs
  have hrf := fun (W : World) (hb : Below w.heap.size w W) => capsFault_calls (.slice a2 m cap2) caps W (hr.below hb) hsc
  have hma := fun (hR : RightI (enF n P V R K B)) (i : Nat) (hi : i < n) (rv : Value) (W : World) (hb : Below w.heap.size w W) (hrv : ModsAt W rv [(enAt (enF n P V R K B) i).md]) => marks_in a n cap P V R K B Rv Kv rv [(enAt (enF n P V R K B) i).md] W (h.below hb) hrv (rightG_one hR (by rw [enF_length]; exact hi)) hs (by simp)
  have H := Lib.hid h
  have HSE : Hid (badErr (enF n P V R K B) caps = orE (idxErr (enF n P V R K B)) (capsErr caps)) := Lib.hid rfl
  obtain ⟨F, hF⟩ : ∃ F, idxErr (enF n P V R K B) = F := ⟨_, rfl⟩
  obtain ⟨G, hGG⟩ : ∃ G, capsErr caps = G := ⟨_, rfl⟩
  simp only [hF] at hif HSE
  simp only [hGG] at hrf HSE
  obtain ⟨fc, fa⟩ := F
  obtain ⟨gc, ga⟩ := G
  unfold fltV at hif hrf
  simp only at hif hrf
  replace hif := Lib.hid hif
  replace hrf := Lib.hid hrf
  replace hma := Lib.hid hma
  have HFI := Lib.hid hF
  have HCP := Lib.hid hr
  have HSC := Lib.hid hsc
  have HSH := Lib.hid hs
  clear h hr hs hF hGG hsc
  go_enter Tryz.func52, Tryz.ntmps52
  go_wp2_with fail
  generalize w.alloc (.cells #[.int .i64 0, .int .i64 0] 46) = w1 at *
  refine (hif.out _ hB).mono ?_
  rintro e w2 ⟨rfl, hb⟩
  have hba := below_alloc w2 (.cells #[.int .i64 (fc : Nat), .int .i64 fa] 46)
  have hx := box2_alloc w2 (.int .i64 (fc : Nat)) (.int .i64 fa) 46
  have hs2 : w.heap.size < w2.heap.size := Nat.lt_of_lt_of_le (lt_of_cell hz.c0) hb.size
  replace hb := below_step hb hba
  replace hz := hz.below hb
  replace hB := below_step hB hb
  clear hb hba hif
  obtain ⟨x0, x1, xf⟩ := id hx
  have nx1 : w.heap.size ≠ w2.heap.size := by omega
  have nx2 : w2.heap.size ≠ w.heap.size := by omega
  by_cases h0 : fc = 0
  · subst h0
    go_wp2_with fail
    generalize w2.alloc (.cells #[.int .i64 ((0 : Nat) : Int), .int .i64 fa] 46) = w3 at *
    generalize w2.heap.size = bx at *
    refine (hrf.out _ hB).mono ?_
    rintro e w4 ⟨rfl, hb⟩
    replace hz := hz.below hb
    replace hx := hx.below hb
    replace hB := below_step hB hb
    clear x0 x1 xf hb hrf
    obtain ⟨x0, x1, xf⟩ := id hx
    have HF : Hid (badErr (enF n P V R K B) caps = (gc, ga)) := Lib.hid (by rw [HSE.out]; unfold orE; rw [if_neg (by simp)])
    by_cases h1 : gc = 0
    · subst h1
      have HSA : Hid (badErr (enF n P V R K B) caps = (0, ga)) := HF
      have hG := rightI_of (l := enF n P V R K B) (by rw [HFI.out])
      have hma1 := hma.out hG
      have hzB : Box2 ((w4.setCell ⟨bx, 0, none⟩ (.int .i64 ((0 : Nat) : Int))).setCell ⟨bx, 1, none⟩ (.int .i64 ga)) w.heap.size (.int .i64 0) (.int .i64 0) := ⟨by rw [set_blk _ nx1, set_blk _ nx1]; exact hz.c0, by rw [set_blk _ nx1, set_blk _ nx1]; exact hz.c1, fun j => by simp [hz.fr j]⟩
      replace hB := (hB.setCell (p := ⟨bx, 0, none⟩) (by show w.heap.size ≤ bx; omega) (.int .i64 ((0 : Nat) : Int))).setCell (p := ⟨bx, 1, none⟩) (by show w.heap.size ≤ bx; omega) (.int .i64 ga)
      replace hma1 := Lib.hid hma1
      clear HSE HF hma
      have y0 : ((w4.setCell ⟨bx, 0, none⟩ (.int .i64 ((0 : Nat) : Int))).setCell ⟨bx, 1, none⟩ (.int .i64 ga)).cell? ⟨bx, 0, none⟩ = some (.int .i64 ((0 : Nat) : Int)) := by rw [set_off _ (by decide)]; exact set_same _ x0
      go_wp2_with fail
      generalize hw5 : ((w4.setCell ⟨bx, 0, none⟩ (.int .i64 ((0 : Nat) : Int))).setCell ⟨bx, 1, none⟩ (.int .i64 ga)) = w5 at *
      clear x0 x1 xf hx hz hw5 y0
      clear nx1 nx2
      have HMA := Lib.hid hma1
      have HRI := Lib.hid hG
      clear hma1 hG
      go_loopw [7, 8, 9, 10, 11, 12, 13] (fun o i _ _ _ _ _ wr => ∃ (k : Nat) (L : List Bool), k ≤ n ∧ i = .int .i64 k ∧ Hid (wr.ownsRow w5.heap.size 4 1 o L.length (L.map Value.bool)) ∧ L.length = k ∧ Hid (∀ j, j < k → (L[j]? = some true ↔ BadP (enF n P V R K B) caps (enAt (enF n P V R K B) j).md)) ∧ Below w5.heap.size w5 wr) (fun _ i _ _ _ _ _ _ => n - (intOf i).toNat)
      case atStart => exact ⟨0, [], Nat.zero_le _, rfl, Lib.hid (World.ownsRow_nil _ _ _ _), rfl, Lib.hid (fun j hj => absurd hj (Nat.not_lt_zero _)), Below.refl _ _⟩
      case round =>
        obtain ⟨k, L, hk, rfl, hO, hLk, hT, hBr⟩ := hrel
        obtain ⟨ao, no, co, rfl⟩ := own_form hO.out
        by_cases hlt : k < n
        · have hkn : (k : Int) < (n : Int) := by omega
          obtain ⟨b1, o1, ea, hcell⟩ := H.out.at_ k hlt
          have hBw := below_step hB hBr
          have c0 := Below.cell_some hBw hcell.c0
          have c1 := Below.cell_some hBw hcell.c1
          have hba := below_alloc wr (.cells #[.string (P k), .string (V k)] 29)
          have hmo : ModsAt (wr.alloc (.cells #[.string (P k), .string (V k)] 29)) (.slice (some ⟨wr.heap.size, 0, none⟩) 1 1) [(enAt (enF n P V R K B) k).md] := by
            rw [enAt_enF hlt]
            refine ⟨_, 1, 1, fun _ => P k, fun _ => V k, rfl, rfl, Nat.le_refl _, by decide, fun i hi => ?_⟩
            obtain rfl : i = 0 := by omega
            exact ⟨_, 0, rfl, new_cell wr [.string (P k), .string (V k)] 29 rfl (c := 0) rfl, new_cell wr [.string (P k), .string (V k)] 29 rfl (c := 1) rfl⟩
          have hmk := HMA.out k hlt _ _ (below_step hBw hba) hmo
          subst ea
          replace hmk := Lib.hid hmk
          clear hcell hmo
          go_wp2_with fail
          refine hmk.out.mono ?_
          rintro e w6 ⟨⟨M, rfl, hrow, hM⟩, hb⟩
          rw [World.size_alloc] at hrow
          have HRow := Lib.hid hrow
          have HM := Lib.hid hM
          have hB6 := below_step hBw (below_step hba hb)
          have hR6 := below_step hBr (below_step hba hb)
          have hO6 := Lib.hid ((hO.out.below hba).below hb)
          clear hrow hM hmk hb hba c0 c1 hO hBw hBr
          go_wp2_with fail
          generalize wr.heap.size + 1 = g at *
          generalize hwq : wr = wq at *
          go_loopw [10, 11, 12, 13] (fun y x _ _ wr => ∃ (q : Nat) (b : Bool), q ≤ n ∧ x = .int .i64 q ∧ y = .bool b ∧ Below w6.heap.size w6 wr ∧ Hid (b = true ↔ ∃ j, j < q ∧ M j = true ∧ aboveB caps (enAt (enF n P V R K B) j).md = true)) (fun _ x _ _ _ => n - (intOf x).toNat)
          case atStart => exact ⟨0, false, Nat.zero_le _, rfl, rfl, Below.refl _ _, Lib.hid (by simp)⟩
          case round =>
            obtain ⟨q, b, hq, rfl, rfl, hBq, HT2⟩ := hrel
            have hBW := below_step hB6 hBq
            by_cases hlq : q < n
            · have hqn : (q : Int) < (n : Int) := by omega
              obtain ⟨b2, o2, ea2, hcell2⟩ := H.out.at_ q hlq
              have d0 := Below.cell_some hBW hcell2.c0
              have d1 := Below.cell_some hBW hcell2.c1
              injection ea2 with ea2
              injection ea2 with e1 e2
              subst e1 e2
              have hfp := findPath_calls (.slice a2 m cap2) caps (P q) wr (HCP.out.below hBW)
              have g0 := (HRow.out.below hBq).cell hlq
              have hno := aboveB_no (sel := caps) (m := ((P q).data.toList, (V q).data.toList))
              unfold hasP at hno
              simp only at hno
              have hmd : (enAt (enF n P V R K B) q).md = ((P q).data.toList, (V q).data.toList) := by rw [enAt_enF hlq]
              have HTN : Hid (¬ (M q = true ∧ aboveB caps (enAt (enF n P V R K B) q).md = true) → (b = true ↔ ∃ j, j < q + 1 ∧ M j = true ∧ aboveB caps (enAt (enF n P V R K B) j).md = true)) := Lib.hid (fun h => by
                rw [HT2.out]
                constructor
                · rintro ⟨j, h1, h2⟩; exact ⟨j, by omega, h2⟩
                · rintro ⟨j, h1, h2⟩
                  by_cases e : j = q
                  · subst e; exact absurd h2 h
                  · exact ⟨j, by omega, h2⟩)
              obtain ⟨x, hx⟩ : ∃ x, findI (fun m : Md => decide (m.1 = (P q).data.toList)) caps = x := ⟨_, rfl⟩
              rw [hx] at hfp hno
              have HX := Lib.hid hx
              replace hfp := Lib.hid hfp
              clear hcell2 hx
              cases hMq : M q with
              | false =>
                have HT' := Lib.hid (HTN.out (fun h => by rw [hMq] at h; cases h.1))
                rw [hMq] at g0
                clear hMq HTN HT2 hno
                go_wp2_with fail
                refine hfp.out.mono ?_
                rintro e w7 ⟨rfl, rfl⟩
                go_wp2_with fail
                go_roundw
                case rel => exact ⟨q + 1, b, by omega, by go_num, rfl, hBq, HT'⟩
                case measure => simp [intOf]; omega
              | true =>
                rw [hMq] at g0
                by_cases hx0 : x < 0
                · have HT' := Lib.hid (HTN.out (fun h => by rw [hmd, hno hx0] at h; cases h.2))
                  have hx1 : decide (x < 0) = true := decide_eq_true hx0
                  clear hMq HTN HT2 hno
                  go_wp2_with fail
                  refine hfp.out.mono ?_
                  rintro e w7 ⟨rfl, rfl⟩
                  go_wp2_with fail
                  go_roundw
                  case rel => exact ⟨q + 1, b, by omega, by go_num, rfl, hBq, HT'⟩
                  case measure => simp [intOf]; omega
                · obtain ⟨r, rfl⟩ : ∃ r : Nat, x = r := ⟨x.toNat, by omega⟩
                  obtain ⟨⟨cp, cvv⟩, hy, -⟩ := findI_spec HX.out
                  obtain ⟨a', n', cap', Pc, Vc, e1, e2, -, -, hcc⟩ := HCP.out.below hBW
                  injection e1 with e1 e3 e4
                  subst e1 e3 e4
                  have hrm : r < m := by
                    have h1 := (List.getElem?_eq_some_iff.1 hy).1
                    rw [e2, mdF_length] at h1
                    exact h1
                  have hrz : (r : Int) < (m : Int) := by omega
                  obtain ⟨b3, o3, ea3, u0, u1⟩ := hcc r hrm
                  have hVs : (Vc r).size ≤ 1000000 := by
                    have h1 := HSC.out
                    rw [e2] at h1
                    exact ((short_F h1).2 r hrm).2
                  have hVq : (V q).size ≤ 1000000 := (HSH.out.at_ hlq).2.2.1
                  have hless := fun W => isLess_calls (Vc r) (V q) W (by omega) (by omega)
                  have hab := aboveB_at (sel := caps) (m := ((P q).data.toList, (V q).data.toList)) (k := r) HX.out
                  have hmr : (mdAt caps r).2 = (Vc r).data.toList := by rw [e2, mdAt_mdF hrm]
                  rw [hmr] at hab
                  have hx1 : decide ((r : Int) < 0) = false := decide_eq_false hx0
                  clear hno hcc e2 hy
                  have hn0 : ((Vc r).toList == [110, 111, 110, 101]) = decide ((Vc r).data.toList = noneS) := by rw [toList_data, Bool.eq_iff_iff, beq_iff_eq, decide_eq_true_iff]; rfl
                  generalize decide ((Vc r).data.toList = noneS) = N at hn0 hab
                  generalize verLess (Vc r).data.toList (V q).data.toList = D at hless hab
                  have HTF : Hid ((b || (N || D)) = true ↔ ∃ j, j < q + 1 ∧ M j = true ∧ aboveB caps (enAt (enF n P V R K B) j).md = true) := Lib.hid (by
                    rw [Bool.or_eq_true, HT2.out]
                    constructor
                    · rintro (⟨j, h1, h2⟩ | h)
                      · exact ⟨j, by omega, h2⟩
                      · exact ⟨q, by omega, hMq, by rw [hmd, hab]; exact h⟩
                    · rintro ⟨j, h1, h2⟩
                      by_cases e : j = q
                      · subst e; right; rw [hmd, hab] at h2; exact h2.2
                      · left; exact ⟨j, by omega, h2⟩)
                  have c9 := u1
                  replace hless := Lib.hid hless
                  subst ea3
                  clear hab HTN HT2 hMq hmr u0 u1
                  cases b <;> cases D <;> cases N
                  all_goals
                    go_wp2_with fail
                    refine hfp.out.mono ?_
                    rintro e w7 ⟨rfl, rfl⟩
                    go_wp2_with fail
                    have kqd1 := fun d os => cell_patch (d := d) (os := os) d1
                    have kqc9 := fun d os => cell_patch (d := d) (os := os) c9
                    refine wp_region_quiet_patch (by kernel_rfl) (by kernel_rfl) ?_
                    repeat (go_big_quiet_step ((go_at_call 39; exact Calls.patch_of (hless.out _))))
                    refine wpQuiet_nil ?_
                    intro _ hw'
                    obtain ⟨⟨dq, osq⟩, hw''⟩ := hw'
                    subst hw''
                    clear kqd1 kqc9
                    have hb := below_patch wr dq osq
                    replace hBq := below_step hBq hb
                    replace c9 := Below.cell_some hb c9
                    clear hb
                    generalize patch wr dq osq = w8 at hBq c9 ⊢
                    go_wp2_with fail
                    go_roundw
                    case rel => exact ⟨q + 1, _, by omega, by go_num, rfl, hBq, HTF⟩
                    case measure => simp [intOf]; omega
            · have hqn : ¬ (q : Int) < (n : Int) := by omega
              have hqe : q = n := by omega
              have HBK : Hid (b = true ↔ BadP (enF n P V R K B) caps (enAt (enF n P V R K B) k).md) := Lib.hid (by
                rw [HT2.out, ← badOf_iff (l := enF n P V R K B) (i := k) (M := M) (by rw [enF_length]; exact hlt) (fun j hj => HM.out j (by rwa [enF_length] at hj)), enF_length, hqe])
              have hO9 := Lib.hid (hO6.out.below hBq)
              have hB9 := below_step hR6 hBq
              have HTK : Hid (∀ j, j < k + 1 → ((L ++ [b])[j]? = some true ↔ BadP (enF n P V R K B) caps (enAt (enF n P V R K B) j).md)) := Lib.hid (by
                intro j hj
                by_cases e : j = k
                · subst e
                  rw [List.getElem?_append_right (by omega), hLk, Nat.sub_self, ← HBK.out]
                  simp
                · rw [List.getElem?_append_left (by omega)]
                  exact hT.out j (by omega))
              have hown := Lib.hid (fun q (e : (Value.slice ao no co).ownBlock = some q) => (hO9.out.lt q e).1)
              have HLk := Lib.hid hLk
              clear HT2 hT HBK hqe hlq hLk hO6 hR6 hBW
              go_wp2_with (at_builtin; refine wpList_append_own _ rfl _ _ 64 rfl w5.heap.size 4 i0 (.bool false) 1 1 Tryz.underlying64 hi hz0 hz1 hz2 rfl (by decide) _ _ _ rfl (hO9.out.alloc _) ⟨wr.heap.size, 0, none⟩ 1 1 [.bool b] rfl rfl (cell_one_new _ _ _) (fun x hx => by simp at hx; subst hx; rfl) (by have := HLk.out; unfold maxLen; omega) (by have := HLk.out; omega) (by have := hB9.size; simp; omega) ?_; intro o' w9 hown9 hgrow9 _)
              go_roundw
              case rel =>
                refine ⟨k + 1, L ++ [b], by omega, by go_num, Lib.hid ?_, by have := HLk.out; simp; omega, HTK, ?_⟩
                · rw [List.length_append, List.length_singleton, List.map_append]
                  exact hown9
                · exact (hB9.alloc hB9.size _).grown hgrow9 (by have := hB9.size; simp; omega) hown.out
              case measure => simp [intOf]; omega
        · have hkn : k = n := by omega
          have hfi := fun W => refFine_calls W
          unfold fltV at hfi
          have hnk : ¬ (k : Int) < (n : Int) := by omega
          have hlt0 : w.heap.size < w5.heap.size := lt_of_cell hzB.c0
          have HLK := Lib.hid (And.intro hkn hLk)
          replace hfi := Lib.hid hfi
          clear hlt hk hkn hLk
          go_wp2_with fail
          refine (hfi.out _).mono ?_
          rintro e w8 ⟨rfl, hb⟩
          have hB8 := below_step hB (below_step hBr hb)
          obtain ⟨z0, z1, zf⟩ := hzB.below (below_step hBr hb)
          have hO8 := ownsRow_kept hO.out hb
          have hne := own_ne (b := w.heap.size) hO8 hlt0
          have HFIN : Hid (∀ u0 u1 : Value, BoolsAt ((w8.setCell ⟨w.heap.size, 0, none⟩ u0).setCell ⟨w.heap.size, 1, none⟩ u1) (.slice ao no co) (enF n P V R K B) caps) := Lib.hid (fun u0 u1 => by
            have hM := blsAt_own (w := (w8.setCell ⟨w.heap.size, 0, none⟩ u0).setCell ⟨w.heap.size, 1, none⟩ u1) (ownsRow_set (ownsRow_set hO8 hne u0) hne u1)
            have h1 := HLK.out
            refine ⟨_, by rw [enF_length, ← h1.1, ← h1.2]; exact hM, fun j hj => ?_⟩
            rw [enF_length] at hj
            rw [← hT.out j (by omega)]
            simp [List.getD_eq_getElem?_getD, List.getElem?_eq_getElem (show j < L.length by omega)])
          clear hb hfi hne hO8 hnk hT
          go_wp2_with fail
          refine bodyPost_ret (v := .tuple #[(.slice ao no co), fltV (0, -1)]) (by simp [results, Tryz.results52, fltV, go_sem, *]) rfl ?_
          rw [badErr_at (by rw [HSA.out])]
          exact ⟨⟨_, rfl, fun _ => HFIN.out _ _, fun h => absurd rfl h⟩, (hB8.setCell (p := ⟨w.heap.size, 0, none⟩) (Nat.le_refl _) _).setCell (p := ⟨w.heap.size, 1, none⟩) (Nat.le_refl _) _⟩
    · have hc9 : (0 : Int) < (gc : Int) := by omega
      have hc8 : ((gc : Int) == 0) = false := beq_eq_false_iff_ne.2 (by omega)
      have HNE := Lib.hid h1
      have hx2 : Box2 ((w4.setCell ⟨bx, 0, none⟩ (.int .i64 (gc : Nat))).setCell ⟨bx, 1, none⟩ (.int .i64 ga)) bx (.int .i64 (gc : Nat)) (.int .i64 ga) := ⟨by rw [set_off _ (by decide)]; exact set_same _ x0, set_same _ (by rw [set_off _ (by decide)]; exact x1), fun j => by simp [xf j]⟩
      have hzB : Box2 ((w4.setCell ⟨bx, 0, none⟩ (.int .i64 (gc : Nat))).setCell ⟨bx, 1, none⟩ (.int .i64 ga)) w.heap.size (.int .i64 0) (.int .i64 0) := ⟨by rw [set_blk _ nx1, set_blk _ nx1]; exact hz.c0, by rw [set_blk _ nx1, set_blk _ nx1]; exact hz.c1, fun j => by simp [hz.fr j]⟩
      replace hB := (hB.setCell (p := ⟨bx, 0, none⟩) (by show w.heap.size ≤ bx; omega) (.int .i64 (gc : Nat))).setCell (p := ⟨bx, 1, none⟩) (by show w.heap.size ≤ bx; omega) (.int .i64 ga)
      clear h1 HSE
      go_wp2_with fail
      generalize (w4.setCell ⟨bx, 0, none⟩ (.int .i64 (gc : Nat))).setCell ⟨bx, 1, none⟩ (.int .i64 ga) = w5 at *
      clear x0 x1 xf hx hz
      obtain ⟨x0, x1, xf⟩ := id hx2
      obtain ⟨z0, z1, zf⟩ := id hzB
      go_region
      all_goals
        go_wp2_with fail
        refine bodyPost_ret (v := .tuple #[.slice none 0 0, fltV (gc, ga)]) (by simp [results, Tryz.results52, fltV, go_sem, *]) rfl ?_
        rw [HF.out]
        exact ⟨⟨_, rfl, fun h => absurd h HNE.out, fun _ => rfl⟩, (hB.drew.setCell (p := ⟨w.heap.size, 0, none⟩) (Nat.le_refl _) _).setCell (p := ⟨w.heap.size, 1, none⟩) (Nat.le_refl _) _⟩
  · have hc9 : (0 : Int) < (fc : Int) := by omega
    have hc8 : ((fc : Int) == 0) = false := beq_eq_false_iff_ne.2 (by omega)
    have HNE := Lib.hid h0
    have HF : Hid (badErr (enF n P V R K B) caps = (fc, fa)) := Lib.hid (by rw [HSE.out]; unfold orE; rw [if_pos h0])
    obtain ⟨z0, z1, zf⟩ := id hz
    clear h0 HSE
    go_wp2_with fail
    generalize w2.alloc (.cells #[.int .i64 (fc : Nat), .int .i64 fa] 46) = w3 at *
    generalize w2.heap.size = bx at *
    go_region
    all_goals
      go_wp2_with fail
      refine bodyPost_ret (v := .tuple #[.slice none 0 0, fltV (fc, fa)]) (by simp [results, Tryz.results52, fltV, go_sem, *]) rfl ?_
      rw [HF.out]
      exact ⟨⟨_, rfl, fun h => absurd h HNE.out, fun _ => rfl⟩, (hB.drew.setCell (p := ⟨w.heap.size, 0, none⟩) (Nat.le_refl _) _).setCell (p := ⟨w.heap.size, 1, none⟩) (Nat.le_refl _) _⟩
end Go.Proofs.Pw
