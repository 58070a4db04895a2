/- Ut: walks and plain laws, joined: RefIdx ReachOf GrEdges BuildOf Box RefOne RefLatest RefAll RefRise RefNews FileTellsMath ErrLe ErrIs. Conditions: at each theorem. -/
import Derived.Test.YtnkcobdgaldkfaaGreatDoorUth
import Derived.Test.YtnkcobdgaldkfaaGreatDoorUte
import Derived.Test.YtnkcobdgaldkfaaGreatDoorUtd
import Derived.Test.YtnkcobdgaldkfaaGreatDoorUtc
import Derived.Test.YtnkcobdgaldkfaaGreatDoorUtb
import Derived.Test.YtnkcobdgaldkfaaGreatDoorUtg
import Derived.Test.YtnkcobdgaldkfaaGreatDoorUtf
import Derived.Test.YtnkcobdgaldkfaaGreatDoorUta
import Derived.Test.YtnkcobdgaldkfaaGreatDoorProg
import Derived.WalkKit
import Derived.LaidEql
import Derived.Stop.Asserts
import Derived.RowKitTokens
import Derived.Lib.Hide

namespace Go.Proofs.Pw
open Go.RowKit
open Go.Lib hiding intOf
theorem any_mdF {n : Nat} {P V : Nat → ByteArray} {p : Md → Bool} (h : ∀ j, j < n → p ((P j).data.toList, (V j).data.toList) = false) : (mdF n P V).any p = false := by
  rw [List.any_eq_false]
  intro m hm
  obtain ⟨j, hj⟩ := List.getElem?_of_mem hm
  have hl := (List.getElem?_eq_some_iff.1 hj).1
  rw [mdF_length] at hl
  rw [mdF_get n P V j hl] at hj
  rw [← Option.some.inj hj, h j hl]
  simp
set_option maxHeartbeats 8000000 in
set_option maxRecDepth 100000 in
theorem indexFault_in (a : Option Addr) (n cap : Nat) (P V : Nat → ByteArray) (R : Nat → List Md) (K : Nat → List Str) (B : Nat → Bool) (Rv Kv : Nat → Value) (w : World) (h : EntsIn w a n cap P V R K B Rv Kv) (hs : ShortI (enF n P V R K B)) :
    Calls Tryz.prog 69 #[.slice a n cap] w fun e w' => e = .returned (fltV (idxErr (enF n P V R K B))) ∧ Below w.heap.size w w' := by
  have hn : n ≤ 1000000 := by have := hs.len; rwa [enF_length] at this
  have hB := below_alloc w (.cells #[.int .i64 0, .int .i64 0] 49)
  have hz := box2_alloc w (.int .i64 0) (.int .i64 0) 49
  have HFE : Hid (idxErr (enF n P V R K B) = if 100 < n then (7, -1) else orE (firstE (entErr (enF n P V R K B)) n) (firstE (lostE (enF n P V R K B)) n)) := Lib.hid (by unfold idxErr; rw [enF_length])
  have hee := fun (i : Nat) (hi : i < n) (W : World) (hb : Below w.heap.size w W) => entryError_in a n cap P V R K B Rv Kv i W (h.below hb) hs hi
  have hfo := fun (p v : ByteArray) (W : World) (hb : Below w.heap.size w W) => findOf_in a n cap P V R K B Rv Kv p v W (h.below hb) hn
  have H := Lib.hid h
  have HSH := Lib.hid hs
  replace hee := Lib.hid hee
  replace hfo := Lib.hid hfo
  clear h hs
  by_cases h100 : 100 < n
  · have HF : Hid (idxErr (enF n P V R K B) = (7, -1)) := Lib.hid (by rw [HFE.out, if_pos h100])
    have h100' : (100 : Int) < (n : Int) := by omega
    have hba := fun W => refBare_calls 7 W
    unfold fltV at hba
    replace hba := Lib.hid hba
    clear h100
    go_enter Tryz.func69, Tryz.ntmps69
    go_wp2_with fail
    generalize w.alloc (.cells #[.int .i64 0, .int .i64 0] 49) = w1 at *
    refine (hba.out _).mono ?_
    rintro e w2 ⟨rfl, hb⟩
    have hB2 := below_step hB hb
    obtain ⟨z0, z1, zf⟩ := hz.below hb
    clear hb hba
    go_wp2_with fail
    refine bodyPost_ret (v := fltV (7, -1)) (by simp [results, Tryz.results69, fltV, go_sem, *]) rfl ?_
    rw [HF.out]
    exact ⟨rfl, (hB2.setCell (p := ⟨w.heap.size, 0, none⟩) (Nat.le_refl _) _).setCell (p := ⟨w.heap.size, 1, none⟩) (Nat.le_refl _) _⟩
  · have HF1 : Hid (idxErr (enF n P V R K B) = orE (firstE (entErr (enF n P V R K B)) n) (firstE (lostE (enF n P V R K B)) n)) := Lib.hid (by rw [HFE.out, if_neg h100])
    have h100' : ¬ (100 : Int) < (n : Int) := by omega
    clear h100
    go_enter Tryz.func69, Tryz.ntmps69
    go_wp2_with fail
    generalize w.alloc (.cells #[.int .i64 0, .int .i64 0] 49) = w1 at *
    clear h100'
    go_loopw [3] (fun x wr => ∃ k : Nat, k ≤ n ∧ x = .int .i64 k ∧ Below w1.heap.size w1 wr ∧ Hid (∀ j, j < k → entErr (enF n P V R K B) j = 0)) (fun x _ => n - (intOf x).toNat)
    case atStart => exact ⟨0, Nat.zero_le _, rfl, Below.refl _ _, Lib.hid (fun j hj => absurd hj (Nat.not_lt_zero _))⟩
    case round =>
      obtain ⟨k, hk, rfl, hBk, HA⟩ := hrel
      have hBw := below_step hB hBk
      have hzk := hz.below hBk
      by_cases hlt : k < n
      · have hkn : (k : Int) < (n : Int) := by omega
        have hf := hee.out k hlt wr hBw
        obtain ⟨c, hc⟩ : ∃ c, entErr (enF n P V R K B) k = c := ⟨_, rfl⟩
        rw [hc] at hf
        by_cases h0 : c = 0
        · have HN : Hid (∀ j, j < k + 1 → entErr (enF n P V R K B) j = 0) := Lib.hid (fun j hj => by
            by_cases e : j = k
            · subst e; rw [hc, h0]
            · exact HA.out j (by omega))
          subst h0
          replace hf := Lib.hid hf
          clear hc
          go_wp2_with fail
          refine hf.out.mono ?_
          rintro e w2 ⟨rfl, hb⟩
          replace hBk := below_step hBk hb
          clear hb hf
          go_wp2_with fail
          go_roundw
          case rel => exact ⟨k + 1, by omega, by go_num, hBk, HN⟩
          case measure => simp [intOf]; omega
        · have HF : Hid (idxErr (enF n P V R K B) = (c, (k : Int))) := Lib.hid (by
            rw [HF1.out, firstE_hit (by rw [hc]; exact h0) HA.out hlt, hc]
            unfold orE
            rw [if_pos h0])
          have hc9 : (0 : Int) < (c : Int) := by omega
          replace hf := Lib.hid hf
          clear hc h0
          go_wp2_with fail
          refine hf.out.mono ?_
          rintro e w2 ⟨rfl, hb⟩
          have hB2 := below_step hBw hb
          obtain ⟨z0, z1, zf⟩ := hzk.below hb
          clear hb hf
          go_wp2_with fail
          refine bodyPost_ret (v := fltV (c, (k : Int))) (by simp [results, Tryz.results69, fltV, go_sem, *]) rfl ?_
          rw [HF.out]
          exact ⟨rfl, (hB2.setCell (p := ⟨w.heap.size, 0, none⟩) (Nat.le_refl _) _).setCell (p := ⟨w.heap.size, 1, none⟩) (Nat.le_refl _) _⟩
      · have HF2 : Hid (idxErr (enF n P V R K B) = firstE (lostE (enF n P V R K B)) n) := Lib.hid (by
          rw [HF1.out, firstE_none (fun j hj => HA.out j (by omega))]
          rfl)
        have hnk : ¬ (k : Int) < (n : Int) := by omega
        clear hlt HA hk
        go_wp2_with fail
        clear hnk
        generalize wr = wl at *
        go_loopw [5] (fun x wr => ∃ k : Nat, k ≤ n ∧ x = .int .i64 k ∧ Below wl.heap.size wl wr ∧ Hid (∀ j, j < k → lostE (enF n P V R K B) j = 0)) (fun x _ => n - (intOf x).toNat)
        case atStart => exact ⟨0, Nat.zero_le _, rfl, Below.refl _ _, Lib.hid (fun j hj => absurd hj (Nat.not_lt_zero _))⟩
        case round =>
          obtain ⟨k, hk, rfl, hBm, HA⟩ := hrel
          have hBx := below_step hBw hBm
          by_cases hlt : k < n
          · have hkn : (k : Int) < (n : Int) := by omega
            obtain ⟨b1, o1, ea, hcell⟩ := H.out.at_ k hlt
            obtain ⟨a1, n1, c1, P1, V1, e1, e2, _, _, hc1⟩ := H.out.reqs k hlt
            have hlen : n1 ≤ 1000000 := by
              have := (HSH.out.at_ hlt).2.2.2.1.1
              rw [e2, mdF_length] at this
              exact this
            have HL : Hid (lostE (enF n P V R K B) k = if (mdF n1 P1 V1).any (lost (enF n P V R K B)) then 5 else 0) := Lib.hid (by unfold lostE; rw [enAt_enF hlt, e2])
            rw [e1] at hcell
            have d2 := hcell.c2
            subst ea
            replace hc1 := Lib.hid hc1
            clear e1 e2 hcell
            go_wp2_with fail
            generalize hwo : wr = wo at *
            clear hwo
            go_loopw [6] (fun x wr => ∃ q : Nat, q ≤ n1 ∧ x = .int .i64 q ∧ Below wo.heap.size wo wr ∧ Hid (∀ j, j < q → lost (enF n P V R K B) ((P1 j).data.toList, (V1 j).data.toList) = false)) (fun x _ => n1 - (intOf x).toNat)
            case atStart => exact ⟨0, Nat.zero_le _, rfl, Below.refl _ _, Lib.hid (fun j hj => absurd hj (Nat.not_lt_zero _))⟩
            case round =>
              obtain ⟨q, hq, rfl, hBn, HA2⟩ := hrel
              have hBy := below_step hBx hBn
              have x2 := Below.cell_some hBy d2
              by_cases hlq : q < n1
              · have hqn : (q : Int) < (n1 : Int) := by omega
                obtain ⟨b2, o2, e3, y0, y1⟩ := hc1.out q hlq
                subst e3
                replace y0 := Below.cell_some hBy y0
                replace y1 := Below.cell_some hBy y1
                have hf := hfo.out (P1 q) (V1 q) wr hBy
                obtain ⟨x, hx⟩ : ∃ x, findE (enF n P V R K B) ((P1 q).data.toList, (V1 q).data.toList) = x := ⟨_, rfl⟩
                rw [hx] at hf
                by_cases h0 : x < 0
                · have HF : Hid (idxErr (enF n P V R K B) = (5, (k : Int))) := Lib.hid (by
                    have hR : lostE (enF n P V R K B) k = 5 := by
                      rw [HL.out, if_pos]
                      rw [List.any_eq_true]
                      refine ⟨_, List.mem_of_getElem? (mdF_get n1 P1 V1 q hlq), ?_⟩
                      unfold lost
                      rw [hx]
                      exact decide_eq_true h0
                    rw [HF2.out, firstE_hit (by rw [hR]; decide) HA.out hlt, hR])
                  have hzy := hz.below (below_step hBk (below_step hBm hBn))
                  replace hf := Lib.hid hf
                  clear hx hlen
                  go_wp2_with fail
                  refine hf.out.mono ?_
                  rintro e w2 ⟨rfl, hb⟩
                  have hB2 := below_step hBy hb
                  obtain ⟨z0, z1, zf⟩ := hzy.below hb
                  clear hb hf x2 y0 y1
                  go_wp2_with fail
                  refine bodyPost_ret (v := fltV (5, (k : Int))) (by simp [results, Tryz.results69, fltV, go_sem, *]) rfl ?_
                  rw [HF.out]
                  exact ⟨rfl, (hB2.setCell (p := ⟨w.heap.size, 0, none⟩) (Nat.le_refl _) _).setCell (p := ⟨w.heap.size, 1, none⟩) (Nat.le_refl _) _⟩
                · have HN : Hid (∀ j, j < q + 1 → lost (enF n P V R K B) ((P1 j).data.toList, (V1 j).data.toList) = false) := Lib.hid (fun j hj => by
                    by_cases e : j = q
                    · subst e; unfold lost; rw [hx]; exact decide_eq_false h0
                    · exact HA2.out j (by omega))
                  have hq0 : decide (x < 0) = false := decide_eq_false h0
                  replace hf := Lib.hid hf
                  clear hx h0
                  go_wp2_with fail
                  refine hf.out.mono ?_
                  rintro e w2 ⟨rfl, hb⟩
                  replace hBn := below_step hBn hb
                  clear hb hf x2 y0 y1
                  go_wp2_with fail
                  go_roundw
                  case rel => exact ⟨q + 1, by omega, by go_num, hBn, HN⟩
                  case measure => simp [intOf]; omega
              · have HN : Hid (∀ j, j < k + 1 → lostE (enF n P V R K B) j = 0) := Lib.hid (fun j hj => by
                  by_cases e : j = k
                  · subst e
                    rw [HL.out, any_mdF (fun i hi => HA2.out i (by omega))]
                    rfl
                  · exact HA.out j (by omega))
                have hnq : ¬ (q : Int) < (n1 : Int) := by omega
                replace hBm := below_step hBm hBn
                clear hlq hq
                go_wp2_with fail
                go_roundw
                case rel => exact ⟨k + 1, by omega, by go_num, hBm, HN⟩
                case measure => simp [intOf]; omega
          · have HF : Hid (idxErr (enF n P V R K B) = (0, -1)) := Lib.hid (by rw [HF2.out, firstE_none (fun j hj => HA.out j (by omega))])
            have hfi := fun W => refFine_calls W
            unfold fltV at hfi
            have hnk : ¬ (k : Int) < (n : Int) := by omega
            have hzy := hz.below (below_step hBk hBm)
            replace hfi := Lib.hid hfi
            clear hlt hk
            go_wp2_with fail
            refine (hfi.out _).mono ?_
            rintro e w2 ⟨rfl, hb⟩
            have hB2 := below_step hBx hb
            obtain ⟨z0, z1, zf⟩ := hzy.below hb
            clear hb hfi
            go_wp2_with fail
            refine bodyPost_ret (v := fltV (0, -1)) (by simp [results, Tryz.results69, fltV, go_sem, *]) rfl ?_
            rw [HF.out]
            exact ⟨rfl, (hB2.setCell (p := ⟨w.heap.size, 0, none⟩) (Nat.le_refl _) _).setCell (p := ⟨w.heap.size, 1, none⟩) (Nat.le_refl _) _⟩
end Go.Proofs.Pw

namespace Go.Proofs.Pw
open Go.RowKit
open Go.Lib hiding intOf
theorem reach_take {n : Nat} {P V : Nat → ByteArray} {R : Nat → List Md} {K : Nat → List Str} {B : Nat → Bool} {roots : List Md} (k : Nat) (hk : k < n) :
    (((enF n P V R K B).map (·.md)).take (k + 1)).filter (isReached (enF n P V R K B) roots) = (((enF n P V R K B).map (·.md)).take k).filter (isReached (enF n P V R K B) roots) ++ (if isReached (enF n P V R K B) roots ((P k).data.toList, (V k).data.toList) then [((P k).data.toList, (V k).data.toList)] else []) := by
  rw [List.take_add_one, List.filter_append]
  congr 1
  rw [List.getElem?_map, enF_get _ _ _ _ _ _ k hk]
  simp only [Option.map_some, Option.toList_some, List.filter_cons, List.filter_nil]
set_option maxHeartbeats 8000000 in
set_option maxRecDepth 100000 in
theorem reachOf_in (a : Option Addr) (n cap : Nat) (P V : Nat → ByteArray) (R : Nat → List Md) (K : Nat → List Str) (B : Nat → Bool) (Rv Kv : Nat → Value) (rv : Value) (roots : List Md) (w : World) (h : EntsIn w a n cap P V R K B Rv Kv) (hr : ModsAt w rv roots) (hs : ShortI (enF n P V R K B)) (hl2 : roots.length ≤ 1000000) :
    Calls Tryz.prog 25 #[.slice a n cap, rv] w fun e w' => (∃ v, e = .returned (.tuple #[v, fltV (startErr (enF n P V R K B) roots)]) ∧ ModsAt w' v (reachR (enF n P V R K B) roots)) ∧ Below w.heap.size w w' := by
  obtain ⟨i0, hi, hz0, hz1, hz2⟩ := info_parts Tryz.infoMod
  obtain ⟨a2, m, cap2, _, _, rfl, -⟩ := id hr
  have hn : n ≤ 1000000 := by have := hs.len; rwa [enF_length] at this
  have hB := below_alloc w (.cells #[.int .i64 0, .int .i64 0] 49)
  have hz := box2_alloc w (.int .i64 0) (.int .i64 0) 49
  have hif := fun (W : World) (hb : Below w.heap.size w W) => indexFault_in a n cap P V R K B Rv Kv W (h.below hb) hs
  have hrf := fun (W : World) (hb : Below w.heap.size w W) => rootsFault_in a n cap P V R K B Rv Kv (.slice a2 m cap2) roots W (h.below hb) (hr.below hb) hn hl2
  have hma := fun (hG : RightG (enF n P V R K B) roots) (W : World) (hb : Below w.heap.size w W) => marks_in a n cap P V R K B Rv Kv (.slice a2 m cap2) roots W (h.below hb) (hr.below hb) hG hs hl2
  have H := Lib.hid h
  have HSE : Hid (startErr (enF n P V R K B) roots = orE (idxErr (enF n P V R K B)) (rootsErr (enF n P V R K B) roots)) := Lib.hid rfl
  obtain ⟨F, hF⟩ : ∃ F, idxErr (enF n P V R K B) = F := ⟨_, rfl⟩
  obtain ⟨G, hGG⟩ : ∃ G, rootsErr (enF n P V R K B) roots = G := ⟨_, rfl⟩
  simp only [hF] at hif HSE
  simp only [hGG] at hrf HSE
  obtain ⟨fc, fa⟩ := F
  obtain ⟨gc, ga⟩ := G
  unfold fltV at hif hrf
  simp only at hif hrf
  replace hif := Lib.hid hif
  replace hrf := Lib.hid hrf
  replace hma := Lib.hid hma
  clear h hr hs hF hGG
  go_enter Tryz.func25, Tryz.ntmps25
  go_wp2_with fail
  generalize w.alloc (.cells #[.int .i64 0, .int .i64 0] 49) = w1 at *
  refine (hif.out _ hB).mono ?_
  rintro e w2 ⟨rfl, hb⟩
  have hba := below_alloc w2 (.cells #[.int .i64 (fc : Nat), .int .i64 fa] 49)
  have hx := box2_alloc w2 (.int .i64 (fc : Nat)) (.int .i64 fa) 49
  have hs2 : w.heap.size < w2.heap.size := Nat.lt_of_lt_of_le (lt_of_cell hz.c0) hb.size
  replace hb := below_step hb hba
  replace hz := hz.below hb
  replace hB := below_step hB hb
  clear hb hba hif
  obtain ⟨x0, x1, xf⟩ := id hx
  have nx1 : w.heap.size ≠ w2.heap.size := by omega
  have nx2 : w2.heap.size ≠ w.heap.size := by omega
  by_cases h0 : fc = 0
  · subst h0
    go_wp2_with fail
    generalize w2.alloc (.cells #[.int .i64 ((0 : Nat) : Int), .int .i64 fa] 49) = w3 at *
    generalize w2.heap.size = bx at *
    refine (hrf.out _ hB).mono ?_
    rintro e w4 ⟨rfl, hb⟩
    replace hz := hz.below hb
    replace hx := hx.below hb
    replace hB := below_step hB hb
    clear x0 x1 xf hb hrf
    obtain ⟨x0, x1, xf⟩ := id hx
    have HF : Hid (startErr (enF n P V R K B) roots = (gc, ga)) := Lib.hid (by rw [HSE.out]; unfold orE; rw [if_neg (by simp)])
    by_cases h1 : gc = 0
    · subst h1
      have HSA : Hid (startErr (enF n P V R K B) roots = (0, -1)) := Lib.hid (startErr_at (by rw [HF.out]))
      have hG := rightG_of (l := enF n P V R K B) (roots := roots) (by rw [HF.out])
      have HRR : Hid (reachR (enF n P V R K B) roots = reachL (enF n P V R K B) roots) := Lib.hid (by unfold reachR; rw [if_pos (by rw [HF.out])])
      have hma1 := hma.out hG
      have hz2 : Box2 ((w4.setCell ⟨bx, 0, none⟩ (.int .i64 ((0 : Nat) : Int))).setCell ⟨bx, 1, none⟩ (.int .i64 ga)) w.heap.size (.int .i64 0) (.int .i64 0) := ⟨by rw [set_blk _ nx1, set_blk _ nx1]; exact hz.c0, by rw [set_blk _ nx1, set_blk _ nx1]; exact hz.c1, fun j => by simp [hz.fr j]⟩
      replace hB := (hB.setCell (p := ⟨bx, 0, none⟩) (by show w.heap.size ≤ bx; omega) (.int .i64 ((0 : Nat) : Int))).setCell (p := ⟨bx, 1, none⟩) (by show w.heap.size ≤ bx; omega) (.int .i64 ga)
      replace hma1 := Lib.hid hma1
      clear HSE HF hG hma
      have y0 : ((w4.setCell ⟨bx, 0, none⟩ (.int .i64 ((0 : Nat) : Int))).setCell ⟨bx, 1, none⟩ (.int .i64 ga)).cell? ⟨bx, 0, none⟩ = some (.int .i64 ((0 : Nat) : Int)) := by rw [set_off _ (by decide)]; exact set_same _ x0
      go_wp2_with fail
      generalize hw5 : ((w4.setCell ⟨bx, 0, none⟩ (.int .i64 ((0 : Nat) : Int))).setCell ⟨bx, 1, none⟩ (.int .i64 ga)) = w5 at *
      clear x0 x1 xf hx hz hw5 y0
      refine (hma1.out _ hB).mono ?_
      rintro e w6 ⟨⟨M, rfl, hrow, hM⟩, hb⟩
      have HRow := Lib.hid hrow
      have HM := Lib.hid hM
      have hz := hz2.below hb
      replace hB := below_step hB hb
      have hlt0 : w.heap.size < w6.heap.size := lt_of_cell hz.c0
      clear hb hz2 hrow hM hma1 nx1 nx2
      go_wp2_with fail
      go_loopw [8, 9] (fun o x wr => ∃ (k : Nat) (L : List (ByteArray × ByteArray)), k ≤ n ∧ x = .int .i64 k ∧ Hid (wr.ownsRow w6.heap.size 38 2 o L.length (mdVs L)) ∧ L.length ≤ k ∧ Hid (mdTs L = (((enF n P V R K B).map (·.md)).take k).filter (isReached (enF n P V R K B) roots)) ∧ Below w6.heap.size w6 wr) (fun _ x _ => n - (intOf x).toNat)
      case atStart => exact ⟨0, [], Nat.zero_le _, rfl, Lib.hid (World.ownsRow_nil _ _ _ _), Nat.le_refl _, Lib.hid (by simp [mdTs]), Below.refl _ _⟩
      case round =>
        obtain ⟨k, L, hk, rfl, hO, hLk, hT, hBr⟩ := hrel
        obtain ⟨ao, no, co, rfl⟩ := own_form hO.out
        have hown := Lib.hid (fun q (e : (Value.slice ao no co).ownBlock = some q) => (hO.out.lt q e).1)
        by_cases hlt : k < n
        · have hkn : (k : Int) < (n : Int) := by omega
          have g0 := (HRow.out.below hBr).cell hlt
          have hMk := HM.out k hlt
          rw [enAt_enF hlt] at hMk
          cases hMv : M k with
          | false =>
            rw [hMv] at g0
            have HN : Hid (mdTs L = (((enF n P V R K B).map (·.md)).take (k + 1)).filter (isReached (enF n P V R K B) roots)) := Lib.hid (by
              rw [reach_take k hlt, if_neg (fun h => by rw [isReached_iff, ← hMk, hMv] at h; cases h), List.append_nil]
              exact hT.out)
            have HLk := Lib.hid hLk
            clear hMv hMk hLk hT
            go_wp2_with fail
            go_roundw
            case rel => exact ⟨k + 1, L, by omega, by go_num, hO, by have := HLk.out; omega, HN, hBr⟩
            case measure => simp [intOf]; omega
          | true =>
            rw [hMv] at g0
            obtain ⟨b1, o1, ea, hcell⟩ := H.out.at_ k hlt
            have c0 := Below.cell_some (below_step hB hBr) hcell.c0
            have c1 := Below.cell_some (below_step hB hBr) hcell.c1
            subst ea
            have HN : Hid (mdTs (L ++ [(P k, V k)]) = (((enF n P V R K B).map (·.md)).take (k + 1)).filter (isReached (enF n P V R K B) roots)) := Lib.hid (by
              rw [reach_take k hlt, if_pos (by rw [isReached_iff, ← hMk, hMv]), mdTs_sn, hT.out])
            clear hMv hMk hT hcell
            go_wp2_with (at_builtin; refine wpList_append_own _ rfl _ _ 23 rfl w6.heap.size 38 i0 (.agg #[.string ⟨#[]⟩, .string ⟨#[]⟩]) 2 32 Tryz.underlying23 hi hz0 hz1 hz2 rfl (by decide) _ _ _ rfl (hO.out.alloc _) ⟨wr.heap.size, 0, none⟩ 1 1 [.string (P k), .string (V k)] rfl rfl (cell_two_new _ _ _ _) (by intro u hu; simp at hu; rcases hu with rfl | rfl <;> rfl) (by unfold maxLen; omega) (by omega) (by have := hBr.size; simp; omega) ?_; intro o' w7 hown4 hgrow4 _)
            go_roundw
            case rel =>
              refine ⟨k + 1, L ++ [(P k, V k)], by omega, by go_num, Lib.hid ?_, by simp; omega, HN, ?_⟩
              · rw [List.length_append, List.length_singleton, ← mdVs_snoc]
                exact hown4
              · exact (hBr.alloc hBr.size _).grown hgrow4 (by have := hBr.size; simp; omega) hown.out
            case measure => simp [intOf]; omega
        · have hkn : k = n := by omega
          have HL : Hid (mdTs L = reachR (enF n P V R K B) roots) := Lib.hid (by
            rw [hT.out, HRR.out, hkn]
            unfold reachL
            rw [List.take_of_length_le (by rw [List.length_map, enF_length]; exact Nat.le_refl _)])
          have hfi := fun W => refFine_calls W
          unfold fltV at hfi
          have hnk : ¬ (k : Int) < (n : Int) := by omega
          replace hfi := Lib.hid hfi
          clear hlt hT hLk hk hkn hown
          go_wp2_with fail
          refine (hfi.out _).mono ?_
          rintro e w8 ⟨rfl, hb⟩
          have hB8 := below_step hB (below_step hBr hb)
          obtain ⟨z0, z1, zf⟩ := hz.below (below_step hBr hb)
          have hO8 := ownsRow_kept hO.out hb
          have hne := own_ne (b := w.heap.size) hO8 hlt0
          have HFIN : Hid (∀ u0 u1 : Value, ModsAt ((w8.setCell ⟨w.heap.size, 0, none⟩ u0).setCell ⟨w.heap.size, 1, none⟩ u1) (.slice ao no co) (reachR (enF n P V R K B) roots)) := Lib.hid (fun u0 u1 => by
            have hM := modsAt_own (w := (w8.setCell ⟨w.heap.size, 0, none⟩ u0).setCell ⟨w.heap.size, 1, none⟩ u1) (ownsRow_set (ownsRow_set hO8 hne u0) hne u1)
            rw [HL.out] at hM
            exact hM)
          clear hb hfi hne hO8 hnk
          go_wp2_with fail
          refine bodyPost_ret (v := .tuple #[(.slice ao no co), fltV (0, -1)]) (by simp [results, Tryz.results25, fltV, go_sem, *]) rfl ?_
          rw [HSA.out]
          exact ⟨⟨_, rfl, HFIN.out _ _⟩, (hB8.setCell (p := ⟨w.heap.size, 0, none⟩) (Nat.le_refl _) _).setCell (p := ⟨w.heap.size, 1, none⟩) (Nat.le_refl _) _⟩
    · have hc9 : (0 : Int) < (gc : Int) := by omega
      have hc8 : ((gc : Int) == 0) = false := beq_eq_false_iff_ne.2 (by omega)
      have HR : Hid (reachR (enF n P V R K B) roots = []) := Lib.hid (by unfold reachR; rw [if_neg (by rw [HF.out]; exact h1)])
      have hx2 : Box2 ((w4.setCell ⟨bx, 0, none⟩ (.int .i64 (gc : Nat))).setCell ⟨bx, 1, none⟩ (.int .i64 ga)) bx (.int .i64 (gc : Nat)) (.int .i64 ga) := ⟨by rw [set_off _ (by decide)]; exact set_same _ x0, set_same _ (by rw [set_off _ (by decide)]; exact x1), fun j => by simp [xf j]⟩
      have hz2 : Box2 ((w4.setCell ⟨bx, 0, none⟩ (.int .i64 (gc : Nat))).setCell ⟨bx, 1, none⟩ (.int .i64 ga)) w.heap.size (.int .i64 0) (.int .i64 0) := ⟨by rw [set_blk _ nx1, set_blk _ nx1]; exact hz.c0, by rw [set_blk _ nx1, set_blk _ nx1]; exact hz.c1, fun j => by simp [hz.fr j]⟩
      replace hB := (hB.setCell (p := ⟨bx, 0, none⟩) (by show w.heap.size ≤ bx; omega) (.int .i64 (gc : Nat))).setCell (p := ⟨bx, 1, none⟩) (by show w.heap.size ≤ bx; omega) (.int .i64 ga)
      clear h1 HSE
      go_wp2_with fail
      generalize (w4.setCell ⟨bx, 0, none⟩ (.int .i64 (gc : Nat))).setCell ⟨bx, 1, none⟩ (.int .i64 ga) = w5 at *
      clear x0 x1 xf hx hz
      obtain ⟨x0, x1, xf⟩ := id hx2
      obtain ⟨z0, z1, zf⟩ := id hz2
      go_region
      all_goals
        go_wp2_with fail
        refine bodyPost_ret (v := .tuple #[.slice none 0 0, fltV (gc, ga)]) (by simp [results, Tryz.results25, fltV, go_sem, *]) rfl ?_
        rw [HF.out, HR.out]
        exact ⟨⟨_, rfl, ModsAt.nil _⟩, (hB.drew.setCell (p := ⟨w.heap.size, 0, none⟩) (Nat.le_refl _) _).setCell (p := ⟨w.heap.size, 1, none⟩) (Nat.le_refl _) _⟩
  · have hc9 : (0 : Int) < (fc : Int) := by omega
    have hc8 : ((fc : Int) == 0) = false := beq_eq_false_iff_ne.2 (by omega)
    have HF : Hid (startErr (enF n P V R K B) roots = (fc, fa)) := Lib.hid (by rw [HSE.out]; unfold orE; rw [if_pos h0])
    have HR : Hid (reachR (enF n P V R K B) roots = []) := Lib.hid (by unfold reachR; rw [if_neg (by rw [HF.out]; exact h0)])
    obtain ⟨z0, z1, zf⟩ := id hz
    clear h0 HSE
    go_wp2_with fail
    generalize w2.alloc (.cells #[.int .i64 (fc : Nat), .int .i64 fa] 49) = w3 at *
    generalize w2.heap.size = bx at *
    go_region
    all_goals
      go_wp2_with fail
      refine bodyPost_ret (v := .tuple #[.slice none 0 0, fltV (fc, fa)]) (by simp [results, Tryz.results25, fltV, go_sem, *]) rfl ?_
      rw [HF.out, HR.out]
      exact ⟨⟨_, rfl, ModsAt.nil _⟩, (hB.drew.setCell (p := ⟨w.heap.size, 0, none⟩) (Nat.le_refl _) _).setCell (p := ⟨w.heap.size, 1, none⟩) (Nat.le_refl _) _⟩
end Go.Proofs.Pw

namespace Go.Proofs.Pw
open Go.RowKit
open Go.Lib hiding intOf
theorem reachR_len (l : List En) (roots : List Md) : (reachR l roots).length ≤ 100 := by
  unfold reachR
  by_cases h0 : (startErr l roots).1 = 0
  · rw [if_pos h0]
    have h2 : (reachL l roots).length ≤ l.length := by
      unfold reachL
      exact Nat.le_trans (List.length_filter_le _ _) (by rw [List.length_map]; exact Nat.le_refl _)
    have := (rightG_of h0).idx.len
    omega
  · rw [if_neg h0]; decide
end Go.Proofs.Pw

namespace Go.Proofs.Pw
open Go.RowKit
open Go.Lib hiding intOf
def KeptOf (X : List Md) (k : Nat) (T : List Md) : Prop := (∀ h : k < X.length, greatest (X.take (k + 1)) = T ++ [X[k]]) ∧ (k = X.length → greatest X = T)
theorem kept_start (X : List Md) : KeptOf X 0 [] := by
  refine ⟨fun h => ?_, fun h => ?_⟩
  · cases X with
    | nil => exact absurd h (Nat.not_lt_zero _)
    | cons a r => rfl
  · rw [List.eq_nil_of_length_eq_zero h.symm]; rfl
theorem kept_same {X : List Md} {k : Nat} {T : List Md} (h : KeptOf X k T) (hk : k + 1 < X.length) (he : (X[k + 1]).1 = (X[k]).1) : KeptOf X (k + 1) T := by
  refine ⟨fun _ => ?_, fun h' => absurd h' (by omega)⟩
  rw [List.take_add_one, List.getElem?_eq_getElem hk, Option.toList_some, greatest_snoc, h.1 (by omega)]
  unfold grow1
  rw [if_pos (by simp [he])]
  simp
theorem kept_more {X : List Md} {k : Nat} {T : List Md} (h : KeptOf X k T) (hk : k < X.length) (he : ∀ h2 : k + 1 < X.length, (X[k + 1]).1 ≠ (X[k]).1) : KeptOf X (k + 1) (T ++ [X[k]]) := by
  refine ⟨fun h2 => ?_, fun h2 => ?_⟩
  · rw [List.take_add_one, List.getElem?_eq_getElem h2, Option.toList_some, greatest_snoc, h.1 hk]
    unfold grow1
    rw [if_neg (by simp only [List.getLast?_append, List.getLast?_singleton, Option.some_or, Option.map_some]; exact fun e => he h2 (Option.some.inj e).symm)]
  · have := h.1 hk
    rwa [h2, List.take_length] at this
theorem mdF_getElem {n : Nat} {P V : Nat → ByteArray} {k : Nat} (h : k < n) (h2 : k < (mdF n P V).length) : (mdF n P V)[k] = ((P k).data.toList, (V k).data.toList) := by
  have := mdF_get n P V k h
  rw [List.getElem?_eq_getElem h2] at this
  exact Option.some.inj this
set_option maxHeartbeats 8000000 in
set_option maxRecDepth 100000 in
theorem buildOf_in (a : Option Addr) (n cap : Nat) (P V : Nat → ByteArray) (R : Nat → List Md) (K : Nat → List Str) (B : Nat → Bool) (Rv Kv : Nat → Value) (rv : Value) (roots : List Md) (w : World) (h : EntsIn w a n cap P V R K B Rv Kv) (hr : ModsAt w rv roots) (hs : ShortI (enF n P V R K B)) (hl2 : roots.length ≤ 1000000) :
    Calls Tryz.prog 39 #[.slice a n cap, rv] w fun e w' => (∃ v, e = .returned (.tuple #[v, fltV (startErr (enF n P V R K B) roots)]) ∧ ModsAt w' v (buildR (enF n P V R K B) roots)) ∧ Below w.heap.size w w' := by
  obtain ⟨i0, hi, hz0, hz1, hz2⟩ := info_parts Tryz.infoMod
  have hB := below_alloc w (.cells #[.int .i64 0, .int .i64 0] 49)
  have hz := box2_alloc w (.int .i64 0) (.int .i64 0) 49
  have hre := fun (W : World) (hb : Below w.heap.size w W) => reachOf_in a n cap P V R K B Rv Kv rv roots W (h.below hb) (hr.below hb) hs hl2
  obtain ⟨a2, m, cap2, _, _, rfl, -⟩ := id hr
  have hbo := build_of (l := enF n P V R K B) (roots := roots)
  have hxl := reachR_len (enF n P V R K B) roots
  have hse : (startErr (enF n P V R K B) roots).1 = 0 → startErr (enF n P V R K B) roots = (0, -1) := fun h => startErr_at h
  have hbe : (startErr (enF n P V R K B) roots).1 ≠ 0 → buildR (enF n P V R K B) roots = [] := fun h0 => by unfold buildR; rw [if_neg h0]
  generalize reachR (enF n P V R K B) roots = X at *
  generalize buildR (enF n P V R K B) roots = Y at *
  generalize startErr (enF n P V R K B) roots = SE at *
  obtain ⟨fc, fa⟩ := SE
  unfold fltV at hre
  simp only at hre hbe
  replace hre := Lib.hid hre
  clear h hr hs
  go_enter Tryz.func39, Tryz.ntmps39
  go_wp2_with fail
  generalize w.alloc (.cells #[.int .i64 0, .int .i64 0] 49) = w1 at *
  refine (hre.out _ hB).mono ?_
  rintro e w2 ⟨⟨x, rfl, hx⟩, hb⟩
  obtain ⟨ax, nx, cx, Q, U, rfl, rfl, hmc, hcap2, hc2⟩ := hx
  rw [mdF_length] at hxl
  have hba := below_alloc w2 (.cells #[.int .i64 (fc : Nat), .int .i64 fa] 49)
  have hy := box2_alloc w2 (.int .i64 (fc : Nat)) (.int .i64 fa) 49
  have hs2 : w.heap.size < w2.heap.size := Nat.lt_of_lt_of_le (lt_of_cell hz.c0) hb.size
  have hc3 : ∀ j, j < nx → ∃ b o, ax = some ⟨b, o, none⟩ ∧ (w2.alloc (.cells #[.int .i64 (fc : Nat), .int .i64 fa] 49)).cell? ⟨b, o + j * 2, none⟩ = some (.string (Q j)) ∧ (w2.alloc (.cells #[.int .i64 (fc : Nat), .int .i64 fa] 49)).cell? ⟨b, o + j * 2 + 1, none⟩ = some (.string (U j)) := fun j hj => let ⟨b, o, e, h1, h2⟩ := hc2 j hj; ⟨b, o, e, Below.cell_some hba h1, Below.cell_some hba h2⟩
  replace hb := below_step hb hba
  replace hz := hz.below hb
  replace hB := below_step hB hb
  replace hc3 := Lib.hid hc3
  clear hb hba hre hc2
  obtain ⟨x0, x1, xf⟩ := id hy
  have nx1 : w.heap.size ≠ w2.heap.size := by omega
  have nx2 : w2.heap.size ≠ w.heap.size := by omega
  by_cases h0 : fc = 0
  · have HSE := Lib.hid (hse h0)
    have HBO := Lib.hid hbo
    subst h0
    clear hbe hse hbo
    go_wp2_with fail
    generalize w2.alloc (.cells #[.int .i64 ((0 : Nat) : Int), .int .i64 fa] 49) = w3 at *
    have hlt0 : w.heap.size < w3.heap.size := lt_of_cell hz.c0
    clear x0 x1 xf hy nx1 nx2
    go_loopw [8, 9] (fun o x wr => ∃ (k : Nat) (L : List (ByteArray × ByteArray)), k ≤ nx ∧ x = .int .i64 k ∧ Hid (wr.ownsRow w3.heap.size 38 2 o L.length (mdVs L)) ∧ L.length ≤ k ∧ Hid (KeptOf (mdF nx Q U) k (mdTs L)) ∧ Below w3.heap.size w3 wr) (fun _ x _ => nx - (intOf x).toNat)
    case atStart => exact ⟨0, [], Nat.zero_le _, rfl, Lib.hid (World.ownsRow_nil _ _ _ _), Nat.le_refl _, Lib.hid (kept_start _), Below.refl _ _⟩
    case round =>
      obtain ⟨k, L, hk, rfl, hO, hLk, hT, hBr⟩ := hrel
      obtain ⟨ao, no, co, rfl⟩ := own_form hO.out
      have hown := Lib.hid (fun q (e : (Value.slice ao no co).ownBlock = some q) => (hO.out.lt q e).1)
      have hw1 := wrap_nat (k + 1) (by omega)
      by_cases hlt : k < nx
      · have hkn : (k : Int) < (nx : Int) := by omega
        have hkx : k < (mdF nx Q U).length := by rw [mdF_length]; exact hlt
        obtain ⟨b1, o1, ea, c0, c1⟩ := hc3.out k hlt
        replace c0 := Below.cell_some hBr c0
        replace c1 := Below.cell_some hBr c1
        subst ea
        by_cases hl3 : k + 1 < nx
        · have hkn3 : (k : Int) + 1 < (nx : Int) := by omega
          have hkn4 : ((k : Int) + 1).toNat = k + 1 := by omega
          have hkn5 : (0 : Int) ≤ (k : Int) + 1 := by omega
          have hkn6 : ¬ ((k : Int) + 1 < 0) := by omega
          have hkx2 : k + 1 < (mdF nx Q U).length := by rw [mdF_length]; exact hl3
          obtain ⟨b2, o2, eb, d0, d1⟩ := hc3.out (k + 1) hl3
          injection eb with eb
          injection eb with eb1 eb2
          subst eb1 eb2
          replace d0 := Below.cell_some hBr d0
          by_cases hp : Q (k + 1) = Q k
          · have hq1 : ((Q (k + 1)).toList == (Q k).toList) = true := by rw [hp]; simp
            have HN : Hid (KeptOf (mdF nx Q U) (k + 1) (mdTs L)) := Lib.hid (kept_same hT.out hkx2 (by rw [mdF_getElem hl3, mdF_getElem hlt, hp]))
            have HLk := Lib.hid hLk
            clear hp hT hLk d1
            go_wp2_with fail
            have hOa := hO.out
            have kqd0 := fun d os => cell_patch (d := d) (os := os) d0
            have kqc0 := fun d os => cell_patch (d := d) (os := os) c0
            refine wp_region_quiet_patch (by kernel_rfl) (by kernel_rfl) ?_
            repeat (go_big_quiet_step (fail))
            refine wpQuiet_nil ?_
            intro _ hw'
            obtain ⟨⟨dq, osq⟩, hw''⟩ := hw'
            subst hw''
            clear kqd0 kqc0
            have hb := below_patch wr dq osq
            replace hBr := below_step hBr hb
            replace hOa := hOa.below hb
            clear hb
            generalize patch wr dq osq = wq1 at hBr hOa ⊢
            have HO := Lib.hid hOa
            clear hOa d0 c0 c1 hO
            go_wp2_with fail
            go_roundw
            case rel => exact ⟨k + 1, L, by omega, by go_num, HO, by have := HLk.out; omega, HN, hBr⟩
            case measure => simp [intOf]; omega
          · have hq1 : ((Q (k + 1)).toList == (Q k).toList) = false := by rw [toList_data, toList_data]; exact beq_eq_false_iff_ne.2 (fun e => hp (bytes_eq.1 e))
            have HN : Hid (KeptOf (mdF nx Q U) (k + 1) (mdTs (L ++ [(Q k, U k)]))) := Lib.hid (by
              have := kept_more hT.out hkx (fun h2 => by rw [mdF_getElem hl3, mdF_getElem hlt]; exact fun e => hp (bytes_eq.1 e))
              rw [mdF_getElem hlt] at this
              rw [mdTs_sn]
              exact this)
            clear hp hT d1
            go_wp2_with fail
            have hOa := hO.out
            have kqd0 := fun d os => cell_patch (d := d) (os := os) d0
            have kqc0 := fun d os => cell_patch (d := d) (os := os) c0
            refine wp_region_quiet_patch (by kernel_rfl) (by kernel_rfl) ?_
            repeat (go_big_quiet_step (fail))
            refine wpQuiet_nil ?_
            intro _ hw'
            obtain ⟨⟨dq, osq⟩, hw''⟩ := hw'
            subst hw''
            clear kqd0 kqc0
            have hb := below_patch wr dq osq
            replace hBr := below_step hBr hb
            replace hOa := hOa.below hb
            replace c0 := Below.cell_some hb c0
            replace c1 := Below.cell_some hb c1
            clear hb
            generalize patch wr dq osq = wq1 at hBr hOa c0 c1 ⊢
            have HO := Lib.hid hOa
            clear hOa d0 hO
            go_wp2_with (at_builtin; refine wpList_append_own _ rfl _ _ 23 rfl w3.heap.size 38 i0 (.agg #[.string ⟨#[]⟩, .string ⟨#[]⟩]) 2 32 Tryz.underlying23 hi hz0 hz1 hz2 rfl (by decide) _ _ _ rfl (HO.out.alloc _) ⟨wq1.heap.size, 0, none⟩ 1 1 [.string (Q k), .string (U k)] rfl rfl (cell_two_new _ _ _ _) (by intro u hu; simp at hu; rcases hu with rfl | rfl <;> rfl) (by unfold maxLen; omega) (by omega) (by have := hBr.size; simp; omega) ?_; intro o' w7 hown4 hgrow4 _)
            go_roundw
            case rel =>
              refine ⟨k + 1, L ++ [(Q k, U k)], by omega, by go_num, Lib.hid ?_, by simp; omega, HN, ?_⟩
              · rw [List.length_append, List.length_singleton, ← mdVs_snoc]
                exact hown4
              · exact (hBr.alloc hBr.size _).grown hgrow4 (by have := hBr.size; simp; omega) hown.out
            case measure => simp [intOf]; omega
        · have hkn3 : ¬ (k : Int) + 1 < (nx : Int) := by omega
          have HN : Hid (KeptOf (mdF nx Q U) (k + 1) (mdTs (L ++ [(Q k, U k)]))) := Lib.hid (by
            have := kept_more hT.out hkx (fun h2 => absurd h2 (by rw [mdF_length]; exact hl3))
            rw [mdF_getElem hlt] at this
            rw [mdTs_sn]
            exact this)
          have HO := hO
          clear hT hl3
          go_wp2_with (at_builtin; refine wpList_append_own _ rfl _ _ 23 rfl w3.heap.size 38 i0 (.agg #[.string ⟨#[]⟩, .string ⟨#[]⟩]) 2 32 Tryz.underlying23 hi hz0 hz1 hz2 rfl (by decide) _ _ _ rfl (HO.out.alloc _) ⟨wr.heap.size, 0, none⟩ 1 1 [.string (Q k), .string (U k)] rfl rfl (cell_two_new _ _ _ _) (by intro u hu; simp at hu; rcases hu with rfl | rfl <;> rfl) (by unfold maxLen; omega) (by omega) (by have := hBr.size; simp; omega) ?_; intro o' w7 hown4 hgrow4 _)
          go_roundw
          case rel =>
            refine ⟨k + 1, L ++ [(Q k, U k)], by omega, by go_num, Lib.hid ?_, by simp; omega, HN, ?_⟩
            · rw [List.length_append, List.length_singleton, ← mdVs_snoc]
              exact hown4
            · exact (hBr.alloc hBr.size _).grown hgrow4 (by have := hBr.size; simp; omega) hown.out
          case measure => simp [intOf]; omega
      · have HL : Hid (mdTs L = Y) := Lib.hid (by
          rw [← HBO.out]
          exact (hT.out.2 (by rw [mdF_length]; omega)).symm)
        have hfi := fun W => refFine_calls W
        unfold fltV at hfi
        have hnk : ¬ (k : Int) < (nx : Int) := by omega
        replace hfi := Lib.hid hfi
        clear hlt hT hLk hk hown hw1
        go_wp2_with fail
        refine (hfi.out _).mono ?_
        rintro e w8 ⟨rfl, hb⟩
        have hB8 := below_step hB (below_step hBr hb)
        obtain ⟨z0, z1, zf⟩ := hz.below (below_step hBr hb)
        have hO8 := ownsRow_kept hO.out hb
        have hne := own_ne (b := w.heap.size) hO8 hlt0
        have HFIN : Hid (∀ u0 u1 : Value, ModsAt ((w8.setCell ⟨w.heap.size, 0, none⟩ u0).setCell ⟨w.heap.size, 1, none⟩ u1) (.slice ao no co) Y) := Lib.hid (fun u0 u1 => by
          have hM := modsAt_own (w := (w8.setCell ⟨w.heap.size, 0, none⟩ u0).setCell ⟨w.heap.size, 1, none⟩ u1) (ownsRow_set (ownsRow_set hO8 hne u0) hne u1)
          rw [HL.out] at hM
          exact hM)
        clear hb hfi hne hO8 hnk
        go_wp2_with fail
        refine bodyPost_ret (v := .tuple #[(.slice ao no co), fltV (0, -1)]) (by simp [results, Tryz.results39, fltV, go_sem, *]) rfl ?_
        rw [HSE.out]
        exact ⟨⟨_, rfl, HFIN.out _ _⟩, (hB8.setCell (p := ⟨w.heap.size, 0, none⟩) (Nat.le_refl _) _).setCell (p := ⟨w.heap.size, 1, none⟩) (Nat.le_refl _) _⟩
  · have hc9 : (0 : Int) < (fc : Int) := by omega
    have hc8 : ((fc : Int) == 0) = false := beq_eq_false_iff_ne.2 (by omega)
    have HY := Lib.hid (hbe h0)
    obtain ⟨z0, z1, zf⟩ := id hz
    clear h0 hbe hse hbo
    go_wp2_with fail
    generalize w2.alloc (.cells #[.int .i64 (fc : Nat), .int .i64 fa] 49) = w3 at *
    generalize w2.heap.size = bx at *
    go_region
    all_goals
      go_wp2_with fail
      refine bodyPost_ret (v := .tuple #[.slice none 0 0, fltV (fc, fa)]) (by simp [results, Tryz.results39, fltV, go_sem, *]) rfl ?_
      rw [HY.out]
      exact ⟨⟨_, rfl, ModsAt.nil _⟩, (hB.drew.setCell (p := ⟨w.heap.size, 0, none⟩) (Nat.le_refl _) _).setCell (p := ⟨w.heap.size, 1, none⟩) (Nat.le_refl _) _⟩
end Go.Proofs.Pw

namespace Go.Proofs.Pw
open Go.RowKit
open Go.Lib hiding intOf
theorem ModsAt.flt {w : World} {b : Nat} {v : Value} {l : List Md} {x y : Int} (hm : ModsAt w v l) (hb : Box2 w b (.int .i64 x) (.int .i64 y)) (u0 u1 : Value) : ModsAt ((w.setCell ⟨b, 0, none⟩ u0).setCell ⟨b, 1, none⟩ u1) v l := by
  have key : ∀ (q : Addr) (s : ByteArray), w.cell? q = some (.string s) → ((w.setCell ⟨b, 0, none⟩ u0).setCell ⟨b, 1, none⟩ u1).cell? q = some (.string s) := fun q s hq => by
    rw [World.cell?_setCell_other _ _ _ _ (fun e => by rw [← e, hb.c1] at hq; cases hq), World.cell?_setCell_other _ _ _ _ (fun e => by rw [← e, hb.c0] at hq; cases hq)]
    exact hq
  obtain ⟨a, n, cap, P, V, e, e2, h3, h4, h5⟩ := hm
  exact ⟨a, n, cap, P, V, e, e2, h3, h4, fun j hj => let ⟨b', o', e', c0, c1⟩ := h5 j hj; ⟨b', o', e', key _ _ c0, key _ _ c1⟩⟩
theorem Box2.sto {w : World} {b : Nat} {u0 u1 : Value} (h : Box2 w b u0 u1) (v0 v1 : Value) : Box2 ((w.setCell ⟨b, 0, none⟩ v0).setCell ⟨b, 1, none⟩ v1) b v0 v1 := ⟨by rw [set_off _ (by decide)]; exact set_same _ h.c0, set_same _ (by rw [set_off _ (by decide)]; exact h.c1), fun j => by simp [h.fr j]⟩
theorem below_sto2 {B : Nat} {w W : World} (h : Below B w W) {b : Nat} (hb : B ≤ b) (u0 u1 : Value) : Below B w ((W.setCell ⟨b, 0, none⟩ u0).setCell ⟨b, 1, none⟩ u1) := (h.setCell (p := ⟨b, 0, none⟩) hb u0).setCell (p := ⟨b, 1, none⟩) hb u1
theorem FaultAt.flt {A : Nat → Addr} {w : World} {b : Nat} {v : Value} {r : Nat × Int} {x y : Int} (h : FaultAt A w v r) (hb : Box2 w b (.int .i64 x) (.int .i64 y)) (u0 u1 : Value) : FaultAt A ((w.setCell ⟨b, 0, none⟩ u0).setCell ⟨b, 1, none⟩ u1) v r := by
  rcases h with h | h | ⟨h, c, h1, h2, h3⟩
  · exact .inl h
  · exact .inr (.inl h)
  · have hne : c ≠ b := fun e => by
      subst e
      rw [hb.c1, errV_pos A h] at h3
      cases h3
    exact .inr (.inr ⟨h, c, h1, by rw [set_blk _ hne, set_blk _ hne]; exact h2, by rw [set_blk _ hne, set_blk _ hne]; exact h3⟩)
end Go.Proofs.Pw

namespace Go.Proofs.Pw
open Go.RowKit
open Go.Lib hiding intOf
set_option maxHeartbeats 4000000 in
set_option maxRecDepth 100000 in
theorem oneOf_in (a : Option Addr) (n cap : Nat) (P V : Nat → ByteArray) (R : Nat → List Md) (K : Nat → List Str) (B : Nat → Bool) (Rv Kv : Nat → Value) (rv : Value) (roots : List Md) (p v : ByteArray) (w : World) (h : EntsIn w a n cap P V R K B Rv Kv) (hr : ModsAt w rv roots) (hs : ShortI (enF n P V R K B)) (hl : roots.length ≤ 10000) :
    Calls Tryz.prog 50 #[.slice a n cap, rv, .agg #[.string p, .string v]] w fun e w' => (∃ x, e = .returned (.tuple #[x, fltV (oneErr (enF n P V R K B) roots (p.data.toList, v.data.toList))]) ∧ ModsAt w' x (oneR (enF n P V R K B) roots (p.data.toList, v.data.toList))) ∧ Below w.heap.size w w' := by
  obtain ⟨i0, hi, hz0, hz1, hz2⟩ := info_parts Tryz.infoMod
  obtain ⟨ar, rn, rc, _, _, rfl, _⟩ := id hr
  have hn : n ≤ 1000000 := by have := hs.len; rwa [enF_length] at this
  have hb1 := below_alloc w (.cells #[.string p, .string v] 38)
  have hb2 := below_alloc (w.alloc (.cells #[.string p, .string v] 38)) (.cells #[.int .i64 0, .int .i64 0] 49)
  have hB := below_step hb1 hb2
  have hp := (box2_alloc w (.string p) (.string v) 38).below hb2
  have hz := box2_alloc (w.alloc (.cells #[.string p, .string v] 38)) (.int .i64 0) (.int .i64 0) 49
  simp only [World.size_alloc] at hz
  have hbu := fun (W : World) (hb : Below w.heap.size w W) rv roots (hr : ModsAt W rv roots) (hl : roots.length ≤ 1000000) => buildOf_in a n cap P V R K B Rv Kv rv roots W (h.below hb) hr hs hl
  have hfo := fun (W : World) (hb : Below w.heap.size w W) => findOf_in a n cap P V R K B Rv Kv p v W (h.below hb) hn
  have HR := Lib.hid hr
  generalize enF n P V R K B = l at *
  have hbf := hbu _ hB _ _ (hr.below hB) (by omega)
  have HZ0 : Hid ((startErr l roots).1 ≠ 0 → oneErr l roots (p.data.toList, v.data.toList) = startErr l roots ∧ oneR l roots (p.data.toList, v.data.toList) = []) := Lib.hid (fun h0 => by
    have e : oneErr l roots (p.data.toList, v.data.toList) = startErr l roots := by unfold oneErr orE; rw [if_pos h0]
    exact ⟨e, by unfold oneR; rw [if_neg (by rw [e]; exact h0)]⟩)
  have HZ1 : Hid ((startErr l roots).1 = 0 → findE l (p.data.toList, v.data.toList) < 0 → oneErr l roots (p.data.toList, v.data.toList) = (5, -1) ∧ oneR l roots (p.data.toList, v.data.toList) = []) := Lib.hid (fun h0 h1 => by
    have e : oneErr l roots (p.data.toList, v.data.toList) = (5, -1) := by unfold oneErr orE; rw [if_neg (by simp [h0]), if_pos h1]
    exact ⟨e, by unfold oneR; rw [if_neg (by rw [e]; decide)]⟩)
  have HZ2 : Hid ((startErr l roots).1 = 0 → 0 ≤ findE l (p.data.toList, v.data.toList) → oneErr l roots (p.data.toList, v.data.toList) = (0, -1) ∧ oneR l roots (p.data.toList, v.data.toList) = buildR l (roots ++ [(p.data.toList, v.data.toList)]) ∧ startErr l (roots ++ [(p.data.toList, v.data.toList)]) = (0, -1)) := Lib.hid (fun h0 h1' => by
    have h1 : ¬ findE l (p.data.toList, v.data.toList) < 0 := by omega
    have e : oneErr l roots (p.data.toList, v.data.toList) = (0, -1) := by unfold oneErr orE; rw [if_neg (by simp [h0]), if_neg h1]
    have h2 := one_start h0 h1
    exact ⟨e, by unfold oneR buildR; rw [if_pos (by rw [e]), if_pos h2], startErr_at h2⟩)
  generalize oneErr l roots (p.data.toList, v.data.toList) = OE at *
  generalize oneR l roots (p.data.toList, v.data.toList) = OR at *
  generalize findE l (p.data.toList, v.data.toList) = x at *
  generalize startErr l roots = SE at *
  obtain ⟨fc, fa⟩ := SE
  unfold fltV at hbf
  simp only at hbf HZ0 HZ1 HZ2
  replace hbu := Lib.hid hbu
  replace hfo := Lib.hid hfo
  replace hbf := Lib.hid hbf
  clear h hr hs hb1 hb2
  go_enter Tryz.func50, Tryz.ntmps50
  go_wp2_with fail
  generalize hw0 : (w.alloc (.cells #[.string p, .string v] 38)).alloc (.cells #[.int .i64 0, .int .i64 0] 49) = w0 at *
  have hsw : w.heap.size + 1 < w0.heap.size := by rw [← hw0]; simp
  clear hw0
  refine hbf.out.mono ?_
  rintro e w2 ⟨⟨x2, rfl, hx2⟩, hb⟩
  obtain ⟨a2, n2, c2, _, _, rfl, -⟩ := id hx2
  have hba := below_alloc w2 (.cells #[.int .i64 (fc : Nat), .int .i64 fa] 49)
  have hy := box2_alloc w2 (.int .i64 (fc : Nat)) (.int .i64 fa) 49
  have hs2 : w.heap.size + 1 < w2.heap.size := Nat.lt_of_lt_of_le hsw hb.size
  replace hb := below_step hb hba
  replace hz := hz.below hb
  replace hp := hp.below hb
  replace hB := below_step hB hb
  obtain ⟨w3, hW⟩ : ∃ W, w2.alloc (.cells #[.int .i64 (fc : Nat), .int .i64 fa] 49) = W := ⟨_, rfl⟩
  rw [hW] at hy hz hp hB
  clear hb hba hbf hx2
  obtain ⟨x0, x1, xf⟩ := id hy
  have nx1 : w.heap.size + 1 ≠ w2.heap.size := by omega
  have nx2 : w2.heap.size ≠ w.heap.size + 1 := by omega
  by_cases h0 : fc = 0
  · have HH1 := Lib.hid (HZ1.out h0)
    have HH2 := Lib.hid (HZ2.out h0)
    have hff := hfo.out _ hB
    have hc9 : ¬ (0 : Int) < (fc : Int) := by omega
    obtain ⟨p0, p1, pf⟩ := id hp
    replace hff := Lib.hid hff
    clear HZ0 HZ1 HZ2 h0
    go_wp2_with fail
    refine hff.out.mono ?_
    rintro e w4 ⟨rfl, hb⟩
    replace hz := hz.below hb
    replace hp := hp.below hb
    replace hB := below_step hB hb
    clear hb hff x0 x1 xf hy nx1 nx2 p0 p1 pf hW
    by_cases hx : x < 0
    · have HF := Lib.hid (HH1.out hx)
      have hba := fun W => refBare_calls 5 W
      unfold fltV at hba
      replace hba := Lib.hid hba
      clear HH1 HH2
      go_wp2_with fail
      refine (hba.out _).mono ?_
      rintro e w8 ⟨rfl, hb⟩
      have hB8 := below_step hB hb
      obtain ⟨z0, z1, zf⟩ := hz.below hb
      clear hb hba
      go_wp2_with fail
      refine bodyPost_ret (v := .tuple #[.slice none 0 0, fltV (5, -1)]) (by simp [results, Tryz.results50, fltV, go_sem, *]) rfl ?_
      rw [HF.out.1, HF.out.2]
      exact ⟨⟨_, rfl, ModsAt.nil _⟩, below_sto2 hB8 (b := w.heap.size + 1) (by omega) _ _⟩
    · have hx' : 0 ≤ x := by omega
      have HF := Lib.hid (HH2.out hx')
      obtain ⟨o5, w5, hap5, ⟨L5, hL5, ho5⟩, hg5⟩ := app_mods w4 w4.heap.size (Nat.le_refl _) (.slice none 0 0) (.slice ar rn rc) [] roots (World.ownsRow_nil _ _ _ _) (HR.out.below hB) (by simp) (by omega)
      have hb5 : Below w4.heap.size w4 w5 := (Below.refl _ _).grown hg5 (Nat.le_refl _) (fun q hq => by cases hq)
      have hL5' : mdTs L5 = roots := by rw [hL5]; simp [mdTs]
      have hl5 : L5.length ≤ 10000 := by rw [← mdTs_length, hL5']; exact hl
      have HAP5 := Lib.hid hap5
      have HL5 := Lib.hid hL5'
      obtain ⟨a5, n5, c5, rfl⟩ := own_form ho5
      have HO5 := Lib.hid ho5
      obtain ⟨q0, q1, qf⟩ := hp.below hb5
      have hz5 := hz.below hb5
      have hB5 := below_step hB hb5
      clear HH1 HH2 hap5 hL5 hL5' hg5 ho5 hp
      go_wp2_with (at_builtin; first
        | (refine wpList_append_run rfl _ _ 23 rfl _ _ rfl rfl _ _ HAP5.out ?_)
        | (refine wpList_append_own _ rfl _ _ 23 rfl w4.heap.size 38 i0 (.agg #[.string ⟨#[]⟩, .string ⟨#[]⟩]) 2 32 Tryz.underlying23 hi hz0 hz1 hz2 rfl (by decide) _ _ _ rfl (HO5.out.alloc _) ⟨w5.heap.size, 0, none⟩ 1 1 [.string p, .string v] rfl rfl (cell_two_new _ _ _ _) (by intro u hu; simp at hu; rcases hu with rfl | rfl <;> rfl) (by unfold maxLen; omega) (by omega) (by have := hb5.size; simp; omega) ?_; intro o6 w6 hown6 hgrow6 _; have hM6 := own_snoc hown6; have hb6 : Below w4.heap.size w4 w6 := (hb5.alloc hb5.size _).grown hgrow6 (by have := hb5.size; simp; omega) (fun q hq => (HO5.out.lt q hq).1); replace hM6 := Lib.hid hM6; obtain ⟨a6, n6, c6, rfl⟩ := own_form hown6; replace hown6 := Lib.hid hown6; replace hgrow6 := Lib.hid hgrow6))
      have hM7 := hM6.out
      rw [HL5.out] at hM7
      have hbd := hbu.out w6 (below_step hB hb6) _ _ hM7 (by rw [List.length_append]; simp; omega)
      rw [HF.out.2.2] at hbd
      unfold fltV at hbd
      simp only at hbd
      have hz6 := hz.below hb6
      have hB6 := below_step hB hb6
      replace hbd := Lib.hid hbd
      clear hM7 hz5 hB5 q0 q1 qf
      refine hbd.out.mono ?_
      rintro e w7 ⟨⟨x7, rfl, hx7⟩, hb7⟩
      obtain ⟨a7, n7, c7, _, _, rfl, -⟩ := id hx7
      have hz7 := hz6.below hb7
      have HX7 := Lib.hid (fun u0 u1 => hx7.flt hz7 u0 u1)
      obtain ⟨z0, z1, zf⟩ := id hz7
      have hB7 := below_step hB6 hb7
      clear hx7 hb7 hbd hz6 hz
      go_wp2_with fail
      refine bodyPost_ret (v := .tuple #[(.slice a7 n7 c7), fltV (0, -1)]) (by simp [results, Tryz.results50, fltV, go_sem, *]) rfl ?_
      rw [HF.out.1, HF.out.2.1]
      exact ⟨⟨_, rfl, HX7.out _ _⟩, below_sto2 hB7 (b := w.heap.size + 1) (by omega) _ _⟩
  · have hc9 : (0 : Int) < (fc : Int) := by omega
    have hc8 : ((fc : Int) == 0) = false := beq_eq_false_iff_ne.2 (by omega)
    have HF := Lib.hid (HZ0.out h0)
    obtain ⟨z0, z1, zf⟩ := id hz
    clear h0 HZ0 HZ1 HZ2
    go_wp2_with fail
    clear hW
    go_region
    all_goals
      go_wp2_with fail
      refine bodyPost_ret (v := .tuple #[.slice none 0 0, fltV (fc, fa)]) (by simp [results, Tryz.results50, fltV, go_sem, *]) rfl ?_
      rw [HF.out.1, HF.out.2]
      exact ⟨⟨_, rfl, ModsAt.nil _⟩, below_sto2 hB.drew (b := w.heap.size + 1) (by omega) _ _⟩
end Go.Proofs.Pw

namespace Go.Proofs.Pw
open Go.RowKit
open Go.Lib hiding intOf
set_option maxHeartbeats 2000000 in
set_option maxRecDepth 100000 in
theorem rank_in (a : Option Addr) (n cap : Nat) (P V : Nat → ByteArray) (R : Nat → List Md) (K : Nat → List Str) (Bk : Nat → Bool) (Rv Kv : Nat → Value) (p s : ByteArray) (w : World) (h : EntsIn w a n cap P V R K Bk Rv Kv) (hn : n ≤ 1000000) (hs : s.size ≤ 1000000000) :
    Calls Tryz.prog 181 #[.slice a n cap, .string p, .string s] w fun e w' => e = .returned (.int .i64 (rankS (enF n P V R K Bk) p.data.toList s.data.toList : Nat)) ∧ Below w.heap.size w w' := by
  have hf := findOf_in a n cap P V R K Bk Rv Kv p s w h hn
  have hvo := fun W => refVerOf_calls s W hs
  have hB : backB (enF n P V R K Bk) p.data.toList s.data.toList = (decide (0 ≤ findE (enF n P V R K Bk) (p.data.toList, s.data.toList)) && (enAt (enF n P V R K Bk) (findE (enF n P V R K Bk) (p.data.toList, s.data.toList)).toNat).back) := rfl
  have hfn := fun h => findE_nat (l := enF n P V R K Bk) (m := (p.data.toList, s.data.toList)) h
  have hR : rankS (enF n P V R K Bk) p.data.toList s.data.toList = if backB (enF n P V R K Bk) p.data.toList s.data.toList = true then 0 else if (decide (verErr s.data.toList ≠ 0) || decide (0 < (verPre s.data.toList).length)) = true then 1 else 2 := rfl
  generalize findE (enF n P V R K Bk) (p.data.toList, s.data.toList) = x at hf hB hfn
  generalize rankS (enF n P V R K Bk) p.data.toList s.data.toList = RK at *
  generalize verPre s.data.toList = VP at *
  generalize verErr s.data.toList = VE at *
  generalize verNum s.data.toList 0 = N0 at *
  generalize verNum s.data.toList 1 = N1 at *
  generalize verNum s.data.toList 2 = N2 at *
  by_cases h0 : x < 0
  · have HR : Hid (RK = if (decide (VE ≠ 0) || decide (0 < VP.length)) = true then 1 else 2) := Lib.hid (by rw [hR, hB, decide_eq_false (by omega)]; rfl)
    have h0' : ¬ (0 : Int) ≤ x := by omega
    clear hfn hB hR
    replace hf := Lib.hid hf
    replace hvo := Lib.hid hvo
    go_enter Tryz.func181, Tryz.ntmps181
    go_wp2_with fail
    refine hf.out.mono ?_
    rintro e w1 ⟨rfl, hb⟩
    go_wp2_with fail
    refine (hvo.out _).mono ?_
    rintro e w2 ⟨⟨v, rfl, hv⟩, hb2⟩
    obtain ⟨a1, n1, c1, L1, rfl, rfl, _⟩ := hv
    rw [lstF_length] at HR
    have hba := below_alloc w2 (.cells #[.int .i64 (N0 : Nat), .int .i64 (N1 : Nat), .int .i64 (N2 : Nat), .slice a1 n1 c1] 108)
    replace hb2 := below_step hb2 hba
    by_cases h5 : VE = 0
    · subst h5
      by_cases h6 : 0 < n1
      · have h6' : (0 : Int) < (n1 : Int) := by omega
        have HR2 : Hid (RK = 1) := Lib.hid (by rw [HR.out]; simp [h6])
        clear HR
        go_wp2_with fail
        go_ret
        rw [HR2.out]
        exact ⟨rfl, below_step hb hb2⟩
      · have h6' : ¬ (0 : Int) < (n1 : Int) := by omega
        have HR2 : Hid (RK = 2) := Lib.hid (by rw [HR.out]; simp [h6])
        clear HR
        go_wp2_with fail
        go_ret
        rw [HR2.out]
        exact ⟨rfl, below_step hb hb2⟩
    · have h5' : (0 : Int) < (VE : Int) := by omega
      have HR2 : Hid (RK = 1) := Lib.hid (by rw [HR.out]; simp [h5])
      clear HR
      go_wp2_with fail
      go_ret
      rw [HR2.out]
      exact ⟨rfl, below_step hb hb2⟩
  · obtain ⟨k, rfl, hk, _⟩ := hfn h0
    rw [enF_length] at hk
    obtain ⟨b1, o1, rfl, hcell⟩ := h.at_ k hk
    have hB2 : backB (enF n P V R K Bk) p.data.toList s.data.toList = Bk k := by
      rw [hB, decide_eq_true (by omega), Bool.true_and]
      show (enAt (enF n P V R K Bk) k).back = _
      rw [enAt_enF hk]
    have h0' : (0 : Int) ≤ (k : Int) := by omega
    have hkn : (k : Int) < (n : Int) := by omega
    have c4 := hcell.c4
    rw [hB2] at hR
    clear hfn hB h0 hcell hB2
    generalize Bk k = X at c4 hR
    cases X with
    | true =>
      have HR : Hid (RK = 0) := Lib.hid (by rw [hR]; rfl)
      clear hR
      replace hf := Lib.hid hf
      go_enter Tryz.func181, Tryz.ntmps181
      go_wp2_with fail
      refine hf.out.mono ?_
      rintro e w1 ⟨rfl, hb⟩
      replace c4 := Below.cell_some hb c4
      go_wp2_with fail
      go_ret
      rw [HR.out]
      exact ⟨rfl, hb⟩
    | false =>
      have HR : Hid (RK = if (decide (VE ≠ 0) || decide (0 < VP.length)) = true then 1 else 2) := Lib.hid (by rw [hR]; rfl)
      clear hR
      replace hf := Lib.hid hf
      replace hvo := Lib.hid hvo
      go_enter Tryz.func181, Tryz.ntmps181
      go_wp2_with fail
      refine hf.out.mono ?_
      rintro e w1 ⟨rfl, hb⟩
      replace c4 := Below.cell_some hb c4
      go_wp2_with fail
      refine (hvo.out _).mono ?_
      rintro e w2 ⟨⟨v, rfl, hv⟩, hb2⟩
      obtain ⟨a1, n1, c1, L1, rfl, rfl, _⟩ := hv
      rw [lstF_length] at HR
      have hba := below_alloc w2 (.cells #[.int .i64 (N0 : Nat), .int .i64 (N1 : Nat), .int .i64 (N2 : Nat), .slice a1 n1 c1] 108)
      replace hb2 := below_step hb2 hba
      by_cases h5 : VE = 0
      · subst h5
        by_cases h6 : 0 < n1
        · have h6' : (0 : Int) < (n1 : Int) := by omega
          have HR2 : Hid (RK = 1) := Lib.hid (by rw [HR.out]; simp [h6])
          clear HR
          go_wp2_with fail
          go_ret
          rw [HR2.out]
          exact ⟨rfl, below_step hb hb2⟩
        · have h6' : ¬ (0 : Int) < (n1 : Int) := by omega
          have HR2 : Hid (RK = 2) := Lib.hid (by rw [HR.out]; simp [h6])
          clear HR
          go_wp2_with fail
          go_ret
          rw [HR2.out]
          exact ⟨rfl, below_step hb hb2⟩
      · have h5' : (0 : Int) < (VE : Int) := by omega
        have HR2 : Hid (RK = 1) := Lib.hid (by rw [HR.out]; simp [h5])
        clear HR
        go_wp2_with fail
        go_ret
        rw [HR2.out]
        exact ⟨rfl, below_step hb hb2⟩
set_option maxHeartbeats 2000000 in
set_option maxRecDepth 100000 in
theorem likedOf_in (a : Option Addr) (n cap : Nat) (P V : Nat → ByteArray) (R : Nat → List Md) (K : Nat → List Str) (Bk : Nat → Bool) (Rv Kv : Nat → Value) (p : ByteArray) (sv : Value) (l : List Str) (w : World) (h : EntsIn w a n cap P V R K Bk Rv Kv) (hn : n ≤ 1000000) (hv : StrsAt w sv l) (hl : l.length ≤ 1000000) (hls : ∀ x ∈ l, x.length ≤ 1000000) :
    Calls Tryz.prog 138 #[.slice a n cap, .string p, sv, .bool false] w fun e w' => e = .returned (.string ⟨(lastS (likedL (enF n P V R K Bk) p.data.toList l)).toArray⟩) ∧ Below w.heap.size w w' := by
  obtain ⟨sa, m, sc, L, rfl, rfl, _, _, hc⟩ := hv
  rw [lstF_length] at hl
  have hrk := fun (j : Nat) (hj : j < m) (W : World) (hb : Below w.heap.size w W) => rank_in a n cap P V R K Bk Rv Kv p (L j) W (h.below hb) hn (by
    have := hls _ (lstF_mem'.2 ⟨j, hj, rfl⟩)
    simp only [Array.length_toList] at this
    have e : (L j).size = (L j).data.size := rfl
    omega)
  rw [← latest_best]
  generalize rankS (enF n P V R K Bk) p.data.toList = rk at *
  replace hrk := Lib.hid hrk
  replace hc := Lib.hid hc
  clear h hls
  go_enter Tryz.func138, Tryz.ntmps138
  go_wp2_with fail
  go_loopw [9, 10, 11, 12] (fun b r i _ wr => ∃ (k : Nat) (T : Str) (z : Int), k ≤ m ∧ i = .int .i64 k ∧ b = .string ⟨T.toArray⟩ ∧ r = .int .i64 z ∧ Hid (bestS rk ((lstF m L).take k) ([], -1) = (T, z)) ∧ Below w.heap.size w wr) (fun _ _ i _ _ => m - (intOf i).toNat)
  case atStart => exact ⟨0, [], -1, Nat.zero_le _, rfl, rfl, rfl, Lib.hid rfl, Below.refl _ _⟩
  case round =>
    obtain ⟨k, T, z, hk, rfl, rfl, rfl, hT, hBr⟩ := hrel
    by_cases hlt : k < m
    · have hkn : (k : Int) < (m : Int) := by omega
      obtain ⟨b1, o1, ea, c0⟩ := hc.out k hlt
      replace c0 := Below.cell_some hBr c0
      subst ea
      have hf := hrk.out k hlt wr hBr
      have hst : bestS rk ((lstF m L).take (k + 1)) ([], -1) = if z ≤ (rk (L k).data.toList : Int) then ((L k).data.toList, (rk (L k).data.toList : Int)) else (T, z) := by
        rw [List.take_add_one, lstF_get m L k hlt]
        show bestS rk (_ ++ [_]) _ = _
        rw [bestS_snoc, hT.out]
      generalize rk (L k).data.toList = q at hf hst
      by_cases hzq : z ≤ (q : Int)
      · rw [if_pos hzq] at hst
        have HS : Hid (bestS rk ((lstF m L).take (k + 1)) ([], -1) = ((L k).data.toList, (q : Int))) := Lib.hid hst
        by_cases hz2 : z < (q : Int)
        · replace hf := Lib.hid hf
          clear hst hT hzq
          go_wp2_with fail
          refine hf.out.mono ?_
          rintro e w1 ⟨rfl, hb⟩
          replace hBr := below_step hBr hb
          replace c0 := Below.cell_some hb c0
          clear hb hf
          go_wp2_with fail
          go_roundw
          case rel => exact ⟨k + 1, _, _, by omega, by go_num, by rw [bytes_back], rfl, HS, hBr⟩
          case measure => simp [intOf]; omega
        · obtain rfl : z = (q : Int) := by omega
          replace hf := Lib.hid hf
          clear hst hT hzq
          go_wp2_with fail
          refine hf.out.mono ?_
          rintro e w1 ⟨rfl, hb⟩
          replace hBr := below_step hBr hb
          replace c0 := Below.cell_some hb c0
          clear hb hf
          go_wp2_with fail
          go_roundw
          case rel => exact ⟨k + 1, _, _, by omega, by go_num, by rw [bytes_back], rfl, HS, hBr⟩
          case measure => simp [intOf]; omega
      · rw [if_neg hzq] at hst
        have HS : Hid (bestS rk ((lstF m L).take (k + 1)) ([], -1) = (T, z)) := Lib.hid hst
        have hz2 : ¬ z < (q : Int) := by omega
        have hz3 : ((q : Int) == z) = false := beq_eq_false_iff_ne.2 (by omega)
        replace hf := Lib.hid hf
        clear hst hT hzq
        go_wp2_with fail
        refine hf.out.mono ?_
        rintro e w1 ⟨rfl, hb⟩
        replace hBr := below_step hBr hb
        clear hb hf c0
        go_wp2_with fail
        go_roundw
        case rel => exact ⟨k + 1, T, z, by omega, by go_num, rfl, rfl, HS, hBr⟩
        case measure => simp [intOf]; omega
    · have HF : Hid (bestS rk (lstF m L) ([], -1) = (T, z)) := Lib.hid (by
        rw [← hT.out, show k = m by omega, List.take_of_length_le (by rw [lstF_length]; exact Nat.le_refl _)])
      have hnk : ¬ (k : Int) < (m : Int) := by omega
      clear hT hlt
      go_wp2_with fail
      go_ret
      rw [HF.out]
      exact ⟨rfl, hBr⟩
theorem latestOf_in (a : Option Addr) (n cap : Nat) (P V : Nat → ByteArray) (R : Nat → List Md) (K : Nat → List Str) (Bk : Nat → Bool) (Rv Kv : Nat → Value) (p : ByteArray) (w : World) (h : EntsIn w a n cap P V R K Bk Rv Kv) (hs : ShortI (enF n P V R K Bk)) :
    Calls Tryz.prog 99 #[.slice a n cap, .string p] w fun e w' => e = .returned (.string ⟨(latestL (enF n P V R K Bk) p.data.toList).toArray⟩) ∧ Below w.heap.size w w' := by
  have hn : n ≤ 1000000 := by have := hs.len; rwa [enF_length] at this
  have h1 := refVersOf_in a n cap P V R K Bk Rv Kv p w h hs
  have h2 := fun W hb v g => likedOf_in a n cap P V R K Bk Rv Kv p v (vsort (versL (enF n P V R K Bk) p.data.toList)) W (h.below hb) hn g (by
    have := versL_size (p := p.data.toList) hs
    exact Nat.le_trans (vsort_len _) this.1) (fun x hx => (versL_size (p := p.data.toList) hs).2 x ((vsort_mem _ _).1 hx).1)
  show Calls _ _ _ _ fun e w' => e = .returned (.string ⟨(lastS (likedL (enF n P V R K Bk) p.data.toList (vsort (versL (enF n P V R K Bk) p.data.toList)))).toArray⟩) ∧ Below w.heap.size w w'
  generalize vsort (versL (enF n P V R K Bk) p.data.toList) = VS at *
  generalize lastS (likedL (enF n P V R K Bk) p.data.toList VS) = LS at *
  replace h1 := Lib.hid h1
  replace h2 := Lib.hid h2
  clear h hs
  go_enter Tryz.func99, Tryz.ntmps99
  go_wp2_with fail
  refine h1.out.mono ?_
  rintro e w1 ⟨⟨v, rfl, hv⟩, hb⟩
  have h3 := h2.out w1 hb v hv
  obtain ⟨a1, n1, c1, _, rfl, _⟩ := id hv
  replace h3 := Lib.hid h3
  clear hv
  go_wp2_with fail
  refine h3.out.mono ?_
  rintro e w2 ⟨rfl, hb2⟩
  go_wp2_with fail
  go_ret
  exact ⟨rfl, below_step hb hb2⟩
end Go.Proofs.Pw

namespace Go.Proofs.Pw
open Go.RowKit
open Go.Lib hiding intOf
set_option maxHeartbeats 8000000 in
set_option maxRecDepth 100000 in
theorem allOf_in (a : Option Addr) (n cap : Nat) (P V : Nat → ByteArray) (R : Nat → List Md) (K : Nat → List Str) (B : Nat → Bool) (Rv Kv : Nat → Value) (rv : Value) (roots : List Md) (w : World) (h : EntsIn w a n cap P V R K B Rv Kv) (hr : ModsAt w rv roots) (hs : ShortI (enF n P V R K B)) (hl : roots.length ≤ 10000) :
    Calls Tryz.prog 51 #[.slice a n cap, rv] w fun e w' => (∃ x, e = .returned (.tuple #[x, fltV (startErr (enF n P V R K B) roots)]) ∧ ModsAt w' x (allR (enF n P V R K B) roots)) ∧ Below w.heap.size w w' := by
  obtain ⟨i0, hi, hz0, hz1, hz2⟩ := info_parts Tryz.infoMod
  obtain ⟨ar, rn, rc, _, _, rfl, _⟩ := id hr
  have hB := below_alloc w (.cells #[.int .i64 0, .int .i64 0] 49)
  have hz := box2_alloc w (.int .i64 0) (.int .i64 0) 49
  have hbu := fun (W : World) (hb : Below w.heap.size w W) rv roots (hr : ModsAt W rv roots) (hl : roots.length ≤ 1000000) => buildOf_in a n cap P V R K B Rv Kv rv roots W (h.below hb) hr hs hl
  have hla := fun (p : ByteArray) (W : World) (hb : Below w.heap.size w W) => latestOf_in a n cap P V R K B Rv Kv p W (h.below hb) hs
  generalize enF n P V R K B = l at *
  have hbf := hbu _ hB _ _ (hr.below hB) (by omega)
  have HA0 : Hid ((startErr l roots).1 ≠ 0 → allR l roots = []) := Lib.hid (fun h0 => by unfold allR; rw [if_neg h0])
  have HA1 : Hid ((startErr l roots).1 = 0 → allR l roots = allF l (l.length + 1) (buildL l roots) ∧ startErr l roots = (0, -1) ∧ buildR l roots = buildL l roots) := Lib.hid (fun h0 => ⟨by unfold allR; rw [if_pos h0]; rfl, startErr_at h0, by unfold buildR; rw [if_pos h0]⟩)
  have HNX : Hid ((startErr l roots).1 = 0 → ∀ x, RightG l x → startErr l (x ++ latestM l x) = (0, -1) ∧ buildR l (x ++ latestM l x) = nextL l x) := Lib.hid (fun h0 x hx => by
    have h2 : (startErr l (x ++ latestM l x)).1 = 0 := by
      unfold startErr at h0 ⊢
      rw [orE_zero] at h0 ⊢
      exact ⟨h0.1, rootsErr_zero.2 (next_right hx).at_⟩
    exact ⟨startErr_at h2, by unfold buildR nextL; rw [if_pos h2]⟩)
  have HOK : Hid ((startErr l roots).1 = 0 → SelOk l (buildL l roots) ∧ (buildL l roots).length ≤ 100) := Lib.hid (fun h0 => ⟨build_ok (rightG_of h0), build_len (rightG_of h0)⟩)
  generalize startErr l roots = SE at *
  generalize allR l roots = AR at *
  generalize buildR l roots = BR at *
  generalize buildL l roots = BL at *
  obtain ⟨fc, fa⟩ := SE
  unfold fltV at hbf
  simp only at hbf HA0 HA1 HNX HOK
  replace hbu := Lib.hid hbu
  replace hla := Lib.hid hla
  replace hbf := Lib.hid hbf
  clear h hs hr hl
  go_enter Tryz.func51, Tryz.ntmps51
  go_wp2_with fail
  generalize hw0 : w.alloc (.cells #[.int .i64 0, .int .i64 0] 49) = w0 at *
  have hsw : w.heap.size < w0.heap.size := by rw [← hw0]; simp
  clear hw0
  refine hbf.out.mono ?_
  rintro e w1 ⟨⟨x1, rfl, hx1⟩, hb⟩
  obtain ⟨a1, n1, c1, _, _, rfl, -⟩ := id hx1
  have hba := below_alloc w1 (.cells #[.int .i64 (fc : Nat), .int .i64 fa] 49)
  have hy := box2_alloc w1 (.int .i64 (fc : Nat)) (.int .i64 fa) 49
  have hs1 : w.heap.size < w1.heap.size := Nat.lt_of_lt_of_le hsw hb.size
  replace hx1 := hx1.below hba
  replace hb := below_step hb hba
  replace hz := hz.below hb
  replace hB := below_step hB hb
  obtain ⟨w2, hW⟩ : ∃ W, w1.alloc (.cells #[.int .i64 (fc : Nat), .int .i64 fa] 49) = W := ⟨_, rfl⟩
  have hsz2 : w2.heap.size = w1.heap.size + 1 := by rw [← hW]; simp
  rw [hW] at hy hz hB hx1
  have hs2 : w.heap.size < w2.heap.size := by omega
  clear hb hba hbf hsw hsz2
  have nx1 : w.heap.size ≠ w1.heap.size := by omega
  have nx2 : w1.heap.size ≠ w.heap.size := by omega
  by_cases h0 : fc = 0
  · have H1 := HA1.out h0
    rw [H1.2.2] at hx1
    have HAR := Lib.hid (And.intro H1.1 H1.2.1)
    have HN := Lib.hid (HNX.out h0)
    have HOK1 := Lib.hid (HOK.out h0)
    have HX1 := Lib.hid hx1
    have hfz : ((fc : Int) == 0) = true := beq_iff_eq.2 (by omega)
    clear h0 H1 HA0 HA1 HNX HOK hx1
    go_wp2_with fail
    clear hW
    go_loopw [6, 8, 9, 10, 11, 12, 13] (fun s _ _ _ _ _ _ wr => ∃ x : List Md, Hid (ModsAt wr s x) ∧ Below w2.heap.size w2 wr ∧ Hid (SelOk l x ∧ x.length ≤ 100 ∧ allF l (l.length + 1) x = allF l (l.length + 1) BL)) (fun s _ _ _ _ _ _ W => farAt l W s)
    case atStart => exact ⟨BL, HX1, Below.refl _ _, Lib.hid ⟨HOK1.out.1, HOK1.out.2, rfl⟩⟩
    case round =>
      clear HX1
      obtain ⟨x, hX, hBr, hI⟩ := hrel
      have HX0 := Lib.hid hX.out
      obtain ⟨xa, xn, xc, Q, U, rfl, eX, _, _, hc⟩ := id hX.out
      have hxn : xn ≤ 100 := by have := hI.out.2.1; rwa [eX, mdF_length] at this
      obtain ⟨y0, y1, yf⟩ := hy.below hBr
      obtain ⟨o5, w5, hap5, ⟨L5, hL5, ho5⟩, hg5⟩ := app_mods wr wr.heap.size (Nat.le_refl _) (.slice none 0 0) (.slice xa xn xc) [] x (World.ownsRow_nil _ _ _ _) hX.out (by simp) (by have := hI.out.2.1; omega)
      have hb5 : Below wr.heap.size wr w5 := (Below.refl _ _).grown hg5 (Nat.le_refl _) (fun q hq => by cases hq)
      have hL5' : mdTs L5 = x := by rw [hL5]; simp [mdTs]
      have HL5 := Lib.hid hL5'
      have HAP5 := Lib.hid hap5
      have HO5 := Lib.hid ho5
      have HEX := Lib.hid eX
      replace hc := Lib.hid hc
      clear hap5 hL5 hL5' hg5 ho5 hX eX
      go_wp2_with (at_builtin; refine wpList_append_run rfl _ _ 23 rfl _ _ rfl rfl _ _ HAP5.out ?_)
      clear HAP5
      generalize hwp : wr = wp at *
      have HWP := Lib.hid hwp
      clear hwp
      go_loopw [8, 9, 10] (fun o i _ W => ∃ (k : Nat) (L : List (ByteArray × ByteArray)), k ≤ xn ∧ i = .int .i64 k ∧ Hid (W.ownsRow wp.heap.size 38 2 o L.length (mdVs L)) ∧ L.length ≤ 100 + k ∧ Hid (mdTs L = x ++ latestM l (x.take k)) ∧ Below wp.heap.size wp W) (fun _ i _ _ => xn - (intOf i).toNat)
      case atStart => exact ⟨0, L5, Nat.zero_le _, rfl, HO5, by rw [← mdTs_length, HL5.out]; exact hI.out.2.1, Lib.hid (by rw [HL5.out]; simp [latestM]), hb5⟩
      case round =>
        clear HO5
        obtain ⟨k, L, hk, rfl, hO, hLk, hT, hBk⟩ := hrel
        obtain ⟨ao, no, co, rfl⟩ := own_form hO.out
        have hBw := below_step hB (below_step hBr hBk)
        by_cases hlt : k < xn
        · have hkn : (k : Int) < (xn : Int) := by omega
          obtain ⟨b2, o2, eb, d0, d1⟩ := hc.out k hlt
          have HD := Lib.hid d0
          replace d0 := Below.cell_some hBk d0
          have hlk := hla.out (Q k) _ hBw
          obtain ⟨LX, hLX⟩ : ∃ LX : ByteArray, LX = ⟨(latestL l (Q k).data.toList).toArray⟩ := ⟨_, rfl⟩
          rw [← hLX] at hlk
          have HN2 : Hid (mdTs (L ++ [(Q k, LX)]) = x ++ latestM l (x.take (k + 1))) := Lib.hid (by
            rw [mdTs_sn, hT.out, HEX.out, mdF_take_succ xn Q U k hlt, latestM_snoc, hLX, List.append_assoc])
          subst eb
          replace hlk := Lib.hid hlk
          clear hLX hT d1
          go_wp2_with fail
          refine hlk.out.mono ?_
          rintro e w6 ⟨rfl, hb⟩
          have hO6 := hO.out.below hb
          have hBk6 := below_step hBk hb
          have d0 := Below.cell_some hBk6 HD.out
          have HO := Lib.hid hO6
          have hown := Lib.hid (fun q (e : (Value.slice ao no co).ownBlock = some q) => (hO6.lt q e).1)
          clear hb hlk hO hO6
          go_wp2_with (at_builtin; refine wpList_append_own _ rfl _ _ 23 rfl wp.heap.size 38 i0 (.agg #[.string ⟨#[]⟩, .string ⟨#[]⟩]) 2 32 Tryz.underlying23 hi hz0 hz1 hz2 rfl (by decide) _ _ _ rfl (HO.out.alloc _) ⟨w6.heap.size, 0, none⟩ 1 1 [.string (Q k), .string LX] rfl rfl (cell_two_new _ _ _ _) (by intro u hu; simp at hu; rcases hu with rfl | rfl <;> rfl) (by unfold maxLen; omega) (by omega) (by have := hBk6.size; simp; omega) ?_; intro o' w7 hown4 hgrow4 _)
          go_roundw
          case rel =>
            refine ⟨k + 1, L ++ [(Q k, LX)], by omega, by go_num, Lib.hid ?_, by simp; omega, HN2, ?_⟩
            · rw [List.length_append, List.length_singleton, ← mdVs_snoc]
              exact hown4
            · exact (hBk6.alloc hBk6.size _).grown hgrow4 (by have := hBk6.size; simp; omega) hown.out
          case measure => simp [intOf]; omega
        · have hTA : mdTs L = x ++ latestM l x := by
            rw [hT.out, List.take_of_length_le (by rw [HEX.out, mdF_length]; omega)]
          have hM := modsAt_own hO.out
          rw [hTA] at hM
          have hbd := hbu.out _ hBw _ _ hM (by rw [List.length_append, latestM_len]; have := hI.out.2.1; omega)
          rw [(HN.out x hI.out.1.right).1, (HN.out x hI.out.1.right).2] at hbd
          unfold fltV at hbd
          simp only at hbd
          have hnk : ¬ (k : Int) < (xn : Int) := by omega
          replace hbd := Lib.hid hbd
          clear hT hTA hM hlt hO
          go_wp2_with fail
          refine hbd.out.mono ?_
          rintro e w8 ⟨⟨x8, rfl, hx8⟩, hb8⟩
          have hba := below_alloc w8 (.cells #[.int .i64 0, .int .i64 (-1)] 49)
          have hg := box2_alloc w8 (.int .i64 0) (.int .i64 (-1)) 49
          have hx9 := hx8.below hba
          have hb9 := below_step hb8 hba
          have hBk9 := below_step hBk hb9
          have hBr9 := below_step hBr hBk9
          have hB9 := below_step hB hBr9
          have hsz8 := (below_step (below_step hBr hBk) hb8).size
          have hXw := HX0.out.below hBk9
          obtain ⟨w9, hW9⟩ : ∃ W, w8.alloc (.cells #[.int .i64 0, .int .i64 (-1)] 49) = W := ⟨_, rfl⟩
          rw [hW9] at hg hx9 hBr9 hB9 hXw
          have hsm := sameMods_calls _ _ _ _ w9 hx9 hXw
          obtain ⟨a8, n8, c8, _, _, rfl, -⟩ := id hx9
          have HX9 := Lib.hid hx9
          by_cases hst : nextL l x = x
          · rw [decide_eq_true hst] at hsm
            have HF : Hid (AR = nextL l x) := Lib.hid (by rw [HAR.out.1, ← hI.out.2.2, hst, allF_stop hst])
            replace hsm := Lib.hid hsm
            clear hx8 hx9 hXw hb8 hbd hst hba hb9 hBk9
            go_wp2_with fail
            clear hW9
            refine hsm.out.mono ?_
            rintro e w10 ⟨rfl, hb⟩
            have hz10 := (hz.below hBr9).below hb
            have hg10 := hg.below hb
            have HX10 := Lib.hid (fun u0 u1 => (HX9.out.below hb).flt hz10 u0 u1)
            have hB10 := below_step hB9 hb
            have nx3 : w.heap.size ≠ w8.heap.size := by omega
            have nx4 : w8.heap.size ≠ w.heap.size := fun e => nx3 e.symm
            obtain ⟨z0, z1, zf⟩ := id hz10
            obtain ⟨g0, g1, gf⟩ := id hg10
            clear hb hsm y0 y1 yf
            go_wp2_with fail
            go_region
            all_goals
              go_wp2_with fail
              refine bodyPost_ret (v := .tuple #[(.slice a8 n8 c8), fltV (0, -1)]) (by simp [results, Tryz.results51, fltV, go_sem, *]) rfl ?_
              rw [HF.out, HAR.out.2]
              exact ⟨⟨_, rfl, HX10.out _ _⟩, below_sto2 hB10.drew (b := w.heap.size) (Nat.le_refl _) _ _⟩
          · rw [decide_eq_false hst] at hsm
            have HST := Lib.hid hst
            replace hsm := Lib.hid hsm
            clear hx8 hx9 hXw hb8 hbd hst hba hb9 hBk9
            go_wp2_with fail
            clear hW9
            refine hsm.out.mono ?_
            rintro e w10 ⟨rfl, hb⟩
            obtain ⟨g0, g1, gf⟩ := hg.below hb
            clear hsm y0 y1 yf
            go_wp2_with fail
            go_roundw
            case rel =>
              refine ⟨nextL l x, Lib.hid (HX9.out.below hb), below_step hBr9 hb, Lib.hid ⟨next_ok hI.out.1.right, next_len hI.out.1.right, ?_⟩⟩
              rw [← hI.out.2.2]
              have h3 := weight_lt hI.out.1 (next_ok hI.out.1.right) (next_over hI.out.1.right) HST.out
              have h4 := weight_le l (nextL l x)
              have h5 : allF l (l.length + 1) x = allF l l.length (nextL l x) := by rw [allF, if_neg HST.out]
              rw [h5]
              exact allF_fuel _ _ (next_ok hI.out.1.right) (by omega) (by omega)
            case measure =>
              rw [HWP.out]
              exact farAt_lt HX0.out (HX9.out.below hb) hI.out.1 HST.out
  · have HF := Lib.hid (HA0.out h0)
    have hfz : ((fc : Int) == 0) = false := beq_eq_false_iff_ne.2 (by omega)
    clear h0 HA0 HA1 HNX HOK hx1
    go_wp2_with fail
    clear hW
    go_loopw [6] (fun _ wr => wr = w2) (fun _ _ => 0)
    case atStart => rfl
    case round =>
      subst hrel
      obtain ⟨x0, x1', xf⟩ := id hy
      obtain ⟨z0, z1, zf⟩ := id hz
      go_wp2_with fail
      go_region
      all_goals
        go_wp2_with fail
        refine bodyPost_ret (v := .tuple #[.slice none 0 0, fltV (fc, fa)]) (by simp [results, Tryz.results51, fltV, go_sem, *]) rfl ?_
        rw [HF.out]
        exact ⟨⟨_, rfl, ModsAt.nil _⟩, below_sto2 hB.drew (b := w.heap.size) (Nat.le_refl _) _ _⟩
end Go.Proofs.Pw

namespace Go.Proofs.Pw
open Go.RowKit
open Go.Lib hiding intOf
theorem riseB_all {n : Nat} {P V : Nat → ByteArray} (h : ∀ j, 0 < j → j < n → ¬ compareBytes (P j).data.toList (P (j - 1)).data.toList ≤ 0) : riseB (mdF n P V) = true := by
  unfold riseB
  rw [List.all_eq_true, mdF_length]
  intro i hi
  have hi := List.mem_range.1 hi
  rw [mdAt_mdF (show i < n by omega), mdAt_mdF (show i + 1 < n by omega)]
  have := h (i + 1) (by omega) (by omega)
  rw [Nat.add_sub_cancel] at this
  have h2 := compareBytes_ord.anti (P i).data.toList (P (i + 1)).data.toList
  exact decide_eq_true (h2.2 (by omega))
theorem riseB_not {n : Nat} {P V : Nat → ByteArray} {j : Nat} (hj : j + 1 < n) (h : compareBytes (P (j + 1)).data.toList (P j).data.toList ≤ 0) : riseB (mdF n P V) = false := by
  unfold riseB
  rw [List.all_eq_false]
  refine ⟨j, List.mem_range.2 (by rw [mdF_length]; omega), ?_⟩
  rw [mdAt_mdF (show j < n by omega), mdAt_mdF hj]
  have h2 := compareBytes_ord.anti (P j).data.toList (P (j + 1)).data.toList
  simp only [decide_eq_true_eq]
  intro h3
  have := h2.1 h3
  omega
set_option maxHeartbeats 4000000 in
set_option maxRecDepth 100000 in
theorem risePaths_calls (v : Value) (l : List Md) (w : World) (h : ModsAt w v l) (hl : l.length ≤ 1000000) :
    Calls Tryz.prog 92 #[v] w fun e w' => e = .returned (.bool (riseB l)) ∧ Below w.heap.size w w' := by
  obtain ⟨a, n, cap, P, V, rfl, rfl, hnc, hcap, hc⟩ := h
  rw [mdF_length] at hl
  replace hc := Lib.hid hc
  have HL := Lib.hid hl
  clear hl
  go_enter Tryz.func92, Tryz.ntmps92
  go_wp2_with fail
  go_loopw [3] (fun x wr => ∃ q : Nat, (q + 1 ≤ n ∨ q = 0) ∧ x = .int .i64 ((q + 1 : Nat) : Int) ∧ Below w.heap.size w wr ∧ Hid (∀ j, 0 < j → j < q + 1 → ¬ compareBytes (P j).data.toList (P (j - 1)).data.toList ≤ 0)) (fun x _ => n - (intOf x).toNat)
  case atStart => exact ⟨0, .inr rfl, rfl, Below.refl _ _, Lib.hid (fun j h1 h2 => by omega)⟩
  case round =>
    obtain ⟨q, hq, rfl, hBk, HA⟩ := hrel
    have hl := HL.out
    by_cases hlt : q + 1 < n
    · have hkn : ((q + 1 : Nat) : Int) < (n : Int) := by omega
      have hk1 : ((q + 1 : Nat) : Int) - 1 = (q : Int) := by omega
      have hkw := wrap_nat q (by omega)
      have hkw1 := wrap_nat (q + 1) (by omega)
      have hkn2 : (q : Int) < (n : Int) := by omega
      have hkn3 : (q : Int) + 1 < (n : Int) := by omega
      have hkn4 : ((q : Int) + 1).toNat = q + 1 := by omega
      have hkn5 : (0 : Int) ≤ (q : Int) + 1 := by omega
      have hkn6 : ¬ ((q : Int) + 1 < 0) := by omega
      obtain ⟨b2, o2, e3, d0, _⟩ := hc.out (q + 1) hlt
      obtain ⟨b3, o3, e4, d1, _⟩ := hc.out q (by omega)
      rw [e3] at e4
      injection e4 with e4
      injection e4 with e5 e6
      subst e5 e6
      subst e3
      replace d0 := Below.cell_some hBk d0
      replace d1 := Below.cell_some hBk d1
      have hle := leq_eq (P (q + 1)) (P q)
      by_cases hc0 : compareBytes (P (q + 1)).data.toList (P q).data.toList ≤ 0
      · rw [decide_eq_true hc0] at hle
        have HF := Lib.hid (riseB_not (V := V) hlt hc0)
        clear hc0 hl hq
        go_wp2_with fail
        have kqd0 := fun d os => cell_patch (d := d) (os := os) d0
        have kqd1 := fun d os => cell_patch (d := d) (os := os) d1
        refine wp_region_quiet_patch (by kernel_rfl) (by kernel_rfl) ?_
        repeat (go_big_quiet_step (fail))
        refine wpQuiet_nil ?_
        intro _ hw'
        obtain ⟨⟨dq, osq⟩, hw''⟩ := hw'
        subst hw''
        clear kqd0 kqd1
        have hb := below_patch wr dq osq
        replace hBk := below_step hBk hb
        clear hb
        generalize patch wr dq osq = wq1 at hBk ⊢
        go_wp2_with fail
        go_ret
        rw [HF.out]
        exact ⟨rfl, hBk⟩
      · rw [decide_eq_false hc0] at hle
        have HN : Hid (∀ j, 0 < j → j < q + 1 + 1 → ¬ compareBytes (P j).data.toList (P (j - 1)).data.toList ≤ 0) := Lib.hid (fun j h1 h2 => by
          by_cases e : j = q + 1
          · subst e; exact hc0
          · exact HA.out j h1 (by omega))
        clear hc0 hl hq
        go_wp2_with fail
        have kqd0 := fun d os => cell_patch (d := d) (os := os) d0
        have kqd1 := fun d os => cell_patch (d := d) (os := os) d1
        refine wp_region_quiet_patch (by kernel_rfl) (by kernel_rfl) ?_
        repeat (go_big_quiet_step (fail))
        refine wpQuiet_nil ?_
        intro _ hw'
        obtain ⟨⟨dq, osq⟩, hw''⟩ := hw'
        subst hw''
        clear kqd0 kqd1
        have hb := below_patch wr dq osq
        replace hBk := below_step hBk hb
        clear hb
        generalize patch wr dq osq = wq1 at hBk ⊢
        go_wp2_with fail
        go_roundw
        case rel => exact ⟨q + 1, .inl (by omega), by go_num, hBk, Lib.hid (fun j h1 h2 => by have := HN.out j h1 h2; omega)⟩
        case measure => simp [intOf]; omega
    · have HF : Hid (riseB (mdF n P V) = true) := Lib.hid (riseB_all (fun j h1 h2 => HA.out j h1 (by omega)))
      have hnk : ¬ ((q + 1 : Nat) : Int) < (n : Int) := by omega
      have hnk2 : ¬ (q : Int) + 1 < (n : Int) := by omega
      clear hlt hl hq
      go_wp2_with fail
      go_ret
      rw [HF.out]
      exact ⟨rfl, hBk⟩
end Go.Proofs.Pw

namespace Go.Proofs.Pw
open Go.RowKit
open Go.Lib hiding intOf
set_option maxHeartbeats 4000000 in
set_option maxRecDepth 100000 in
theorem newsOf_in (a : Option Addr) (n cap : Nat) (P V : Nat → ByteArray) (R : Nat → List Md) (K : Nat → List Str) (B : Nat → Bool) (Rv Kv : Nat → Value) (sv : Value) (sel : List Md) (w : World) (h : EntsIn w a n cap P V R K B Rv Kv) (hv : ModsAt w sv sel) (hs : ShortI (enF n P V R K B)) (hl : sel.length ≤ 10000) (hss : ∀ m ∈ sel, m.2.length ≤ 1000000) :
    Calls Tryz.prog 52 #[.slice a n cap, sv] w fun e w' => (∃ x, e = .returned (.tuple #[x, fltV (newsErr (enF n P V R K B) sel)]) ∧ ModsAt w' x (newsR (enF n P V R K B) sel)) ∧ Below w.heap.size w w' := by
  obtain ⟨i0, hi, hz0, hz1, hz2⟩ := info_parts Tryz.infoMod
  have hB := below_alloc w (.cells #[.int .i64 0, .int .i64 0] 49)
  have hz := box2_alloc w (.int .i64 0) (.int .i64 0) 49
  have hif := indexFault_in a n cap P V R K B Rv Kv _ (h.below hB) hs
  have hla := fun (p : ByteArray) (W : World) (hb : Below w.heap.size w W) => latestOf_in a n cap P V R K B Rv Kv p W (h.below hb) hs
  have hri := fun (W : World) (hb : Below w.heap.size w W) => risePaths_calls sv sel W (hv.below hb) (by omega)
  obtain ⟨sa, m, sc, Q, U, rfl, e2, _, _, hc⟩ := id hv
  have hm : m ≤ 10000 := by rw [e2, mdF_length] at hl; exact hl
  have hlz := fun p => latestL_size hs p
  generalize enF n P V R K B = l at *
  have HSZ : Hid (∀ j, j < m → (U j).size ≤ 1000000) := Lib.hid (fun j hj => by
    have h2 := hss _ (by rw [e2]; exact List.mem_of_getElem? (mdF_get m Q U j hj))
    simp only [Array.length_toList] at h2
    exact h2)
  have HLZ : Hid (∀ j, (⟨(latestL l (Q j).data.toList).toArray⟩ : ByteArray).size ≤ 1000000) := Lib.hid (fun j => by
    have := hlz (Q j).data.toList
    simpa [ByteArray.size] using this)
  have HNE : Hid (newsErr l sel = orE (idxErr l) (if riseB sel = true then (0, -1) else (8, -1)) ∧ ((newsErr l sel).1 ≠ 0 → newsR l sel = []) ∧ ((newsErr l sel).1 = 0 → newsR l sel = newsL l sel)) := Lib.hid ⟨rfl, fun h0 => by unfold newsR; rw [if_neg h0], fun h0 => by unfold newsR; rw [if_pos h0]⟩
  have HSE := Lib.hid e2
  generalize newsErr l sel = NE at *
  generalize newsR l sel = NR at *
  generalize riseB sel = RB at *
  generalize idxErr l = IE at *
  obtain ⟨fc, fa⟩ := IE
  unfold fltV at hif
  simp only at hif
  replace hif := Lib.hid hif
  replace hla := Lib.hid hla
  replace hri := Lib.hid hri
  replace hc := Lib.hid hc
  clear h hs hl hss hlz e2 hv
  go_enter Tryz.func52, Tryz.ntmps52
  go_wp2_with fail
  generalize hw0 : w.alloc (.cells #[.int .i64 0, .int .i64 0] 49) = w0 at *
  have hsw : w.heap.size < w0.heap.size := by rw [← hw0]; simp
  clear hw0
  refine hif.out.mono ?_
  rintro e w1 ⟨rfl, hb⟩
  have hba := below_alloc w1 (.cells #[.int .i64 (fc : Nat), .int .i64 fa] 49)
  have hy := box2_alloc w1 (.int .i64 (fc : Nat)) (.int .i64 fa) 49
  have hs1 : w.heap.size < w1.heap.size := Nat.lt_of_lt_of_le hsw hb.size
  replace hb := below_step hb hba
  replace hz := hz.below hb
  replace hB := below_step hB hb
  obtain ⟨w2, hW⟩ : ∃ W, w1.alloc (.cells #[.int .i64 (fc : Nat), .int .i64 fa] 49) = W := ⟨_, rfl⟩
  have hsz2 : w2.heap.size = w1.heap.size + 1 := by rw [← hW]; simp
  rw [hW] at hy hz hB
  have hs2 : w.heap.size < w2.heap.size := by omega
  clear hb hba hif hsw hsz2
  obtain ⟨x0, x1, xf⟩ := id hy
  have nx1 : w.heap.size ≠ w1.heap.size := by omega
  have nx2 : w1.heap.size ≠ w.heap.size := by omega
  by_cases h0 : fc = 0
  · have hc9 : ¬ (0 : Int) < (fc : Int) := by omega
    have hr3 := hri.out _ hB
    have HO0 := Lib.hid h0
    replace hr3 := Lib.hid hr3
    clear h0
    go_wp2_with fail
    clear hW x0 x1 xf hy nx1 nx2
    refine hr3.out.mono ?_
    rintro e w3 ⟨rfl, hb⟩
    replace hz := hz.below hb
    replace hB := below_step hB hb
    have hs3 : w.heap.size < w3.heap.size := Nat.lt_of_lt_of_le hs2 hb.size
    clear hb hr3
    cases RB with
    | false =>
      have HF : Hid (NE = (8, -1) ∧ NR = []) := Lib.hid (by
        have e : NE = (8, -1) := by rw [HNE.out.1]; unfold orE; rw [if_neg (by simp [HO0.out])]; rfl
        exact ⟨e, HNE.out.2.1 (by rw [e]; decide)⟩)
      have hbe := fun W => refBare_calls 8 W
      unfold fltV at hbe
      replace hbe := Lib.hid hbe
      clear HNE
      go_wp2_with fail
      refine (hbe.out _).mono ?_
      rintro e w8 ⟨rfl, hb⟩
      have hB8 := below_step hB hb
      obtain ⟨z0, z1, zf⟩ := hz.below hb
      clear hb hbe
      go_wp2_with fail
      refine bodyPost_ret (v := .tuple #[.slice none 0 0, fltV (8, -1)]) (by simp [results, Tryz.results52, fltV, go_sem, *]) rfl ?_
      rw [HF.out.1, HF.out.2]
      exact ⟨⟨_, rfl, ModsAt.nil _⟩, below_sto2 hB8 (b := w.heap.size) (Nat.le_refl _) _ _⟩
    | true =>
      have HF : Hid (NE = (0, -1) ∧ NR = newsL l (mdF m Q U)) := Lib.hid (by
        have e : NE = (0, -1) := by rw [HNE.out.1]; unfold orE; rw [if_neg (by simp [HO0.out])]; rfl
        exact ⟨e, by rw [HNE.out.2.2 (by rw [e]), HSE.out]⟩)
      clear HNE
      go_wp2_with fail
      go_loopw [8, 9, 10, 11] (fun o i _ _ wr => ∃ (k : Nat) (L : List (ByteArray × ByteArray)), k ≤ m ∧ i = .int .i64 k ∧ Hid (wr.ownsRow w3.heap.size 38 2 o L.length (mdVs L)) ∧ L.length ≤ k ∧ Hid (mdTs L = newsL l ((mdF m Q U).take k)) ∧ Below w3.heap.size w3 wr) (fun _ i _ _ _ => m - (intOf i).toNat)
      case atStart => exact ⟨0, [], Nat.zero_le _, rfl, Lib.hid (World.ownsRow_nil _ _ _ _), Nat.le_refl _, Lib.hid rfl, Below.refl _ _⟩
      case round =>
        obtain ⟨k, L, hk, rfl, hO, hLk, hT, hBr⟩ := hrel
        obtain ⟨ao, no, co, rfl⟩ := own_form hO.out
        have hBw := below_step hB hBr
        by_cases hlt : k < m
        · have hkn : (k : Int) < (m : Int) := by omega
          obtain ⟨b2, o2, eb, d0, d1⟩ := hc.out k hlt
          have HD := Lib.hid (And.intro d0 d1)
          replace d0 := Below.cell_some hBw d0
          have hlz := HLZ.out k
          have hnb : newsB l ((Q k).data.toList, (U k).data.toList) = verLess (U k).data.toList (latestL l (Q k).data.toList) := rfl
          have hTk : newsL l ((mdF m Q U).take (k + 1)) = newsL l ((mdF m Q U).take k) ++ (if newsB l ((Q k).data.toList, (U k).data.toList) = true then [((Q k).data.toList, latestL l (Q k).data.toList)] else []) := by
            rw [mdF_take_succ m Q U k hlt, newsL_snoc]
          have hlk := hla.out (Q k) wr hBw
          obtain ⟨LX, hLX⟩ : ∃ LX : ByteArray, LX = ⟨(latestL l (Q k).data.toList).toArray⟩ := ⟨_, rfl⟩
          have hLX2 : latestL l (Q k).data.toList = LX.data.toList := by rw [hLX]
          rw [← hLX] at hlk hlz
          rw [hLX2] at hnb hTk
          have hls := fun W => isLess_calls (U k) LX W (by have := HSZ.out k hlt; omega) (by omega)
          rw [← hnb] at hls
          subst eb
          generalize newsB l ((Q k).data.toList, (U k).data.toList) = NB at *
          cases NB with
          | true =>
            have HN : Hid (mdTs (L ++ [(Q k, LX)]) = newsL l ((mdF m Q U).take (k + 1))) := Lib.hid (by rw [hTk, if_pos rfl, mdTs_sn, hT.out])
            replace hls := Lib.hid hls
            replace hlk := Lib.hid hlk
            clear hTk hnb hLX hLX2 hT d1
            go_wp2_with fail
            refine hlk.out.mono ?_
            rintro e w4 ⟨rfl, hb⟩
            have hO4 := hO.out.below hb
            replace hBr := below_step hBr hb
            have hBw := below_step hB hBr
            have d1 := Below.cell_some hBw HD.out.2
            clear hb hlk hO d0
            go_wp2_with fail
            refine (hls.out _).mono ?_
            rintro e w5 ⟨rfl, hb⟩
            have hO5 := hO4.below hb
            replace hBr := below_step hBr hb
            have hBw := below_step hB hBr
            have d0 := Below.cell_some hBw HD.out.1
            have HO := Lib.hid hO5
            have hown := Lib.hid (fun q (e : (Value.slice ao no co).ownBlock = some q) => (hO5.lt q e).1)
            clear hb hls hO4 hO5 d1
            go_wp2_with (at_builtin; refine wpList_append_own _ rfl _ _ 23 rfl w3.heap.size 38 i0 (.agg #[.string ⟨#[]⟩, .string ⟨#[]⟩]) 2 32 Tryz.underlying23 hi hz0 hz1 hz2 rfl (by decide) _ _ _ rfl (HO.out.alloc _) ⟨w5.heap.size, 0, none⟩ 1 1 [.string (Q k), .string LX] rfl rfl (cell_two_new _ _ _ _) (by intro u hu; simp at hu; rcases hu with rfl | rfl <;> rfl) (by unfold maxLen; omega) (by omega) (by have := hBr.size; simp; omega) ?_; intro o' w6 hown4 hgrow4 _)
            go_roundw
            case rel =>
              refine ⟨k + 1, L ++ [(Q k, LX)], by omega, by go_num, Lib.hid ?_, by simp; omega, HN, ?_⟩
              · rw [List.length_append, List.length_singleton, ← mdVs_snoc]
                exact hown4
              · exact (hBr.alloc hBr.size _).grown hgrow4 (by have := hBr.size; simp; omega) hown.out
            case measure => simp [intOf]; omega
          | false =>
            have HN : Hid (mdTs L = newsL l ((mdF m Q U).take (k + 1))) := Lib.hid (by rw [hTk, if_neg (by decide), List.append_nil, hT.out])
            replace hls := Lib.hid hls
            replace hlk := Lib.hid hlk
            clear hTk hnb hLX hLX2 hT d1
            go_wp2_with fail
            refine hlk.out.mono ?_
            rintro e w4 ⟨rfl, hb⟩
            have hO4 := hO.out.below hb
            replace hBr := below_step hBr hb
            have hBw := below_step hB hBr
            have d1 := Below.cell_some hBw HD.out.2
            clear hb hlk hO d0
            go_wp2_with fail
            refine (hls.out _).mono ?_
            rintro e w5 ⟨rfl, hb⟩
            have HO := Lib.hid (hO4.below hb)
            replace hBr := below_step hBr hb
            clear hb hls hO4 d1
            go_wp2_with fail
            go_roundw
            case rel => exact ⟨k + 1, L, by omega, by go_num, HO, by omega, HN, hBr⟩
            case measure => simp [intOf]; omega
        · have HT : Hid (mdTs L = NR) := Lib.hid (by rw [hT.out, show k = m by omega, mdF_take_all, HF.out.2])
          have hfi := fun W => refFine_calls W
          unfold fltV at hfi
          have hnk : ¬ (k : Int) < (m : Int) := by omega
          replace hfi := Lib.hid hfi
          clear hT hlt
          go_wp2_with fail
          refine (hfi.out _).mono ?_
          rintro e w8 ⟨rfl, hb⟩
          have hB8 := below_step hBw hb
          obtain ⟨z0, z1, zf⟩ := (hz.below hBr).below hb
          have hO8 := ownsRow_kept hO.out hb
          have hne := own_ne (b := w.heap.size) hO8 hs3
          have HFIN : Hid (∀ u0 u1 : Value, ModsAt ((w8.setCell ⟨w.heap.size, 0, none⟩ u0).setCell ⟨w.heap.size, 1, none⟩ u1) (.slice ao no co) NR) := Lib.hid (fun u0 u1 => by
            have hM := modsAt_own (w := (w8.setCell ⟨w.heap.size, 0, none⟩ u0).setCell ⟨w.heap.size, 1, none⟩ u1) (ownsRow_set (ownsRow_set hO8 hne u0) hne u1)
            rw [HT.out] at hM
            exact hM)
          clear hb hfi hne hO8 hnk
          go_wp2_with fail
          refine bodyPost_ret (v := .tuple #[(.slice ao no co), fltV (0, -1)]) (by simp [results, Tryz.results52, fltV, go_sem, *]) rfl ?_
          rw [HF.out.1]
          exact ⟨⟨_, rfl, HFIN.out _ _⟩, below_sto2 hB8 (b := w.heap.size) (Nat.le_refl _) _ _⟩
  · have HF : Hid (NE = (fc, fa) ∧ NR = []) := Lib.hid (by
      have e : NE = (fc, fa) := by rw [HNE.out.1]; unfold orE; rw [if_pos h0]
      exact ⟨e, HNE.out.2.1 (by rw [e]; exact h0)⟩)
    have hc9 : (0 : Int) < (fc : Int) := by omega
    obtain ⟨z0, z1, zf⟩ := id hz
    clear h0 HNE
    go_wp2_with fail
    clear hW
    go_region
    all_goals
      go_wp2_with fail
      refine bodyPost_ret (v := .tuple #[.slice none 0 0, fltV (fc, fa)]) (by simp [results, Tryz.results52, fltV, go_sem, *]) rfl ?_
      rw [HF.out.1, HF.out.2]
      exact ⟨⟨_, rfl, ModsAt.nil _⟩, below_sto2 hB.drew (b := w.heap.size) (Nat.le_refl _) _ _⟩
end Go.Proofs.Pw

namespace Go.Proofs.Pw
open Go.RowKit
open Go.Lib hiding intOf
theorem firstE_le {g : Nat → Nat} (h : ∀ j, g j ≤ 10) : ∀ n, (firstE g n).1 ≤ 10
  | 0 => Nat.zero_le _
  | n + 1 => by
    rw [firstE]
    split
    · exact firstE_le h n
    · split
      · exact h n
      · exact Nat.zero_le _
theorem orE_le {a b : Nat × Int} (ha : a.1 ≤ 10) (hb : b.1 ≤ 10) : (orE a b).1 ≤ 10 := by
  unfold orE
  split
  · exact ha
  · exact hb
theorem mdErr_le (m : Md) : mdErr m ≤ 4 := modErr_le _ _
end Go.Proofs.Pw

namespace Go.Proofs.Pw
open Go.Lib hiding intOf
theorem reqE_le (p : Str) (l : List Md) (j : Nat) : reqE p l j ≤ 10 := by
  unfold reqE
  split
  · exact Nat.le_trans (mdErr_le _) (by decide)
  · split
    · decide
    · split <;> decide
theorem entErr_le (l : List En) (i : Nat) : entErr l i ≤ 10 := by
  unfold entErr
  split
  · exact Nat.le_trans (mdErr_le _) (by decide)
  · split
    · decide
    · split
      · unfold reqsErr
        split
        · decide
        · exact firstE_le (fun j => reqE_le _ _ j) _
      · unfold packsErr
        split
        · decide
        · split
          · refine firstE_le (fun j => ?_) _
            unfold packE
            split <;> decide
          · decide
theorem idxErr_le (l : List En) : (idxErr l).1 ≤ 10 := by
  unfold idxErr
  split
  · exact (by decide : 7 ≤ 10)
  · refine orE_le (firstE_le (fun j => entErr_le l j) _) (firstE_le (fun j => ?_) _)
    unfold lostE
    split <;> decide
theorem rootsErr_le (l : List En) (roots : List Md) : (rootsErr l roots).1 ≤ 10 := by
  unfold rootsErr
  refine firstE_le (fun j => ?_) _
  unfold rootE
  split <;> decide
theorem startErr_le (l : List En) (roots : List Md) : (startErr l roots).1 ≤ 10 := orE_le (idxErr_le l) (rootsErr_le l roots)
end Go.Proofs.Pw

namespace Go.Proofs.Pw
open Go.RowKit Go.Extern.Stop Go.Stop Go.Extern
theorem Tryz.is_typeOf (v : Value) (w : World) : (Extern.ReflectliteType.typeOf #[.iface 271 v]).run Tryz.prog w = .ok (.iface 204 (.agg #[.pointer (some ⟨19, 271, none⟩)])) w := by kernel_rfl
theorem Tryz.is_comparable (w : World) : (Extern.ReflectliteType.method (fun t => do Rtype.noPackHeld "Comparable" t; pure (.bool (← typeInfo t).comparable)) #[.agg #[.pointer (some ⟨19, 271, none⟩)]]).run Tryz.prog w = .ok (.bool true) w := by kernel_rfl
theorem Tryz.is_callComparable (w : World) : (callFunc 297 #[.agg #[.pointer (some ⟨19, 271, none⟩)]]).run Tryz.prog w = .ok (.value (.bool true)) w := by
  have h := @run_callFunc_extern Tryz.prog 297 _ (Extern.ReflectliteType.method fun t => do Rtype.noPackHeld "Comparable" t; pure (.bool (← typeInfo t).comparable)) Tryz.func297 (by kernel_rfl) (by kernel_rfl) (by kernel_rfl) (by kernel_rfl)
  rw [h, Tryz.is_comparable]
  rfl
theorem Tryz.is_methodComparable (v : Value) (w : World) : (Go.method 409 204 v "Comparable").run Tryz.prog w = .ok (297, v) w := by kernel_rfl
theorem Tryz.is_comp : (Tryz.prog.info? 271).map (·.comparable) = some true := by kernel_rfl
theorem Tryz.is_size : (Tryz.prog.info? 273).map (·.size) = some 1 := by kernel_rfl
theorem Tryz.no_isE (v : Value) (xT : TypeId) (w : World) : (Instr.typeAssert (.iface 271 v) xT 215 true).run Tryz.prog w = .ok (.tuple #[.nilIface, .bool false]) w := run_typeAssert_lacksB Tryz.underlying215 (by kernel_rfl) (by kernel_rfl) v xT w
theorem Tryz.no_asE (v : Value) (xT : TypeId) (w : World) : (Instr.typeAssert (.iface 271 v) xT 208 true).run Tryz.prog w = .ok (.tuple #[.nilIface, .bool false]) w := run_typeAssert_lacksB Tryz.underlying208 (by kernel_rfl) (by kernel_rfl) v xT w
theorem Tryz.no_unwrapE (v : Value) (xT : TypeId) (w : World) : (Instr.typeAssert (.iface 271 v) xT 211 true).run Tryz.prog w = .ok (.tuple #[.nilIface, .bool false]) w := run_typeAssert_lacksB Tryz.underlying211 (by kernel_rfl) (by kernel_rfl) v xT w
theorem Tryz.no_unwrapsE (v : Value) (xT : TypeId) (w : World) : (Instr.typeAssert (.iface 271 v) xT 213 true).run Tryz.prog w = .ok (.tuple #[.nilIface, .bool false]) w := run_typeAssert_lacksB Tryz.underlying213 (by kernel_rfl) (by kernel_rfl) v xT w
theorem Tryz.no_isF (v : Value) (xT : TypeId) (w : World) : (Instr.typeAssert (.iface 102 v) xT 215 true).run Tryz.prog w = .ok (.tuple #[.nilIface, .bool false]) w := run_typeAssert_lacksB Tryz.underlying215 (by kernel_rfl) (by kernel_rfl) v xT w
theorem Tryz.has_unwrapF (v : Value) (xT : TypeId) (w : World) : (Instr.typeAssert (.iface 102 v) xT 211 true).run Tryz.prog w = .ok (.tuple #[.iface 102 v, .bool true]) w := run_typeAssert_hasB Tryz.underlying211 (by kernel_rfl) v xT w
theorem Tryz.method_unwrapF (v : Value) (w : World) : (Go.method 409 102 v "Unwrap").run Tryz.prog w = .ok (291, v) w := by kernel_rfl
theorem is_same (a : Addr) (w : World) :
    Calls Tryz.prog 117 #[.iface 271 (.pointer (some a)), .iface 271 (.pointer (some a))] w fun e w' => e = .returned (.bool true) ∧ w = w' := by
  obtain ⟨i, hi, hcmp⟩ := Option.map_eq_some_iff.1 Tryz.is_comp
  obtain ⟨j, hj, hjs⟩ := Option.map_eq_some_iff.1 Tryz.is_size
  have h8 := @run_callFunc_extern Tryz.prog 166 _ Extern.ReflectliteType.typeOf Tryz.func166 (by kernel_rfl) (by kernel_rfl) (by kernel_rfl) (by kernel_rfl)
  have h32 := Tryz.is_callComparable
  have tT := Tryz.is_typeOf
  have mR := Tryz.is_methodComparable
  have heq := run_eql_iface_ptr_same (P := Tryz.prog) w a Tryz.underlying29 Tryz.underlying271 hi hcmp hj
  go_enter Tryz.func117, Tryz.ntmps117
  go_wp2
  refine wp_loop_rounds 1 ?_
  rw [rounds_succ]
  go_wp2
  go_ret
  exact ⟨rfl, rfl⟩
theorem is_other (a b : Addr) (ca cb : Array Value) (ta tb : TypeId) (w : World) (hne : a ≠ b) (ha : w.heap[a.block]? = some (.cells ca ta (0, 0))) (hb : w.heap[b.block]? = some (.cells cb tb (0, 0))) :
    Calls Tryz.prog 117 #[.iface 271 (.pointer (some a)), .iface 271 (.pointer (some b))] w fun e w' => e = .returned (.bool false) ∧ w = w' := by
  obtain ⟨i, hi, hcmp⟩ := Option.map_eq_some_iff.1 Tryz.is_comp
  obtain ⟨j, hj, hjs⟩ := Option.map_eq_some_iff.1 Tryz.is_size
  have h8 := @run_callFunc_extern Tryz.prog 166 _ Extern.ReflectliteType.typeOf Tryz.func166 (by kernel_rfl) (by kernel_rfl) (by kernel_rfl) (by kernel_rfl)
  have h32 := Tryz.is_callComparable
  have tT := Tryz.is_typeOf
  have mR := Tryz.is_methodComparable
  have nE := Tryz.no_isE
  have uE := Tryz.no_unwrapE
  have vE := Tryz.no_unwrapsE
  have heq := run_eql_iface_ptr_other (P := Tryz.prog) w Tryz.underlying29 Tryz.underlying271 hi hcmp hj (by rw [hjs]; decide) hne ha hb
  go_enter Tryz.func117, Tryz.ntmps117
  go_wp2
  refine wp_loop_rounds 1 ?_
  rw [rounds_succ]
  go_wp2
  go_ret
  exact ⟨rfl, rfl⟩
theorem is_fault_same (pb : Nat) (b : Addr) (w : World) (h1 : w.cell? ⟨pb, 1, none⟩ = some (.iface 271 (.pointer (some b)))) :
    Calls Tryz.prog 117 #[.iface 102 (.pointer (some ⟨pb, 0, none⟩)), .iface 271 (.pointer (some b))] w fun e w' => e = .returned (.bool true) ∧ w = w' := by
  obtain ⟨i, hi, hcmp⟩ := Option.map_eq_some_iff.1 Tryz.is_comp
  obtain ⟨j, hj, hjs⟩ := Option.map_eq_some_iff.1 Tryz.is_size
  have h8 := @run_callFunc_extern Tryz.prog 166 _ Extern.ReflectliteType.typeOf Tryz.func166 (by kernel_rfl) (by kernel_rfl) (by kernel_rfl) (by kernel_rfl)
  have h32 := Tryz.is_callComparable
  have tT := Tryz.is_typeOf
  have mR := Tryz.is_methodComparable
  have nF := Tryz.no_isF
  have uF := Tryz.has_unwrapF
  have mU := Tryz.method_unwrapF
  have heq := run_eql_iface_ptr_same (P := Tryz.prog) w b Tryz.underlying29 Tryz.underlying271 hi hcmp hj
  have hty := run_eql_iface_types (P := Tryz.prog) 102 271 (.pointer (some ⟨pb, 0, none⟩)) (.pointer (some b)) Tryz.underlying29 (by decide) w
  go_enter Tryz.func117, Tryz.ntmps117
  go_wp2
  refine wp_loop_rounds 2 ?_
  rw [rounds_succ]
  go_wp2
  rw [rounds_succ]
  go_wp2
  go_ret
  exact ⟨rfl, rfl⟩
theorem is_fault_other (pb : Nat) (b a : Addr) (ca cb : Array Value) (ta tb : TypeId) (w : World) (h1 : w.cell? ⟨pb, 1, none⟩ = some (.iface 271 (.pointer (some a)))) (hne : a ≠ b) (ha : w.heap[a.block]? = some (.cells ca ta (0, 0))) (hb : w.heap[b.block]? = some (.cells cb tb (0, 0))) :
    Calls Tryz.prog 117 #[.iface 102 (.pointer (some ⟨pb, 0, none⟩)), .iface 271 (.pointer (some b))] w fun e w' => e = .returned (.bool false) ∧ w = w' := by
  obtain ⟨i, hi, hcmp⟩ := Option.map_eq_some_iff.1 Tryz.is_comp
  obtain ⟨j, hj, hjs⟩ := Option.map_eq_some_iff.1 Tryz.is_size
  have h8 := @run_callFunc_extern Tryz.prog 166 _ Extern.ReflectliteType.typeOf Tryz.func166 (by kernel_rfl) (by kernel_rfl) (by kernel_rfl) (by kernel_rfl)
  have h32 := Tryz.is_callComparable
  have tT := Tryz.is_typeOf
  have mR := Tryz.is_methodComparable
  have nE := Tryz.no_isE
  have uE := Tryz.no_unwrapE
  have vE := Tryz.no_unwrapsE
  have nF := Tryz.no_isF
  have uF := Tryz.has_unwrapF
  have mU := Tryz.method_unwrapF
  have heq := run_eql_iface_ptr_other (P := Tryz.prog) w Tryz.underlying29 Tryz.underlying271 hi hcmp hj (by rw [hjs]; decide) hne ha hb
  have hty := run_eql_iface_types (P := Tryz.prog) 102 271 (.pointer (some ⟨pb, 0, none⟩)) (.pointer (some b)) Tryz.underlying29 (by decide) w
  go_enter Tryz.func117, Tryz.ntmps117
  go_wp2
  refine wp_loop_rounds 2 ?_
  rw [rounds_succ]
  go_wp2
  rw [rounds_succ]
  go_wp2
  go_ret
  exact ⟨rfl, rfl⟩
end Go.Proofs.Pw
