/- Pf: walks and plain laws, joined: RefIdx. Conditions: at each theorem. -/
import Derived.Test.YtkfnhchlfojomaaGreatDoorPfzb

namespace Go.Proofs.Pw
open Go.RowKit
open Go.Lib hiding intOf
theorem any_mdF {n : Nat} {P V : Nat → ByteArray} {p : Md → Bool} (h : ∀ j, j < n → p ((P j).data.toList, (V j).data.toList) = false) : (mdF n P V).any p = false := by
  rw [List.any_eq_false]
  intro m hm
  obtain ⟨j, hj⟩ := List.getElem?_of_mem hm
  have hl := (List.getElem?_eq_some_iff.1 hj).1
  rw [mdF_length] at hl
  rw [mdF_get n P V j hl] at hj
  rw [← Option.some.inj hj, h j hl]
  simp
set_option maxHeartbeats 8000000 in
set_option maxRecDepth 100000 in
theorem indexFault_in (a : Option Addr) (n cap : Nat) (P V : Nat → ByteArray) (R : Nat → List Md) (K : Nat → List Str) (B : Nat → Bool) (Rv Kv : Nat → Value) (w : World) (h : EntsIn w a n cap P V R K B Rv Kv) (hs : ShortI (enF n P V R K B)) :
    Calls Tryz.prog 60 #[.slice a n cap] w fun e w' => e = .returned (fltV (idxErr (enF n P V R K B))) ∧ Below w.heap.size w w' := by
  have hn : n ≤ 1000000 := by have := hs.len; rwa [enF_length] at this
  have hB := below_alloc w (.cells #[.int .i64 0, .int .i64 0] 46)
  have hz := box2_alloc w (.int .i64 0) (.int .i64 0) 46
  have HFE : Hid (idxErr (enF n P V R K B) = if 100 < n then (7, -1) else orE (firstE (entErr (enF n P V R K B)) n) (firstE (lostE (enF n P V R K B)) n)) := Lib.hid (by unfold idxErr; rw [enF_length])
  have hee := fun (i : Nat) (hi : i < n) (W : World) (hb : Below w.heap.size w W) => entryError_in a n cap P V R K B Rv Kv i W (h.below hb) hs hi
  have hfo := fun (p v : ByteArray) (W : World) (hb : Below w.heap.size w W) => findOf_in a n cap P V R K B Rv Kv p v W (h.below hb) hn
  have H := Lib.hid h
  have HSH := Lib.hid hs
  replace hee := Lib.hid hee
  replace hfo := Lib.hid hfo
  clear h hs
  by_cases h100 : 100 < n
  · have HF : Hid (idxErr (enF n P V R K B) = (7, -1)) := Lib.hid (by rw [HFE.out, if_pos h100])
    have h100' : (100 : Int) < (n : Int) := by omega
    have hba := fun W => refBare_calls 7 W
    unfold fltV at hba
    replace hba := Lib.hid hba
    clear h100
    go_enter Tryz.func60, Tryz.ntmps60
    go_wp2_with fail
    generalize w.alloc (.cells #[.int .i64 0, .int .i64 0] 46) = w1 at *
    refine (hba.out _).mono ?_
    rintro e w2 ⟨rfl, hb⟩
    have hB2 := below_step hB hb
    obtain ⟨z0, z1, zf⟩ := hz.below hb
    clear hb hba
    go_wp2_with fail
    refine bodyPost_ret (v := fltV (7, -1)) (by simp [results, Tryz.results60, fltV, go_sem, *]) rfl ?_
    rw [HF.out]
    exact ⟨rfl, (hB2.setCell (p := ⟨w.heap.size, 0, none⟩) (Nat.le_refl _) _).setCell (p := ⟨w.heap.size, 1, none⟩) (Nat.le_refl _) _⟩
  · have HF1 : Hid (idxErr (enF n P V R K B) = orE (firstE (entErr (enF n P V R K B)) n) (firstE (lostE (enF n P V R K B)) n)) := Lib.hid (by rw [HFE.out, if_neg h100])
    have h100' : ¬ (100 : Int) < (n : Int) := by omega
    clear h100
    go_enter Tryz.func60, Tryz.ntmps60
    go_wp2_with fail
    generalize w.alloc (.cells #[.int .i64 0, .int .i64 0] 46) = w1 at *
    clear h100'
    go_loopw [3] (fun x wr => ∃ k : Nat, k ≤ n ∧ x = .int .i64 k ∧ Below w1.heap.size w1 wr ∧ Hid (∀ j, j < k → entErr (enF n P V R K B) j = 0)) (fun x _ => n - (intOf x).toNat)
    case atStart => exact ⟨0, Nat.zero_le _, rfl, Below.refl _ _, Lib.hid (fun j hj => absurd hj (Nat.not_lt_zero _))⟩
    case round =>
      obtain ⟨k, hk, rfl, hBk, HA⟩ := hrel
      have hBw := below_step hB hBk
      have hzk := hz.below hBk
      by_cases hlt : k < n
      · have hkn : (k : Int) < (n : Int) := by omega
        have hf := hee.out k hlt wr hBw
        obtain ⟨c, hc⟩ : ∃ c, entErr (enF n P V R K B) k = c := ⟨_, rfl⟩
        rw [hc] at hf
        by_cases h0 : c = 0
        · have HN : Hid (∀ j, j < k + 1 → entErr (enF n P V R K B) j = 0) := Lib.hid (fun j hj => by
            by_cases e : j = k
            · subst e; rw [hc, h0]
            · exact HA.out j (by omega))
          subst h0
          replace hf := Lib.hid hf
          clear hc
          go_wp2_with fail
          refine hf.out.mono ?_
          rintro e w2 ⟨rfl, hb⟩
          replace hBk := below_step hBk hb
          clear hb hf
          go_wp2_with fail
          go_roundw
          case rel => exact ⟨k + 1, by omega, by go_num, hBk, HN⟩
          case measure => simp [intOf]; omega
        · have HF : Hid (idxErr (enF n P V R K B) = (c, (k : Int))) := Lib.hid (by
            rw [HF1.out, firstE_hit (by rw [hc]; exact h0) HA.out hlt, hc]
            unfold orE
            rw [if_pos h0])
          have hc9 : (0 : Int) < (c : Int) := by omega
          replace hf := Lib.hid hf
          clear hc h0
          go_wp2_with fail
          refine hf.out.mono ?_
          rintro e w2 ⟨rfl, hb⟩
          have hB2 := below_step hBw hb
          obtain ⟨z0, z1, zf⟩ := hzk.below hb
          clear hb hf
          go_wp2_with fail
          refine bodyPost_ret (v := fltV (c, (k : Int))) (by simp [results, Tryz.results60, fltV, go_sem, *]) rfl ?_
          rw [HF.out]
          exact ⟨rfl, (hB2.setCell (p := ⟨w.heap.size, 0, none⟩) (Nat.le_refl _) _).setCell (p := ⟨w.heap.size, 1, none⟩) (Nat.le_refl _) _⟩
      · have HF2 : Hid (idxErr (enF n P V R K B) = firstE (lostE (enF n P V R K B)) n) := Lib.hid (by
          rw [HF1.out, firstE_none (fun j hj => HA.out j (by omega))]
          rfl)
        have hnk : ¬ (k : Int) < (n : Int) := by omega
        clear hlt HA hk
        go_wp2_with fail
        clear hnk
        generalize wr = wl at *
        go_loopw [5] (fun x wr => ∃ k : Nat, k ≤ n ∧ x = .int .i64 k ∧ Below wl.heap.size wl wr ∧ Hid (∀ j, j < k → lostE (enF n P V R K B) j = 0)) (fun x _ => n - (intOf x).toNat)
        case atStart => exact ⟨0, Nat.zero_le _, rfl, Below.refl _ _, Lib.hid (fun j hj => absurd hj (Nat.not_lt_zero _))⟩
        case round =>
          obtain ⟨k, hk, rfl, hBm, HA⟩ := hrel
          have hBx := below_step hBw hBm
          by_cases hlt : k < n
          · have hkn : (k : Int) < (n : Int) := by omega
            obtain ⟨b1, o1, ea, hcell⟩ := H.out.at_ k hlt
            obtain ⟨a1, n1, c1, P1, V1, e1, e2, _, _, hc1⟩ := H.out.reqs k hlt
            have hlen : n1 ≤ 1000000 := by
              have := (HSH.out.at_ hlt).2.2.2.1.1
              rw [e2, mdF_length] at this
              exact this
            have HL : Hid (lostE (enF n P V R K B) k = if (mdF n1 P1 V1).any (lost (enF n P V R K B)) then 5 else 0) := Lib.hid (by unfold lostE; rw [enAt_enF hlt, e2])
            rw [e1] at hcell
            have d2 := hcell.c2
            subst ea
            replace hc1 := Lib.hid hc1
            clear e1 e2 hcell
            go_wp2_with fail
            generalize hwo : wr = wo at *
            clear hwo
            go_loopw [6] (fun x wr => ∃ q : Nat, q ≤ n1 ∧ x = .int .i64 q ∧ Below wo.heap.size wo wr ∧ Hid (∀ j, j < q → lost (enF n P V R K B) ((P1 j).data.toList, (V1 j).data.toList) = false)) (fun x _ => n1 - (intOf x).toNat)
            case atStart => exact ⟨0, Nat.zero_le _, rfl, Below.refl _ _, Lib.hid (fun j hj => absurd hj (Nat.not_lt_zero _))⟩
            case round =>
              obtain ⟨q, hq, rfl, hBn, HA2⟩ := hrel
              have hBy := below_step hBx hBn
              have x2 := Below.cell_some hBy d2
              by_cases hlq : q < n1
              · have hqn : (q : Int) < (n1 : Int) := by omega
                obtain ⟨b2, o2, e3, y0, y1⟩ := hc1.out q hlq
                subst e3
                replace y0 := Below.cell_some hBy y0
                replace y1 := Below.cell_some hBy y1
                have hf := hfo.out (P1 q) (V1 q) wr hBy
                obtain ⟨x, hx⟩ : ∃ x, findE (enF n P V R K B) ((P1 q).data.toList, (V1 q).data.toList) = x := ⟨_, rfl⟩
                rw [hx] at hf
                by_cases h0 : x < 0
                · have HF : Hid (idxErr (enF n P V R K B) = (5, (k : Int))) := Lib.hid (by
                    have hR : lostE (enF n P V R K B) k = 5 := by
                      rw [HL.out, if_pos]
                      rw [List.any_eq_true]
                      refine ⟨_, List.mem_of_getElem? (mdF_get n1 P1 V1 q hlq), ?_⟩
                      unfold lost
                      rw [hx]
                      exact decide_eq_true h0
                    rw [HF2.out, firstE_hit (by rw [hR]; decide) HA.out hlt, hR])
                  have hzy := hz.below (below_step hBk (below_step hBm hBn))
                  replace hf := Lib.hid hf
                  clear hx hlen
                  go_wp2_with fail
                  refine hf.out.mono ?_
                  rintro e w2 ⟨rfl, hb⟩
                  have hB2 := below_step hBy hb
                  obtain ⟨z0, z1, zf⟩ := hzy.below hb
                  clear hb hf x2 y0 y1
                  go_wp2_with fail
                  refine bodyPost_ret (v := fltV (5, (k : Int))) (by simp [results, Tryz.results60, fltV, go_sem, *]) rfl ?_
                  rw [HF.out]
                  exact ⟨rfl, (hB2.setCell (p := ⟨w.heap.size, 0, none⟩) (Nat.le_refl _) _).setCell (p := ⟨w.heap.size, 1, none⟩) (Nat.le_refl _) _⟩
                · have HN : Hid (∀ j, j < q + 1 → lost (enF n P V R K B) ((P1 j).data.toList, (V1 j).data.toList) = false) := Lib.hid (fun j hj => by
                    by_cases e : j = q
                    · subst e; unfold lost; rw [hx]; exact decide_eq_false h0
                    · exact HA2.out j (by omega))
                  have hq0 : decide (x < 0) = false := decide_eq_false h0
                  replace hf := Lib.hid hf
                  clear hx h0
                  go_wp2_with fail
                  refine hf.out.mono ?_
                  rintro e w2 ⟨rfl, hb⟩
                  replace hBn := below_step hBn hb
                  clear hb hf x2 y0 y1
                  go_wp2_with fail
                  go_roundw
                  case rel => exact ⟨q + 1, by omega, by go_num, hBn, HN⟩
                  case measure => simp [intOf]; omega
              · have HN : Hid (∀ j, j < k + 1 → lostE (enF n P V R K B) j = 0) := Lib.hid (fun j hj => by
                  by_cases e : j = k
                  · subst e
                    rw [HL.out, any_mdF (fun i hi => HA2.out i (by omega))]
                    rfl
                  · exact HA.out j (by omega))
                have hnq : ¬ (q : Int) < (n1 : Int) := by omega
                replace hBm := below_step hBm hBn
                clear hlq hq
                go_wp2_with fail
                go_roundw
                case rel => exact ⟨k + 1, by omega, by go_num, hBm, HN⟩
                case measure => simp [intOf]; omega
          · have HF : Hid (idxErr (enF n P V R K B) = (0, -1)) := Lib.hid (by rw [HF2.out, firstE_none (fun j hj => HA.out j (by omega))])
            have hfi := fun W => refFine_calls W
            unfold fltV at hfi
            have hnk : ¬ (k : Int) < (n : Int) := by omega
            have hzy := hz.below (below_step hBk hBm)
            replace hfi := Lib.hid hfi
            clear hlt hk
            go_wp2_with fail
            refine (hfi.out _).mono ?_
            rintro e w2 ⟨rfl, hb⟩
            have hB2 := below_step hBx hb
            obtain ⟨z0, z1, zf⟩ := hzy.below hb
            clear hb hfi
            go_wp2_with fail
            refine bodyPost_ret (v := fltV (0, -1)) (by simp [results, Tryz.results60, fltV, go_sem, *]) rfl ?_
            rw [HF.out]
            exact ⟨rfl, (hB2.setCell (p := ⟨w.heap.size, 0, none⟩) (Nat.le_refl _) _).setCell (p := ⟨w.heap.size, 1, none⟩) (Nat.le_refl _) _⟩
end Go.Proofs.Pw
