/- Ia: walks and plain laws, joined: FindOf RefRoots RefIdx RefLatest. Conditions: at each theorem. -/
import Derived.Test.YtnanklfbmmionaaGreatDoorIag
import Derived.Test.YtnanklfbmmionaaGreatDoorIaw
import Derived.Test.YtnanklfbmmionaaGreatDoorIai
import Derived.Test.YtnanklfbmmionaaGreatDoorIax
import Derived.Test.YtnanklfbmmionaaGreatDoorIar
import Derived.Test.YtnanklfbmmionaaGreatDoorIao

namespace Go.Proofs.Pw
open Go.RowKit
open Go.Lib hiding intOf
set_option maxHeartbeats 1000000 in
set_option maxRecDepth 100000 in
theorem findOf_in (a : Option Addr) (n cap : Nat) (P V : Nat → ByteArray) (R : Nat → List Md) (K : Nat → List Str) (B : Nat → Bool) (Rv Kv : Nat → Value) (p v : ByteArray) (w : World) (h : EntsIn w a n cap P V R K B Rv Kv) (hl : n ≤ 1000000) :
    Calls Tryz.prog 35 #[.slice a n cap, .agg #[.string p, .string v]] w fun e w' => e = .returned (.int .i64 (findE (enF n P V R K B) (p.data.toList, v.data.toList))) ∧ Below w.heap.size w w' := by
  have hB := below_alloc w (.cells #[.string p, .string v] 29)
  obtain ⟨z0, z1, _⟩ := box2_alloc w (.string p) (.string v) 29
  have H := Lib.hid (h.below hB)
  have hg := Tryz.md_guard
  clear h
  go_enter Tryz.func35, Tryz.ntmps35
  go_wp2_with fail
  generalize hw1 : w.alloc (.cells #[.string p, .string v] 29) = w1 at *
  clear hw1
  go_loopw [5] (fun i wr => ∃ k : Nat, k ≤ n ∧ i = .int .i64 k ∧ Below w1.heap.size w1 wr ∧ Hid (∀ j, j < k → ((P j).data.toList, (V j).data.toList) ≠ (p.data.toList, v.data.toList))) (fun i _ => n - (intOf i).toNat)
  case atStart => exact ⟨0, Nat.zero_le _, rfl, Below.refl _ _, Lib.hid (fun j hj => absurd hj (Nat.not_lt_zero _))⟩
  case round =>
    obtain ⟨k, hk, rfl, hBk, HA⟩ := hrel
    have hBw := below_step hB hBk
    by_cases hlt : k < n
    · have hkn : (k : Int) < (n : Int) := by omega
      obtain ⟨b1, o1, ea, hcell⟩ := H.out.at_ k hlt
      have c0 := Below.cell_some hBk hcell.c0
      have c1 := Below.cell_some hBk hcell.c1
      have y0 := Below.cell_some hBk z0
      have y1 := Below.cell_some hBk z1
      subst ea
      have he := md_eql (P k) (V k) p v
      by_cases hm : ((P k).data.toList, (V k).data.toList) = (p.data.toList, v.data.toList)
      · have hd : decide (P k = p ∧ V k = v) = true := decide_eq_true (bytes_pair.1 hm)
        simp only [hd] at he
        have HF : Hid (findE (enF n P V R K B) (p.data.toList, v.data.toList) = k) := Lib.hid (findI_hit (enF_get n P V R K B k hlt) (decide_eq_true hm) (fun j y hj hy => by
          rw [enF_get n P V R K B j (by omega)] at hy
          cases hy
          exact decide_eq_false (HA.out j hj)))
        clear hm hcell hd
        go_wp2_with fail
        have kqc0 := fun d os => cell_patch (d := d) (os := os) c0
        have kqc1 := fun d os => cell_patch (d := d) (os := os) c1
        have kqy0 := fun d os => cell_patch (d := d) (os := os) y0
        have kqy1 := fun d os => cell_patch (d := d) (os := os) y1
        refine wp_region_quiet_patch (by kernel_rfl) (by kernel_rfl) ?_
        repeat (go_big_quiet_step (fail))
        refine wpQuiet_nil ?_
        intro _ hw'
        obtain ⟨⟨dq, osq⟩, hw''⟩ := hw'
        subst hw''
        clear kqc0 kqc1 kqy0 kqy1
        have hb := below_patch wr dq osq
        replace hBw := below_step hBw hb
        clear hb
        generalize patch wr dq osq = wq1 at hBw ⊢
        go_wp2_with fail
        go_ret
        rw [HF.out]
        exact ⟨rfl, hBw⟩
      · have hd : decide (P k = p ∧ V k = v) = false := decide_eq_false (fun h => hm (bytes_pair.2 h))
        simp only [hd] at he
        have HN : Hid (∀ j, j < k + 1 → ((P j).data.toList, (V j).data.toList) ≠ (p.data.toList, v.data.toList)) := Lib.hid (fun j hj => by
          by_cases e : j = k
          · subst e; exact hm
          · exact HA.out j (by omega))
        clear hm hcell hd
        go_wp2_with fail
        have kqc0 := fun d os => cell_patch (d := d) (os := os) c0
        have kqc1 := fun d os => cell_patch (d := d) (os := os) c1
        have kqy0 := fun d os => cell_patch (d := d) (os := os) y0
        have kqy1 := fun d os => cell_patch (d := d) (os := os) y1
        refine wp_region_quiet_patch (by kernel_rfl) (by kernel_rfl) ?_
        repeat (go_big_quiet_step (fail))
        refine wpQuiet_nil ?_
        intro _ hw'
        obtain ⟨⟨dq, osq⟩, hw''⟩ := hw'
        subst hw''
        clear kqc0 kqc1 kqy0 kqy1
        have hb := below_patch wr dq osq
        replace hBk := below_step hBk hb
        clear hb
        generalize patch wr dq osq = wq1 at hBk ⊢
        go_wp2_with fail
        go_roundw
        case rel => exact ⟨k + 1, by omega, by go_num, hBk, HN⟩
        case measure => simp [intOf]; omega
    · obtain rfl : n = k := by omega
      have HF : Hid (findE (enF n P V R K B) (p.data.toList, v.data.toList) = -1) := Lib.hid (findI_none (fun j y hy => by
        have hj : j < n := by have := (List.getElem?_eq_some_iff.1 hy).1; rwa [enF_length] at this
        rw [enF_get n P V R K B j hj] at hy
        cases hy
        exact decide_eq_false (HA.out j hj)))
      go_wp2_with fail
      go_ret
      rw [HF.out]
      exact ⟨rfl, hBw⟩
end Go.Proofs.Pw

namespace Go.Proofs.Pw
open Go.RowKit
open Go.Lib hiding intOf
end Go.Proofs.Pw

namespace Go.Proofs.Pw
open Go.RowKit
open Go.Lib hiding intOf
theorem any_mdF {n : Nat} {P V : Nat → ByteArray} {p : Md → Bool} (h : ∀ j, j < n → p ((P j).data.toList, (V j).data.toList) = false) : (mdF n P V).any p = false := by
  rw [List.any_eq_false]
  intro m hm
  obtain ⟨j, hj⟩ := List.getElem?_of_mem hm
  have hl := (List.getElem?_eq_some_iff.1 hj).1
  rw [mdF_length] at hl
  rw [mdF_get n P V j hl] at hj
  rw [← Option.some.inj hj, h j hl]
  simp
set_option maxHeartbeats 8000000 in
set_option maxRecDepth 100000 in
theorem indexFault_in (a : Option Addr) (n cap : Nat) (P V : Nat → ByteArray) (R : Nat → List Md) (K : Nat → List Str) (B : Nat → Bool) (Rv Kv : Nat → Value) (w : World) (h : EntsIn w a n cap P V R K B Rv Kv) (hs : ShortI (enF n P V R K B)) :
    Calls Tryz.prog 64 #[.slice a n cap] w fun e w' => e = .returned (fltV (idxErr (enF n P V R K B))) ∧ Below w.heap.size w w' := by
  have hn : n ≤ 1000000 := by have := hs.len; rwa [enF_length] at this
  have hB := below_alloc w (.cells #[.int .i64 0, .int .i64 0] 46)
  have hz := box2_alloc w (.int .i64 0) (.int .i64 0) 46
  have HFE : Hid (idxErr (enF n P V R K B) = if 100 < n then (7, -1) else orE (firstE (entErr (enF n P V R K B)) n) (firstE (lostE (enF n P V R K B)) n)) := Lib.hid (by unfold idxErr; rw [enF_length])
  have hee := fun (i : Nat) (hi : i < n) (W : World) (hb : Below w.heap.size w W) => entryError_in a n cap P V R K B Rv Kv i W (h.below hb) hs hi
  have hfo := fun (p v : ByteArray) (W : World) (hb : Below w.heap.size w W) => findOf_in a n cap P V R K B Rv Kv p v W (h.below hb) hn
  have H := Lib.hid h
  have HSH := Lib.hid hs
  replace hee := Lib.hid hee
  replace hfo := Lib.hid hfo
  clear h hs
  by_cases h100 : 100 < n
  · have HF : Hid (idxErr (enF n P V R K B) = (7, -1)) := Lib.hid (by rw [HFE.out, if_pos h100])
    have h100' : (100 : Int) < (n : Int) := by omega
    have hba := fun W => refBare_calls 7 W
    unfold fltV at hba
    replace hba := Lib.hid hba
    clear h100
    go_enter Tryz.func64, Tryz.ntmps64
    go_wp2_with fail
    generalize w.alloc (.cells #[.int .i64 0, .int .i64 0] 46) = w1 at *
    refine (hba.out _).mono ?_
    rintro e w2 ⟨rfl, hb⟩
    have hB2 := below_step hB hb
    obtain ⟨z0, z1, zf⟩ := hz.below hb
    clear hb hba
    go_wp2_with fail
    refine bodyPost_ret (v := fltV (7, -1)) (by simp [results, Tryz.results64, fltV, go_sem, *]) rfl ?_
    rw [HF.out]
    exact ⟨rfl, (hB2.setCell (p := ⟨w.heap.size, 0, none⟩) (Nat.le_refl _) _).setCell (p := ⟨w.heap.size, 1, none⟩) (Nat.le_refl _) _⟩
  · have HF1 : Hid (idxErr (enF n P V R K B) = orE (firstE (entErr (enF n P V R K B)) n) (firstE (lostE (enF n P V R K B)) n)) := Lib.hid (by rw [HFE.out, if_neg h100])
    have h100' : ¬ (100 : Int) < (n : Int) := by omega
    clear h100
    go_enter Tryz.func64, Tryz.ntmps64
    go_wp2_with fail
    generalize w.alloc (.cells #[.int .i64 0, .int .i64 0] 46) = w1 at *
    clear h100'
    go_loopw [3] (fun x wr => ∃ k : Nat, k ≤ n ∧ x = .int .i64 k ∧ Below w1.heap.size w1 wr ∧ Hid (∀ j, j < k → entErr (enF n P V R K B) j = 0)) (fun x _ => n - (intOf x).toNat)
    case atStart => exact ⟨0, Nat.zero_le _, rfl, Below.refl _ _, Lib.hid (fun j hj => absurd hj (Nat.not_lt_zero _))⟩
    case round =>
      obtain ⟨k, hk, rfl, hBk, HA⟩ := hrel
      have hBw := below_step hB hBk
      have hzk := hz.below hBk
      by_cases hlt : k < n
      · have hkn : (k : Int) < (n : Int) := by omega
        have hf := hee.out k hlt wr hBw
        obtain ⟨c, hc⟩ : ∃ c, entErr (enF n P V R K B) k = c := ⟨_, rfl⟩
        rw [hc] at hf
        by_cases h0 : c = 0
        · have HN : Hid (∀ j, j < k + 1 → entErr (enF n P V R K B) j = 0) := Lib.hid (fun j hj => by
            by_cases e : j = k
            · subst e; rw [hc, h0]
            · exact HA.out j (by omega))
          subst h0
          replace hf := Lib.hid hf
          clear hc
          go_wp2_with fail
          refine hf.out.mono ?_
          rintro e w2 ⟨rfl, hb⟩
          replace hBk := below_step hBk hb
          clear hb hf
          go_wp2_with fail
          go_roundw
          case rel => exact ⟨k + 1, by omega, by go_num, hBk, HN⟩
          case measure => simp [intOf]; omega
        · have HF : Hid (idxErr (enF n P V R K B) = (c, (k : Int))) := Lib.hid (by
            rw [HF1.out, firstE_hit (by rw [hc]; exact h0) HA.out hlt, hc]
            unfold orE
            rw [if_pos h0])
          have hc9 : (0 : Int) < (c : Int) := by omega
          replace hf := Lib.hid hf
          clear hc h0
          go_wp2_with fail
          refine hf.out.mono ?_
          rintro e w2 ⟨rfl, hb⟩
          have hB2 := below_step hBw hb
          obtain ⟨z0, z1, zf⟩ := hzk.below hb
          clear hb hf
          go_wp2_with fail
          refine bodyPost_ret (v := fltV (c, (k : Int))) (by simp [results, Tryz.results64, fltV, go_sem, *]) rfl ?_
          rw [HF.out]
          exact ⟨rfl, (hB2.setCell (p := ⟨w.heap.size, 0, none⟩) (Nat.le_refl _) _).setCell (p := ⟨w.heap.size, 1, none⟩) (Nat.le_refl _) _⟩
      · have HF2 : Hid (idxErr (enF n P V R K B) = firstE (lostE (enF n P V R K B)) n) := Lib.hid (by
          rw [HF1.out, firstE_none (fun j hj => HA.out j (by omega))]
          rfl)
        have hnk : ¬ (k : Int) < (n : Int) := by omega
        clear hlt HA hk
        go_wp2_with fail
        clear hnk
        generalize wr = wl at *
        go_loopw [5] (fun x wr => ∃ k : Nat, k ≤ n ∧ x = .int .i64 k ∧ Below wl.heap.size wl wr ∧ Hid (∀ j, j < k → lostE (enF n P V R K B) j = 0)) (fun x _ => n - (intOf x).toNat)
        case atStart => exact ⟨0, Nat.zero_le _, rfl, Below.refl _ _, Lib.hid (fun j hj => absurd hj (Nat.not_lt_zero _))⟩
        case round =>
          obtain ⟨k, hk, rfl, hBm, HA⟩ := hrel
          have hBx := below_step hBw hBm
          by_cases hlt : k < n
          · have hkn : (k : Int) < (n : Int) := by omega
            obtain ⟨b1, o1, ea, hcell⟩ := H.out.at_ k hlt
            obtain ⟨a1, n1, c1, P1, V1, e1, e2, _, _, hc1⟩ := H.out.reqs k hlt
            have hlen : n1 ≤ 1000000 := by
              have := (HSH.out.at_ hlt).2.2.2.1.1
              rw [e2, mdF_length] at this
              exact this
            have HL : Hid (lostE (enF n P V R K B) k = if (mdF n1 P1 V1).any (lost (enF n P V R K B)) then 5 else 0) := Lib.hid (by unfold lostE; rw [enAt_enF hlt, e2])
            rw [e1] at hcell
            have d2 := hcell.c2
            subst ea
            replace hc1 := Lib.hid hc1
            clear e1 e2 hcell
            go_wp2_with fail
            generalize hwo : wr = wo at *
            clear hwo
            go_loopw [6] (fun x wr => ∃ q : Nat, q ≤ n1 ∧ x = .int .i64 q ∧ Below wo.heap.size wo wr ∧ Hid (∀ j, j < q → lost (enF n P V R K B) ((P1 j).data.toList, (V1 j).data.toList) = false)) (fun x _ => n1 - (intOf x).toNat)
            case atStart => exact ⟨0, Nat.zero_le _, rfl, Below.refl _ _, Lib.hid (fun j hj => absurd hj (Nat.not_lt_zero _))⟩
            case round =>
              obtain ⟨q, hq, rfl, hBn, HA2⟩ := hrel
              have hBy := below_step hBx hBn
              have x2 := Below.cell_some hBy d2
              by_cases hlq : q < n1
              · have hqn : (q : Int) < (n1 : Int) := by omega
                obtain ⟨b2, o2, e3, y0, y1⟩ := hc1.out q hlq
                subst e3
                replace y0 := Below.cell_some hBy y0
                replace y1 := Below.cell_some hBy y1
                have hf := hfo.out (P1 q) (V1 q) wr hBy
                obtain ⟨x, hx⟩ : ∃ x, findE (enF n P V R K B) ((P1 q).data.toList, (V1 q).data.toList) = x := ⟨_, rfl⟩
                rw [hx] at hf
                by_cases h0 : x < 0
                · have HF : Hid (idxErr (enF n P V R K B) = (5, (k : Int))) := Lib.hid (by
                    have hR : lostE (enF n P V R K B) k = 5 := by
                      rw [HL.out, if_pos]
                      rw [List.any_eq_true]
                      refine ⟨_, List.mem_of_getElem? (mdF_get n1 P1 V1 q hlq), ?_⟩
                      unfold lost
                      rw [hx]
                      exact decide_eq_true h0
                    rw [HF2.out, firstE_hit (by rw [hR]; decide) HA.out hlt, hR])
                  have hzy := hz.below (below_step hBk (below_step hBm hBn))
                  replace hf := Lib.hid hf
                  clear hx hlen
                  go_wp2_with fail
                  refine hf.out.mono ?_
                  rintro e w2 ⟨rfl, hb⟩
                  have hB2 := below_step hBy hb
                  obtain ⟨z0, z1, zf⟩ := hzy.below hb
                  clear hb hf x2 y0 y1
                  go_wp2_with fail
                  refine bodyPost_ret (v := fltV (5, (k : Int))) (by simp [results, Tryz.results64, fltV, go_sem, *]) rfl ?_
                  rw [HF.out]
                  exact ⟨rfl, (hB2.setCell (p := ⟨w.heap.size, 0, none⟩) (Nat.le_refl _) _).setCell (p := ⟨w.heap.size, 1, none⟩) (Nat.le_refl _) _⟩
                · have HN : Hid (∀ j, j < q + 1 → lost (enF n P V R K B) ((P1 j).data.toList, (V1 j).data.toList) = false) := Lib.hid (fun j hj => by
                    by_cases e : j = q
                    · subst e; unfold lost; rw [hx]; exact decide_eq_false h0
                    · exact HA2.out j (by omega))
                  have hq0 : decide (x < 0) = false := decide_eq_false h0
                  replace hf := Lib.hid hf
                  clear hx h0
                  go_wp2_with fail
                  refine hf.out.mono ?_
                  rintro e w2 ⟨rfl, hb⟩
                  replace hBn := below_step hBn hb
                  clear hb hf x2 y0 y1
                  go_wp2_with fail
                  go_roundw
                  case rel => exact ⟨q + 1, by omega, by go_num, hBn, HN⟩
                  case measure => simp [intOf]; omega
              · have HN : Hid (∀ j, j < k + 1 → lostE (enF n P V R K B) j = 0) := Lib.hid (fun j hj => by
                  by_cases e : j = k
                  · subst e
                    rw [HL.out, any_mdF (fun i hi => HA2.out i (by omega))]
                    rfl
                  · exact HA.out j (by omega))
                have hnq : ¬ (q : Int) < (n1 : Int) := by omega
                replace hBm := below_step hBm hBn
                clear hlq hq
                go_wp2_with fail
                go_roundw
                case rel => exact ⟨k + 1, by omega, by go_num, hBm, HN⟩
                case measure => simp [intOf]; omega
          · have HF : Hid (idxErr (enF n P V R K B) = (0, -1)) := Lib.hid (by rw [HF2.out, firstE_none (fun j hj => HA.out j (by omega))])
            have hfi := fun W => refFine_calls W
            unfold fltV at hfi
            have hnk : ¬ (k : Int) < (n : Int) := by omega
            have hzy := hz.below (below_step hBk hBm)
            replace hfi := Lib.hid hfi
            clear hlt hk
            go_wp2_with fail
            refine (hfi.out _).mono ?_
            rintro e w2 ⟨rfl, hb⟩
            have hB2 := below_step hBx hb
            obtain ⟨z0, z1, zf⟩ := hzy.below hb
            clear hb hfi
            go_wp2_with fail
            refine bodyPost_ret (v := fltV (0, -1)) (by simp [results, Tryz.results64, fltV, go_sem, *]) rfl ?_
            rw [HF.out]
            exact ⟨rfl, (hB2.setCell (p := ⟨w.heap.size, 0, none⟩) (Nat.le_refl _) _).setCell (p := ⟨w.heap.size, 1, none⟩) (Nat.le_refl _) _⟩
end Go.Proofs.Pw

namespace Go.Proofs.Pw
open Go.RowKit
open Go.Lib hiding intOf
set_option maxHeartbeats 2000000 in
set_option maxRecDepth 100000 in
theorem rank_in (a : Option Addr) (n cap : Nat) (P V : Nat → ByteArray) (R : Nat → List Md) (K : Nat → List Str) (Bk : Nat → Bool) (Rv Kv : Nat → Value) (p s : ByteArray) (w : World) (h : EntsIn w a n cap P V R K Bk Rv Kv) (hn : n ≤ 1000000) (hs : s.size ≤ 1000000000) :
    Calls Tryz.prog 184 #[.slice a n cap, .string p, .string s] w fun e w' => e = .returned (.int .i64 (rankS (enF n P V R K Bk) p.data.toList s.data.toList : Nat)) ∧ Below w.heap.size w w' := by
  have hf := findOf_in a n cap P V R K Bk Rv Kv p s w h hn
  have hvo := fun W => refVerOf_calls s W hs
  have hB : backB (enF n P V R K Bk) p.data.toList s.data.toList = (decide (0 ≤ findE (enF n P V R K Bk) (p.data.toList, s.data.toList)) && (enAt (enF n P V R K Bk) (findE (enF n P V R K Bk) (p.data.toList, s.data.toList)).toNat).back) := rfl
  have hfn := fun h => findE_nat (l := enF n P V R K Bk) (m := (p.data.toList, s.data.toList)) h
  have hR : rankS (enF n P V R K Bk) p.data.toList s.data.toList = if backB (enF n P V R K Bk) p.data.toList s.data.toList = true then 0 else if (decide (verErr s.data.toList ≠ 0) || decide (0 < (verPre s.data.toList).length)) = true then 1 else 2 := rfl
  generalize findE (enF n P V R K Bk) (p.data.toList, s.data.toList) = x at hf hB hfn
  generalize rankS (enF n P V R K Bk) p.data.toList s.data.toList = RK at *
  generalize verPre s.data.toList = VP at *
  generalize verErr s.data.toList = VE at *
  generalize verNum s.data.toList 0 = N0 at *
  generalize verNum s.data.toList 1 = N1 at *
  generalize verNum s.data.toList 2 = N2 at *
  by_cases h0 : x < 0
  · have HR : Hid (RK = if (decide (VE ≠ 0) || decide (0 < VP.length)) = true then 1 else 2) := Lib.hid (by rw [hR, hB, decide_eq_false (by omega)]; rfl)
    have h0' : ¬ (0 : Int) ≤ x := by omega
    clear hfn hB hR
    replace hf := Lib.hid hf
    replace hvo := Lib.hid hvo
    go_enter Tryz.func184, Tryz.ntmps184
    go_wp2_with fail
    refine hf.out.mono ?_
    rintro e w1 ⟨rfl, hb⟩
    go_wp2_with fail
    refine (hvo.out _).mono ?_
    rintro e w2 ⟨⟨v, rfl, hv⟩, hb2⟩
    obtain ⟨a1, n1, c1, L1, rfl, rfl, _⟩ := hv
    rw [lstF_length] at HR
    have hba := below_alloc w2 (.cells #[.int .i64 (N0 : Nat), .int .i64 (N1 : Nat), .int .i64 (N2 : Nat), .slice a1 n1 c1] 81)
    replace hb2 := below_step hb2 hba
    by_cases h5 : VE = 0
    · subst h5
      by_cases h6 : 0 < n1
      · have h6' : (0 : Int) < (n1 : Int) := by omega
        have HR2 : Hid (RK = 1) := Lib.hid (by rw [HR.out]; simp [h6])
        clear HR
        go_wp2_with fail
        go_ret
        rw [HR2.out]
        exact ⟨rfl, below_step hb hb2⟩
      · have h6' : ¬ (0 : Int) < (n1 : Int) := by omega
        have HR2 : Hid (RK = 2) := Lib.hid (by rw [HR.out]; simp [h6])
        clear HR
        go_wp2_with fail
        go_ret
        rw [HR2.out]
        exact ⟨rfl, below_step hb hb2⟩
    · have h5' : (0 : Int) < (VE : Int) := by omega
      have HR2 : Hid (RK = 1) := Lib.hid (by rw [HR.out]; simp [h5])
      clear HR
      go_wp2_with fail
      go_ret
      rw [HR2.out]
      exact ⟨rfl, below_step hb hb2⟩
  · obtain ⟨k, rfl, hk, _⟩ := hfn h0
    rw [enF_length] at hk
    obtain ⟨b1, o1, rfl, hcell⟩ := h.at_ k hk
    have hB2 : backB (enF n P V R K Bk) p.data.toList s.data.toList = Bk k := by
      rw [hB, decide_eq_true (by omega), Bool.true_and]
      show (enAt (enF n P V R K Bk) k).back = _
      rw [enAt_enF hk]
    have h0' : (0 : Int) ≤ (k : Int) := by omega
    have hkn : (k : Int) < (n : Int) := by omega
    have c4 := hcell.c4
    rw [hB2] at hR
    clear hfn hB h0 hcell hB2
    generalize Bk k = X at c4 hR
    cases X with
    | true =>
      have HR : Hid (RK = 0) := Lib.hid (by rw [hR]; rfl)
      clear hR
      replace hf := Lib.hid hf
      go_enter Tryz.func184, Tryz.ntmps184
      go_wp2_with fail
      refine hf.out.mono ?_
      rintro e w1 ⟨rfl, hb⟩
      replace c4 := Below.cell_some hb c4
      go_wp2_with fail
      go_ret
      rw [HR.out]
      exact ⟨rfl, hb⟩
    | false =>
      have HR : Hid (RK = if (decide (VE ≠ 0) || decide (0 < VP.length)) = true then 1 else 2) := Lib.hid (by rw [hR]; rfl)
      clear hR
      replace hf := Lib.hid hf
      replace hvo := Lib.hid hvo
      go_enter Tryz.func184, Tryz.ntmps184
      go_wp2_with fail
      refine hf.out.mono ?_
      rintro e w1 ⟨rfl, hb⟩
      replace c4 := Below.cell_some hb c4
      go_wp2_with fail
      refine (hvo.out _).mono ?_
      rintro e w2 ⟨⟨v, rfl, hv⟩, hb2⟩
      obtain ⟨a1, n1, c1, L1, rfl, rfl, _⟩ := hv
      rw [lstF_length] at HR
      have hba := below_alloc w2 (.cells #[.int .i64 (N0 : Nat), .int .i64 (N1 : Nat), .int .i64 (N2 : Nat), .slice a1 n1 c1] 81)
      replace hb2 := below_step hb2 hba
      by_cases h5 : VE = 0
      · subst h5
        by_cases h6 : 0 < n1
        · have h6' : (0 : Int) < (n1 : Int) := by omega
          have HR2 : Hid (RK = 1) := Lib.hid (by rw [HR.out]; simp [h6])
          clear HR
          go_wp2_with fail
          go_ret
          rw [HR2.out]
          exact ⟨rfl, below_step hb hb2⟩
        · have h6' : ¬ (0 : Int) < (n1 : Int) := by omega
          have HR2 : Hid (RK = 2) := Lib.hid (by rw [HR.out]; simp [h6])
          clear HR
          go_wp2_with fail
          go_ret
          rw [HR2.out]
          exact ⟨rfl, below_step hb hb2⟩
      · have h5' : (0 : Int) < (VE : Int) := by omega
        have HR2 : Hid (RK = 1) := Lib.hid (by rw [HR.out]; simp [h5])
        clear HR
        go_wp2_with fail
        go_ret
        rw [HR2.out]
        exact ⟨rfl, below_step hb hb2⟩
set_option maxHeartbeats 2000000 in
set_option maxRecDepth 100000 in
theorem likedOf_in (a : Option Addr) (n cap : Nat) (P V : Nat → ByteArray) (R : Nat → List Md) (K : Nat → List Str) (Bk : Nat → Bool) (Rv Kv : Nat → Value) (p : ByteArray) (sv : Value) (l : List Str) (w : World) (h : EntsIn w a n cap P V R K Bk Rv Kv) (hn : n ≤ 1000000) (hv : StrsAt w sv l) (hl : l.length ≤ 1000000) (hls : ∀ x ∈ l, x.length ≤ 1000000) :
    Calls Tryz.prog 131 #[.slice a n cap, .string p, sv, .bool false] w fun e w' => e = .returned (.string ⟨(lastS (likedL (enF n P V R K Bk) p.data.toList l)).toArray⟩) ∧ Below w.heap.size w w' := by
  obtain ⟨sa, m, sc, L, rfl, rfl, _, _, hc⟩ := hv
  rw [lstF_length] at hl
  have hrk := fun (j : Nat) (hj : j < m) (W : World) (hb : Below w.heap.size w W) => rank_in a n cap P V R K Bk Rv Kv p (L j) W (h.below hb) hn (by
    have := hls _ (lstF_mem'.2 ⟨j, hj, rfl⟩)
    simp only [Array.length_toList] at this
    have e : (L j).size = (L j).data.size := rfl
    omega)
  rw [← latest_best]
  generalize rankS (enF n P V R K Bk) p.data.toList = rk at *
  replace hrk := Lib.hid hrk
  replace hc := Lib.hid hc
  clear h hls
  go_enter Tryz.func131, Tryz.ntmps131
  go_wp2_with fail
  go_loopw [9, 10, 11, 12] (fun b r i _ wr => ∃ (k : Nat) (T : Str) (z : Int), k ≤ m ∧ i = .int .i64 k ∧ b = .string ⟨T.toArray⟩ ∧ r = .int .i64 z ∧ Hid (bestS rk ((lstF m L).take k) ([], -1) = (T, z)) ∧ Below w.heap.size w wr) (fun _ _ i _ _ => m - (intOf i).toNat)
  case atStart => exact ⟨0, [], -1, Nat.zero_le _, rfl, rfl, rfl, Lib.hid rfl, Below.refl _ _⟩
  case round =>
    obtain ⟨k, T, z, hk, rfl, rfl, rfl, hT, hBr⟩ := hrel
    by_cases hlt : k < m
    · have hkn : (k : Int) < (m : Int) := by omega
      obtain ⟨b1, o1, ea, c0⟩ := hc.out k hlt
      replace c0 := Below.cell_some hBr c0
      subst ea
      have hf := hrk.out k hlt wr hBr
      have hst : bestS rk ((lstF m L).take (k + 1)) ([], -1) = if z ≤ (rk (L k).data.toList : Int) then ((L k).data.toList, (rk (L k).data.toList : Int)) else (T, z) := by
        rw [List.take_add_one, lstF_get m L k hlt]
        show bestS rk (_ ++ [_]) _ = _
        rw [bestS_snoc, hT.out]
      generalize rk (L k).data.toList = q at hf hst
      by_cases hzq : z ≤ (q : Int)
      · rw [if_pos hzq] at hst
        have HS : Hid (bestS rk ((lstF m L).take (k + 1)) ([], -1) = ((L k).data.toList, (q : Int))) := Lib.hid hst
        by_cases hz2 : z < (q : Int)
        · replace hf := Lib.hid hf
          clear hst hT hzq
          go_wp2_with fail
          refine hf.out.mono ?_
          rintro e w1 ⟨rfl, hb⟩
          replace hBr := below_step hBr hb
          replace c0 := Below.cell_some hb c0
          clear hb hf
          go_wp2_with fail
          go_roundw
          case rel => exact ⟨k + 1, _, _, by omega, by go_num, by rw [bytes_back], rfl, HS, hBr⟩
          case measure => simp [intOf]; omega
        · obtain rfl : z = (q : Int) := by omega
          replace hf := Lib.hid hf
          clear hst hT hzq
          go_wp2_with fail
          refine hf.out.mono ?_
          rintro e w1 ⟨rfl, hb⟩
          replace hBr := below_step hBr hb
          replace c0 := Below.cell_some hb c0
          clear hb hf
          go_wp2_with fail
          go_roundw
          case rel => exact ⟨k + 1, _, _, by omega, by go_num, by rw [bytes_back], rfl, HS, hBr⟩
          case measure => simp [intOf]; omega
      · rw [if_neg hzq] at hst
        have HS : Hid (bestS rk ((lstF m L).take (k + 1)) ([], -1) = (T, z)) := Lib.hid hst
        have hz2 : ¬ z < (q : Int) := by omega
        have hz3 : ((q : Int) == z) = false := beq_eq_false_iff_ne.2 (by omega)
        replace hf := Lib.hid hf
        clear hst hT hzq
        go_wp2_with fail
        refine hf.out.mono ?_
        rintro e w1 ⟨rfl, hb⟩
        replace hBr := below_step hBr hb
        clear hb hf c0
        go_wp2_with fail
        go_roundw
        case rel => exact ⟨k + 1, T, z, by omega, by go_num, rfl, rfl, HS, hBr⟩
        case measure => simp [intOf]; omega
    · have HF : Hid (bestS rk (lstF m L) ([], -1) = (T, z)) := Lib.hid (by
        rw [← hT.out, show k = m by omega, List.take_of_length_le (by rw [lstF_length]; exact Nat.le_refl _)])
      have hnk : ¬ (k : Int) < (m : Int) := by omega
      clear hT hlt
      go_wp2_with fail
      go_ret
      rw [HF.out]
      exact ⟨rfl, hBr⟩
theorem latestOf_in (a : Option Addr) (n cap : Nat) (P V : Nat → ByteArray) (R : Nat → List Md) (K : Nat → List Str) (Bk : Nat → Bool) (Rv Kv : Nat → Value) (p : ByteArray) (w : World) (h : EntsIn w a n cap P V R K Bk Rv Kv) (hs : ShortI (enF n P V R K Bk)) :
    Calls Tryz.prog 68 #[.slice a n cap, .string p] w fun e w' => e = .returned (.string ⟨(latestL (enF n P V R K Bk) p.data.toList).toArray⟩) ∧ Below w.heap.size w w' := by
  have hn : n ≤ 1000000 := by have := hs.len; rwa [enF_length] at this
  have h1 := refVersOf_in a n cap P V R K Bk Rv Kv p w h hs
  have h2 := fun W hb v g => likedOf_in a n cap P V R K Bk Rv Kv p v (vsort (versL (enF n P V R K Bk) p.data.toList)) W (h.below hb) hn g (by
    have := versL_size (p := p.data.toList) hs
    exact Nat.le_trans (vsort_len _) this.1) (fun x hx => (versL_size (p := p.data.toList) hs).2 x ((vsort_mem _ _).1 hx).1)
  show Calls _ _ _ _ fun e w' => e = .returned (.string ⟨(lastS (likedL (enF n P V R K Bk) p.data.toList (vsort (versL (enF n P V R K Bk) p.data.toList)))).toArray⟩) ∧ Below w.heap.size w w'
  generalize vsort (versL (enF n P V R K Bk) p.data.toList) = VS at *
  generalize lastS (likedL (enF n P V R K Bk) p.data.toList VS) = LS at *
  replace h1 := Lib.hid h1
  replace h2 := Lib.hid h2
  clear h hs
  go_enter Tryz.func68, Tryz.ntmps68
  go_wp2_with fail
  refine h1.out.mono ?_
  rintro e w1 ⟨⟨v, rfl, hv⟩, hb⟩
  have h3 := h2.out w1 hb v hv
  obtain ⟨a1, n1, c1, _, rfl, _⟩ := id hv
  replace h3 := Lib.hid h3
  clear hv
  go_wp2_with fail
  refine h3.out.mono ?_
  rintro e w2 ⟨rfl, hb2⟩
  go_wp2_with fail
  go_ret
  exact ⟨rfl, below_step hb hb2⟩
end Go.Proofs.Pw
