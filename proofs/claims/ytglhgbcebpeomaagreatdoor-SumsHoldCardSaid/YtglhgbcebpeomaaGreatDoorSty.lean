/- St: walks and plain laws, joined: RefEnt RefRoots. Conditions: at each theorem. -/
import Derived.Test.YtglhgbcebpeomaaGreatDoorStl
import Derived.Test.YtglhgbcebpeomaaGreatDoorStv
import Derived.Test.YtglhgbcebpeomaaGreatDoorStx

namespace Go.Proofs.Pw
open Go.RowKit
open Go.Lib hiding intOf
structure Box5 (w : World) (b : Nat) (v0 v1 v2 v3 v4 : Value) : Prop where
  c0 : w.cell? ⟨b, 0, none⟩ = some v0
  c1 : w.cell? ⟨b, 1, none⟩ = some v1
  c2 : w.cell? ⟨b, 2, none⟩ = some v2
  c3 : w.cell? ⟨b, 3, none⟩ = some v3
  c4 : w.cell? ⟨b, 4, none⟩ = some v4
theorem Box5.below {w w' : World} {b : Nat} {v0 v1 v2 v3 v4 : Value} (h : Box5 w b v0 v1 v2 v3 v4) (hb : Below w.heap.size w w') : Box5 w' b v0 v1 v2 v3 v4 :=
  ⟨Below.cell_some hb h.c0, Below.cell_some hb h.c1, Below.cell_some hb h.c2, Below.cell_some hb h.c3, Below.cell_some hb h.c4⟩
theorem box5_alloc (w : World) (v0 v1 v2 v3 v4 : Value) (t : TypeId) : Box5 (w.alloc (.cells #[v0, v1, v2, v3, v4] t)) w.heap.size v0 v1 v2 v3 v4 := ⟨by simp, by simp, by simp, by simp, by simp⟩
theorem all_lstF {n : Nat} {L : Nat → ByteArray} {p : Str → Bool} : (lstF n L).all p = true ↔ ∀ j, j < n → p (L j).data.toList = true := by
  simp [lstF]
set_option maxHeartbeats 8000000 in
set_option maxRecDepth 100000 in
theorem entryError_in (a : Option Addr) (n cap : Nat) (P V : Nat → ByteArray) (R : Nat → List Md) (K : Nat → List Str) (B : Nat → Bool) (Rv Kv : Nat → Value) (i : Nat) (w : World) (h : EntsIn w a n cap P V R K B Rv Kv) (hs : ShortI (enF n P V R K B)) (hi : i < n) :
    Calls Tryz.prog 123 #[.slice a n cap, .int .i64 i] w fun e w' => e = .returned (.int .i64 (entErr (enF n P V R K B) i : Nat)) ∧ Below w.heap.size w w' := by
  obtain ⟨hn, hp1, hv1, hsr, hk1, hk2⟩ := hs.at_ hi
  have HS0 := entErr_stages (enF n P V R K B) i
  rw [reqsE_of, packsE_of, enAt_enF hi] at HS0
  obtain ⟨b1, o1, ea, hcell⟩ := h.at_ i hi
  obtain ⟨a1, n1, s1, a2, n2, s2, e1, e2⟩ := h.forms hi
  have hM := h.reqs i hi
  have hK := h.packs i hi
  rw [e1] at hM
  rw [e2] at hK
  rw [e1, e2] at hcell
  have hre := fun W (hb : Below w.heap.size w W) => reqsError_calls (P i) (.slice a1 n1 s1) (R i) W (hM.below hb) hsr
  have HLR : Hid ((R i).length = n1) := Lib.hid (by
    obtain ⟨_, _, _, _, _, e, e', _⟩ := id hM
    injection e with _ en _
    rw [e', mdF_length]
    exact en.symm)
  obtain ⟨_, _, _, L, e3, hKL, _, _, hkc⟩ := hK
  injection e3 with e3 e4 e5
  subst e3 e4 e5
  rw [hKL] at hk1 hk2 HS0
  have hme := fun W => refModErr_calls (P i) (V i) W (by omega) (by omega)
  have hB := below_alloc w (.cells #[.string (P i), .string (V i), .slice a1 n1 s1, .slice a2 n2 s2, .bool (B i)] 37)
  have hz := box5_alloc w (.string (P i)) (.string (V i)) (.slice a1 n1 s1) (.slice a2 n2 s2) (.bool (B i)) 37
  have hki : (i : Int) < (n : Int) := by omega
  replace hre := Lib.hid hre
  replace hkc := Lib.hid hkc
  replace hk2 := Lib.hid hk2
  have HSH := Lib.hid hs
  clear e1 e2 hM hsr hs hKL hk1
  by_cases h0 : modErr (P i).data.toList (V i).data.toList = 0
  · rw [h0] at hme
    have h0' : mdErr ((P i).data.toList, (V i).data.toList) = 0 := h0
    by_cases hi0 : i = 0
    · subst hi0
      have HS : Hid (entErr (enF n P V R K B) 0 = if reqsE (P 0).data.toList (R 0) ≠ 0 then reqsE (P 0).data.toList (R 0) else packsE (lstF n2 L)) := Lib.hid (by
        rw [HS0, decide_eq_false (p := _ ∧ _) (fun h => absurd h.1 (by omega))]
        unfold stagesE
        rw [if_neg (fun h => h h0'), if_neg (by simp)])
      simp only [Nat.zero_mul, Nat.add_zero] at hcell
      subst ea
      replace hme := Lib.hid hme
      obtain ⟨c0, c1, c2, c3, c4⟩ := hcell
      obtain ⟨z0, z1, z2, z3, z4⟩ := id hz
      clear HS0 h h0 h0'
      go_enter Tryz.func123, Tryz.ntmps123
      go_wp2_with fail
      generalize w.alloc (.cells #[.string (P 0), .string (V 0), .slice a1 n1 s1, .slice a2 n2 s2, .bool (B 0)] 37) = w1 at *
      refine (hme.out _).mono ?_
      rintro e w2 ⟨rfl, hb⟩
      replace hB := below_step hB hb
      replace hz := hz.below hb
      clear hb
      clear z0 z1 z2 z3 z4 c0 c1 c2 c3 c4 hme
      obtain ⟨z0, z1, z2, z3, z4⟩ := id hz
      by_cases g1 : 20 < n1
      · have HF : Hid (entErr (enF n P V R K B) 0 = 7) := Lib.hid (by rw [HS.out, show reqsE (P 0).data.toList (R 0) = 7 by unfold reqsE; rw [if_pos (by rw [HLR.out]; exact g1)], if_pos (by decide)])
        have g1' : (20 : Int) < (n1 : Int) := by omega
        clear g1
        go_wp2_with fail
        go_ret
        rw [HF.out]
        exact ⟨rfl, hB⟩
      · have g1' : ¬ (20 : Int) < (n1 : Int) := by omega
        obtain ⟨r, hr⟩ : ∃ r, firstE (reqE (P 0).data.toList (R 0)) (R 0).length = r := ⟨_, rfl⟩
        have hre1 := hre.out _ hB
        rw [hr] at hre1
        have hrE : reqsE (P 0).data.toList (R 0) = r.1 := by unfold reqsE; rw [if_neg (by rw [HLR.out]; exact g1), hr]
        by_cases g2 : r.1 = 0
        · have HS2 : Hid (entErr (enF n P V R K B) 0 = packsE (lstF n2 L)) := Lib.hid (by rw [HS.out, hrE, if_neg (by simp [g2])])
          have hrq : rqP r = (0, 0) := by unfold rqP; rw [if_pos g2]
          rw [hrq] at hre1
          simp only at hre1
          replace hre1 := Lib.hid hre1
          clear g1 g2 hr hrq hrE
          go_wp2_with fail
          refine hre1.out.mono ?_
          rintro e w5 ⟨rfl, hb⟩
          replace hB := below_step hB hb
          replace hz := hz.below hb
          clear hb
          clear z0 z1 z2 z3 z4 hre1
          obtain ⟨z0, z1, z2, z3, z4⟩ := id hz
          by_cases g3 : 10 < n2
          · have HF : Hid (entErr (enF n P V R K B) 0 = 7) := Lib.hid (by rw [HS2.out]; unfold packsE; rw [lstF_length, if_pos g3])
            have g3' : (10 : Int) < (n2 : Int) := by omega
            clear g3
            go_wp2_with fail
            go_ret
            rw [HF.out]
            exact ⟨rfl, hB⟩
          · have g3' : ¬ (10 : Int) < (n2 : Int) := by omega
            have HS3 : Hid (entErr (enF n P V R K B) 0 = if (lstF n2 L).all packOk then (firstE (packE (lstF n2 L)) n2).1 else 1) := Lib.hid (by rw [HS2.out]; unfold packsE; rw [lstF_length, if_neg g3])
            have HN2 := Lib.hid g3
            clear g3
            go_wp2_with fail
            clear g1' g3' z0 z1 z2 z3 z4
            go_loopw [8] (fun x wr => ∃ q : Nat, q ≤ n2 ∧ x = .int .i64 q ∧ Below w5.heap.size w5 wr ∧ Hid (∀ j, j < q → packOk (L j).data.toList = true)) (fun x _ => n2 - (intOf x).toNat)
            case atStart => exact ⟨0, Nat.zero_le _, rfl, Below.refl _ _, Lib.hid (fun j hj => absurd hj (Nat.not_lt_zero _))⟩
            case round =>
              obtain ⟨q, hq, rfl, hBk, HA⟩ := hrel
              have hn2 := HN2.out
              have hBw := below_step hB hBk
              obtain ⟨z0, z1, z2, z3, z4⟩ := hz.below hBk
              by_cases hlt : q < n2
              · have hkn : (q : Int) < (n2 : Int) := by omega
                obtain ⟨b2, o2, e3, d0⟩ := hkc.out q hlt
                replace d0 := Below.cell_some hBw d0
                subst e3
                have hpl := (hk2.out _ (List.mem_of_getElem? (lstF_get n2 L q hlt)))
                by_cases m1 : (L q).data.toList = [46]
                · have HN : Hid (∀ j, j < q + 1 → packOk (L j).data.toList = true) := Lib.hid (fun j hj => by
                    by_cases e : j = q
                    · subst e; unfold packOk; rw [decide_eq_true m1]; rfl
                    · exact HA.out j (by omega))
                  have m2 : ((L q).toList != [46]) = false := by rw [toList_data, m1]; rfl
                  have m3 : (L q).toList = [46] := by rw [toList_data, m1]
                  clear m1 hpl hn2
                  go_wp2_with fail
                  go_roundw
                  case rel => exact ⟨q + 1, by omega, by go_num, hBk, HN⟩
                  case measure => simp [intOf]; omega
                · have m2 : ((L q).toList != [46]) = true := by rw [toList_data]; exact bne_iff_ne.2 m1
                  have m3 : (L q).toList ≠ [46] := by rw [toList_data]; exact m1
                  have m5 : ((L q).toList == [46]) = false := beq_eq_false_iff_ne.2 m3
                  have hpa := refPath_calls (L q) wr (by rw [size_eq]; omega)
                  by_cases m0 : pathErr (L q).data.toList = 0
                  · have HN : Hid (∀ j, j < q + 1 → packOk (L j).data.toList = true) := Lib.hid (fun j hj => by
                      by_cases e : j = q
                      · subst e; unfold packOk; rw [decide_eq_true m0, Bool.or_true]
                      · exact HA.out j (by omega))
                    rw [m0] at hpa
                    replace hpa := Lib.hid hpa
                    clear m0 m1 hpl hn2
                    go_wp2_with fail
                    refine hpa.out.mono ?_
                    rintro e w6 ⟨rfl, hb⟩
                    replace hBk := below_step hBk hb
                    clear hb hpa
                    go_wp2_with fail
                    go_roundw
                    case rel => exact ⟨q + 1, by omega, by go_num, hBk, HN⟩
                    case measure => simp [intOf]; omega
                  · have HF : Hid (entErr (enF n P V R K B) 0 = 1) := Lib.hid (by
                      rw [HS3.out, if_neg]
                      intro hall
                      have := all_lstF.1 hall q hlt
                      unfold packOk at this
                      rw [decide_eq_false m0, decide_eq_false m1] at this
                      cases this)
                    generalize pathErr (L q).data.toList = c at *
                    have hc9 : (0 : Int) < (c : Int) := by omega
                    replace hpa := Lib.hid hpa
                    clear m0 m1 hpl hn2
                    go_wp2_with fail
                    refine hpa.out.mono ?_
                    rintro e w6 ⟨rfl, hb⟩
                    replace hBw := below_step hBw hb
                    clear hb hpa
                    go_wp2_with fail
                    go_ret
                    rw [HF.out]
                    exact ⟨rfl, hBw⟩
              · have hqn : q = n2 := by omega
                have HS4 : Hid (entErr (enF n P V R K B) 0 = (firstE (packE (lstF n2 L)) n2).1) := Lib.hid (by rw [HS3.out, if_pos (all_lstF.2 (fun j hj => HA.out j (by omega)))])
                have hnq : ¬ (q : Int) < (n2 : Int) := by omega
                have hzk := hz.below hBk
                clear hqn HA hn2 hq hlt
                go_wp2_with fail
                generalize wr = wl at *
                clear z0 z1 z2 z3 z4 hnq
                go_loopw [9] (fun x wr => ∃ q : Nat, (q + 1 ≤ n2 ∨ q = 0) ∧ x = .int .i64 ((q + 1 : Nat) : Int) ∧ Below wl.heap.size wl wr ∧ Hid (∀ j, j < q + 1 → packE (lstF n2 L) j = 0)) (fun x _ => n2 - (intOf x).toNat)
                case atStart =>
                  exact ⟨0, .inr rfl, rfl, Below.refl _ _, Lib.hid (fun j hj => by
                    obtain rfl : j = 0 := by omega
                    unfold packE
                    rw [if_neg (fun h => absurd h.1 (Nat.lt_irrefl _))])⟩
                case round =>
                  obtain ⟨q2, hq2, rfl, hBm, HA2⟩ := hrel
                  have hn2 := HN2.out
                  have hBx := below_step hBw hBm
                  obtain ⟨z0, z1, z2, z3, z4⟩ := hzk.below hBm
                  by_cases hlt : q2 + 1 < n2
                  · have hkn : ((q2 + 1 : Nat) : Int) < (n2 : Int) := by omega
                    have hk1 : ((q2 + 1 : Nat) : Int) - 1 = (q2 : Int) := by omega
                    have hkw := wrap_nat q2 (by omega)
                    have hkw1 := wrap_nat (q2 + 1) (by omega)
                    have hkn2 : (q2 : Int) < (n2 : Int) := by omega
                    have hkn3 : (q2 : Int) + 1 < (n2 : Int) := by omega
                    have hkn4 : ((q2 : Int) + 1).toNat = q2 + 1 := by omega
                    have hkn5 : (0 : Int) ≤ (q2 : Int) + 1 := by omega
                    have hkn6 : ¬ ((q2 : Int) + 1 < 0) := by omega
                    obtain ⟨b2, o2, e3, d0⟩ := hkc.out (q2 + 1) hlt
                    obtain ⟨b3, o3, e4, d1⟩ := hkc.out q2 (by omega)
                    rw [e3] at e4
                    injection e4 with e4
                    injection e4 with e5 e6
                    subst e5 e6
                    subst e3
                    replace d0 := Below.cell_some hBx d0
                    replace d1 := Below.cell_some hBx d1
                    have hle := leq_eq (L (q2 + 1)) (L q2)
                    have hR : packE (lstF n2 L) (q2 + 1) = if compareBytes (L (q2 + 1)).data.toList (L q2).data.toList ≤ 0 then 8 else 0 := by
                      unfold packE
                      rw [Nat.add_sub_cancel, getD_lstF hlt, getD_lstF (by omega)]
                      simp only [Nat.succ_pos, true_and]
                    by_cases hc0 : compareBytes (L (q2 + 1)).data.toList (L q2).data.toList ≤ 0
                    · rw [if_pos hc0] at hR
                      rw [decide_eq_true hc0] at hle
                      have HF : Hid (entErr (enF n P V R K B) 0 = 8) := Lib.hid (by rw [HS4.out, firstE_hit (by rw [hR]; decide) HA2.out hlt, hR])
                      clear hR hc0 hn2 hq2
                      go_wp2_with fail
                      have kqz3 := fun d os => cell_patch (d := d) (os := os) z3
                      have kqd0 := fun d os => cell_patch (d := d) (os := os) d0
                      have kqd1 := fun d os => cell_patch (d := d) (os := os) d1
                      refine wp_region_quiet_patch (by kernel_rfl) (by kernel_rfl) ?_
                      repeat (go_big_quiet_step (fail))
                      refine wpQuiet_nil ?_
                      intro _ hw'
                      obtain ⟨⟨dq, osq⟩, hw''⟩ := hw'
                      subst hw''
                      clear kqz3 kqd0 kqd1
                      have hb := below_patch wr dq osq
                      replace hBx := below_step hBx hb
                      clear hb
                      generalize patch wr dq osq = wq1 at hBx ⊢
                      go_wp2_with fail
                      go_ret
                      rw [HF.out]
                      exact ⟨rfl, hBx⟩
                    · rw [if_neg hc0] at hR
                      rw [decide_eq_false hc0] at hle
                      have HN : Hid (∀ j, j < q2 + 1 + 1 → packE (lstF n2 L) j = 0) := Lib.hid (fun j hj => by
                        by_cases e : j = q2 + 1
                        · subst e; exact hR
                        · exact HA2.out j (by omega))
                      clear hR hc0 hq2
                      go_wp2_with fail
                      have kqz3 := fun d os => cell_patch (d := d) (os := os) z3
                      have kqd0 := fun d os => cell_patch (d := d) (os := os) d0
                      have kqd1 := fun d os => cell_patch (d := d) (os := os) d1
                      refine wp_region_quiet_patch (by kernel_rfl) (by kernel_rfl) ?_
                      repeat (go_big_quiet_step (fail))
                      refine wpQuiet_nil ?_
                      intro _ hw'
                      obtain ⟨⟨dq, osq⟩, hw''⟩ := hw'
                      subst hw''
                      clear kqz3 kqd0 kqd1
                      have hb := below_patch wr dq osq
                      replace hBm := below_step hBm hb
                      clear hb
                      generalize patch wr dq osq = wq1 at hBm ⊢
                      go_wp2_with fail
                      go_roundw
                      case rel => exact ⟨q2 + 1, .inl (by omega), by go_num, hBm, HN⟩
                      case measure => simp [intOf]; omega
                  · have HF : Hid (entErr (enF n P V R K B) 0 = 0) := Lib.hid (by rw [HS4.out, firstE_none (fun j hj => HA2.out j (by omega))])
                    have hnk : ¬ ((q2 + 1 : Nat) : Int) < (n2 : Int) := by omega
                    have hnk2 : ¬ (q2 : Int) + 1 < (n2 : Int) := by omega
                    clear hlt hn2 hq2
                    go_wp2_with fail
                    go_ret
                    rw [HF.out]
                    exact ⟨rfl, hBx⟩
        · have HF : Hid (entErr (enF n P V R K B) 0 = r.1) := Lib.hid (by rw [HS.out, hrE, if_pos g2])
          have hrq : rqP r = r := by unfold rqP; rw [if_neg g2]
          rw [hrq] at hre1
          have g4 : (0 : Int) < (r.1 : Int) := by omega
          generalize r.1 = r1 at *
          replace hre1 := Lib.hid hre1
          clear g1 g2 hr hrq hrE
          go_wp2_with fail
          refine hre1.out.mono ?_
          rintro e w5 ⟨rfl, hb⟩
          have hB5 := below_step hB hb
          go_wp2_with fail
          go_ret
          rw [HF.out]
          exact ⟨rfl, hB5⟩
    · obtain ⟨k, rfl⟩ : ∃ k, i = k + 1 := ⟨i - 1, by omega⟩
      have hkn : k < n := by omega
      obtain ⟨b2, o2, eb, hcell2⟩ := h.at_ k hkn
      rw [Nat.add_sub_cancel, enAt_enF hkn] at HS0
      have hk0 : (0 : Int) < ((k + 1 : Nat) : Int) := by omega
      have hk1' : ((k + 1 : Nat) : Int) - 1 = (k : Int) := by omega
      have hkw := wrap_nat k (by omega)
      have hkw1 := wrap_nat (k + 1) (by omega)
      have hkn2 : (k : Int) < (n : Int) := by omega
      have hkn3 : (k : Int) + 1 < (n : Int) := by omega
      have hkn4 : ((k : Int) + 1).toNat = k + 1 := by omega
      have hkn5 : (0 : Int) ≤ (k : Int) + 1 := by omega
      have hkn6 : ¬ ((k : Int) + 1 < 0) := by omega
      rw [ea] at eb
      injection eb with eb
      injection eb with eb1 eb2
      subst eb1 eb2
      obtain ⟨d0, d1, d2, d3, d4⟩ := hcell2
      subst ea
      have hvk := (HSH.out.at_ hkn).2.2.1
      have hia := fun W => isAhead_calls (P k) (V k) (P (k + 1)) (V (k + 1)) W (by omega) (by omega)
      clear hvk
      obtain ⟨c0, c1, c2, c3, c4⟩ := hcell
      obtain ⟨z0, z1, z2, z3, z4⟩ := id hz
      have dB := below_alloc w (.cells #[.string (P (k + 1)), .string (V (k + 1)), .slice a1 n1 s1, .slice a2 n2 s2, .bool (B (k + 1))] 37)
      replace d0 := Below.cell_some dB d0
      replace d1 := Below.cell_some dB d1
      cases hX : modAhead ((P k).data.toList, (V k).data.toList) ((P (k + 1)).data.toList, (V (k + 1)).data.toList) with
      | true =>
        rw [hX] at hia
        have HS : Hid (entErr (enF n P V R K B) (k + 1) = if reqsE (P (k + 1)).data.toList (R (k + 1)) ≠ 0 then reqsE (P (k + 1)).data.toList (R (k + 1)) else packsE (lstF n2 L)) := Lib.hid (by
          rw [HS0, decide_eq_false (p := _ ∧ _) (fun h => by rw [hX] at h; cases h.2)]
          unfold stagesE
          rw [if_neg (fun h => h h0'), if_neg (by simp)])
        replace hme := Lib.hid hme
        replace hia := Lib.hid hia
        clear HS0 h h0 h0' hX d2 d3 d4 dB
        go_enter Tryz.func123, Tryz.ntmps123
        go_wp2_with fail
        generalize w.alloc (.cells #[.string (P (k + 1)), .string (V (k + 1)), .slice a1 n1 s1, .slice a2 n2 s2, .bool (B (k + 1))] 37) = w1 at *
        refine (hme.out _).mono ?_
        rintro e w2 ⟨rfl, hb⟩
        replace hB := below_step hB hb
        replace hz := hz.below hb
        replace d0 := Below.cell_some hb d0
        replace d1 := Below.cell_some hb d1
        clear hb
        clear z0 z1 z2 z3 z4 c0 c1 c2 c3 c4 hme
        obtain ⟨z0, z1, z2, z3, z4⟩ := id hz
        go_wp2_with fail
        have kqd0 := fun d os => cell_patch (d := d) (os := os) d0
        have kqd1 := fun d os => cell_patch (d := d) (os := os) d1
        have kqz0 := fun d os => cell_patch (d := d) (os := os) z0
        have kqz1 := fun d os => cell_patch (d := d) (os := os) z1
        refine wp_region_quiet_patch (by kernel_rfl) (by kernel_rfl) ?_
        repeat (go_big_quiet_step ((go_at_call 66; exact Calls.patch_of (hia.out _))))
        refine wpQuiet_nil ?_
        intro _ hw'
        obtain ⟨⟨dq, osq⟩, hw''⟩ := hw'
        subst hw''
        clear kqd0 kqd1 kqz0 kqz1
        have hb := below_patch w2 dq osq
        replace hB := below_step hB hb
        replace hz := hz.below hb
        clear hb
        generalize patch w2 dq osq = w3 at hB hz ⊢
        clear d0 d1 z0 z1 z2 z3 z4 hia
        obtain ⟨z0, z1, z2, z3, z4⟩ := id hz
        by_cases g1 : 20 < n1
        · have HF : Hid (entErr (enF n P V R K B) (k + 1) = 7) := Lib.hid (by rw [HS.out, show reqsE (P (k + 1)).data.toList (R (k + 1)) = 7 by unfold reqsE; rw [if_pos (by rw [HLR.out]; exact g1)], if_pos (by decide)])
          have g1' : (20 : Int) < (n1 : Int) := by omega
          clear g1
          go_wp2_with fail
          go_ret
          rw [HF.out]
          exact ⟨rfl, hB⟩
        · have g1' : ¬ (20 : Int) < (n1 : Int) := by omega
          obtain ⟨r, hr⟩ : ∃ r, firstE (reqE (P (k + 1)).data.toList (R (k + 1))) (R (k + 1)).length = r := ⟨_, rfl⟩
          have hre1 := hre.out _ hB
          rw [hr] at hre1
          have hrE : reqsE (P (k + 1)).data.toList (R (k + 1)) = r.1 := by unfold reqsE; rw [if_neg (by rw [HLR.out]; exact g1), hr]
          by_cases g2 : r.1 = 0
          · have HS2 : Hid (entErr (enF n P V R K B) (k + 1) = packsE (lstF n2 L)) := Lib.hid (by rw [HS.out, hrE, if_neg (by simp [g2])])
            have hrq : rqP r = (0, 0) := by unfold rqP; rw [if_pos g2]
            rw [hrq] at hre1
            simp only at hre1
            replace hre1 := Lib.hid hre1
            clear g1 g2 hr hrq hrE
            go_wp2_with fail
            refine hre1.out.mono ?_
            rintro e w5 ⟨rfl, hb⟩
            replace hB := below_step hB hb
            replace hz := hz.below hb
            clear hb
            clear z0 z1 z2 z3 z4 hre1
            obtain ⟨z0, z1, z2, z3, z4⟩ := id hz
            by_cases g3 : 10 < n2
            · have HF : Hid (entErr (enF n P V R K B) (k + 1) = 7) := Lib.hid (by rw [HS2.out]; unfold packsE; rw [lstF_length, if_pos g3])
              have g3' : (10 : Int) < (n2 : Int) := by omega
              clear g3
              go_wp2_with fail
              go_ret
              rw [HF.out]
              exact ⟨rfl, hB⟩
            · have g3' : ¬ (10 : Int) < (n2 : Int) := by omega
              have HS3 : Hid (entErr (enF n P V R K B) (k + 1) = if (lstF n2 L).all packOk then (firstE (packE (lstF n2 L)) n2).1 else 1) := Lib.hid (by rw [HS2.out]; unfold packsE; rw [lstF_length, if_neg g3])
              have HN2 := Lib.hid g3
              clear g3
              go_wp2_with fail
              clear g1' g3' z0 z1 z2 z3 z4
              go_loopw [8] (fun x wr => ∃ q : Nat, q ≤ n2 ∧ x = .int .i64 q ∧ Below w5.heap.size w5 wr ∧ Hid (∀ j, j < q → packOk (L j).data.toList = true)) (fun x _ => n2 - (intOf x).toNat)
              case atStart => exact ⟨0, Nat.zero_le _, rfl, Below.refl _ _, Lib.hid (fun j hj => absurd hj (Nat.not_lt_zero _))⟩
              case round =>
                obtain ⟨q, hq, rfl, hBk, HA⟩ := hrel
                have hn2 := HN2.out
                have hBw := below_step hB hBk
                obtain ⟨z0, z1, z2, z3, z4⟩ := hz.below hBk
                by_cases hlt : q < n2
                · have hkn : (q : Int) < (n2 : Int) := by omega
                  obtain ⟨b2, o2, e3, d0⟩ := hkc.out q hlt
                  replace d0 := Below.cell_some hBw d0
                  subst e3
                  have hpl := (hk2.out _ (List.mem_of_getElem? (lstF_get n2 L q hlt)))
                  by_cases m1 : (L q).data.toList = [46]
                  · have HN : Hid (∀ j, j < q + 1 → packOk (L j).data.toList = true) := Lib.hid (fun j hj => by
                      by_cases e : j = q
                      · subst e; unfold packOk; rw [decide_eq_true m1]; rfl
                      · exact HA.out j (by omega))
                    have m2 : ((L q).toList != [46]) = false := by rw [toList_data, m1]; rfl
                    have m3 : (L q).toList = [46] := by rw [toList_data, m1]
                    clear m1 hpl hn2
                    go_wp2_with fail
                    go_roundw
                    case rel => exact ⟨q + 1, by omega, by go_num, hBk, HN⟩
                    case measure => simp [intOf]; omega
                  · have m2 : ((L q).toList != [46]) = true := by rw [toList_data]; exact bne_iff_ne.2 m1
                    have m3 : (L q).toList ≠ [46] := by rw [toList_data]; exact m1
                    have m5 : ((L q).toList == [46]) = false := beq_eq_false_iff_ne.2 m3
                    have hpa := refPath_calls (L q) wr (by rw [size_eq]; omega)
                    by_cases m0 : pathErr (L q).data.toList = 0
                    · have HN : Hid (∀ j, j < q + 1 → packOk (L j).data.toList = true) := Lib.hid (fun j hj => by
                        by_cases e : j = q
                        · subst e; unfold packOk; rw [decide_eq_true m0, Bool.or_true]
                        · exact HA.out j (by omega))
                      rw [m0] at hpa
                      replace hpa := Lib.hid hpa
                      clear m0 m1 hpl hn2
                      go_wp2_with fail
                      refine hpa.out.mono ?_
                      rintro e w6 ⟨rfl, hb⟩
                      replace hBk := below_step hBk hb
                      clear hb hpa
                      go_wp2_with fail
                      go_roundw
                      case rel => exact ⟨q + 1, by omega, by go_num, hBk, HN⟩
                      case measure => simp [intOf]; omega
                    · have HF : Hid (entErr (enF n P V R K B) (k + 1) = 1) := Lib.hid (by
                        rw [HS3.out, if_neg]
                        intro hall
                        have := all_lstF.1 hall q hlt
                        unfold packOk at this
                        rw [decide_eq_false m0, decide_eq_false m1] at this
                        cases this)
                      generalize pathErr (L q).data.toList = c at *
                      have hc9 : (0 : Int) < (c : Int) := by omega
                      replace hpa := Lib.hid hpa
                      clear m0 m1 hpl hn2
                      go_wp2_with fail
                      refine hpa.out.mono ?_
                      rintro e w6 ⟨rfl, hb⟩
                      replace hBw := below_step hBw hb
                      clear hb hpa
                      go_wp2_with fail
                      go_ret
                      rw [HF.out]
                      exact ⟨rfl, hBw⟩
                · have hqn : q = n2 := by omega
                  have HS4 : Hid (entErr (enF n P V R K B) (k + 1) = (firstE (packE (lstF n2 L)) n2).1) := Lib.hid (by rw [HS3.out, if_pos (all_lstF.2 (fun j hj => HA.out j (by omega)))])
                  have hnq : ¬ (q : Int) < (n2 : Int) := by omega
                  have hzk := hz.below hBk
                  clear hqn HA hn2 hq hlt
                  go_wp2_with fail
                  generalize wr = wl at *
                  clear z0 z1 z2 z3 z4 hnq
                  go_loopw [9] (fun x wr => ∃ q : Nat, (q + 1 ≤ n2 ∨ q = 0) ∧ x = .int .i64 ((q + 1 : Nat) : Int) ∧ Below wl.heap.size wl wr ∧ Hid (∀ j, j < q + 1 → packE (lstF n2 L) j = 0)) (fun x _ => n2 - (intOf x).toNat)
                  case atStart =>
                    exact ⟨0, .inr rfl, rfl, Below.refl _ _, Lib.hid (fun j hj => by
                      obtain rfl : j = 0 := by omega
                      unfold packE
                      rw [if_neg (fun h => absurd h.1 (Nat.lt_irrefl _))])⟩
                  case round =>
                    obtain ⟨q2, hq2, rfl, hBm, HA2⟩ := hrel
                    have hn2 := HN2.out
                    have hBx := below_step hBw hBm
                    obtain ⟨z0, z1, z2, z3, z4⟩ := hzk.below hBm
                    by_cases hlt : q2 + 1 < n2
                    · have hkn : ((q2 + 1 : Nat) : Int) < (n2 : Int) := by omega
                      have hk1 : ((q2 + 1 : Nat) : Int) - 1 = (q2 : Int) := by omega
                      have hkw := wrap_nat q2 (by omega)
                      have hkw1 := wrap_nat (q2 + 1) (by omega)
                      have hkn2 : (q2 : Int) < (n2 : Int) := by omega
                      have hkn3 : (q2 : Int) + 1 < (n2 : Int) := by omega
                      have hkn4 : ((q2 : Int) + 1).toNat = q2 + 1 := by omega
                      have hkn5 : (0 : Int) ≤ (q2 : Int) + 1 := by omega
                      have hkn6 : ¬ ((q2 : Int) + 1 < 0) := by omega
                      obtain ⟨b2, o2, e3, d0⟩ := hkc.out (q2 + 1) hlt
                      obtain ⟨b3, o3, e4, d1⟩ := hkc.out q2 (by omega)
                      rw [e3] at e4
                      injection e4 with e4
                      injection e4 with e5 e6
                      subst e5 e6
                      subst e3
                      replace d0 := Below.cell_some hBx d0
                      replace d1 := Below.cell_some hBx d1
                      have hle := leq_eq (L (q2 + 1)) (L q2)
                      have hR : packE (lstF n2 L) (q2 + 1) = if compareBytes (L (q2 + 1)).data.toList (L q2).data.toList ≤ 0 then 8 else 0 := by
                        unfold packE
                        rw [Nat.add_sub_cancel, getD_lstF hlt, getD_lstF (by omega)]
                        simp only [Nat.succ_pos, true_and]
                      by_cases hc0 : compareBytes (L (q2 + 1)).data.toList (L q2).data.toList ≤ 0
                      · rw [if_pos hc0] at hR
                        rw [decide_eq_true hc0] at hle
                        have HF : Hid (entErr (enF n P V R K B) (k + 1) = 8) := Lib.hid (by rw [HS4.out, firstE_hit (by rw [hR]; decide) HA2.out hlt, hR])
                        clear hR hc0 hn2 hq2
                        go_wp2_with fail
                        have kqz3 := fun d os => cell_patch (d := d) (os := os) z3
                        have kqd0 := fun d os => cell_patch (d := d) (os := os) d0
                        have kqd1 := fun d os => cell_patch (d := d) (os := os) d1
                        refine wp_region_quiet_patch (by kernel_rfl) (by kernel_rfl) ?_
                        repeat (go_big_quiet_step (fail))
                        refine wpQuiet_nil ?_
                        intro _ hw'
                        obtain ⟨⟨dq, osq⟩, hw''⟩ := hw'
                        subst hw''
                        clear kqz3 kqd0 kqd1
                        have hb := below_patch wr dq osq
                        replace hBx := below_step hBx hb
                        clear hb
                        generalize patch wr dq osq = wq1 at hBx ⊢
                        go_wp2_with fail
                        go_ret
                        rw [HF.out]
                        exact ⟨rfl, hBx⟩
                      · rw [if_neg hc0] at hR
                        rw [decide_eq_false hc0] at hle
                        have HN : Hid (∀ j, j < q2 + 1 + 1 → packE (lstF n2 L) j = 0) := Lib.hid (fun j hj => by
                          by_cases e : j = q2 + 1
                          · subst e; exact hR
                          · exact HA2.out j (by omega))
                        clear hR hc0 hq2
                        go_wp2_with fail
                        have kqz3 := fun d os => cell_patch (d := d) (os := os) z3
                        have kqd0 := fun d os => cell_patch (d := d) (os := os) d0
                        have kqd1 := fun d os => cell_patch (d := d) (os := os) d1
                        refine wp_region_quiet_patch (by kernel_rfl) (by kernel_rfl) ?_
                        repeat (go_big_quiet_step (fail))
                        refine wpQuiet_nil ?_
                        intro _ hw'
                        obtain ⟨⟨dq, osq⟩, hw''⟩ := hw'
                        subst hw''
                        clear kqz3 kqd0 kqd1
                        have hb := below_patch wr dq osq
                        replace hBm := below_step hBm hb
                        clear hb
                        generalize patch wr dq osq = wq1 at hBm ⊢
                        go_wp2_with fail
                        go_roundw
                        case rel => exact ⟨q2 + 1, .inl (by omega), by go_num, hBm, HN⟩
                        case measure => simp [intOf]; omega
                    · have HF : Hid (entErr (enF n P V R K B) (k + 1) = 0) := Lib.hid (by rw [HS4.out, firstE_none (fun j hj => HA2.out j (by omega))])
                      have hnk : ¬ ((q2 + 1 : Nat) : Int) < (n2 : Int) := by omega
                      have hnk2 : ¬ (q2 : Int) + 1 < (n2 : Int) := by omega
                      clear hlt hn2 hq2
                      go_wp2_with fail
                      go_ret
                      rw [HF.out]
                      exact ⟨rfl, hBx⟩
          · have HF : Hid (entErr (enF n P V R K B) (k + 1) = r.1) := Lib.hid (by rw [HS.out, hrE, if_pos g2])
            have hrq : rqP r = r := by unfold rqP; rw [if_neg g2]
            rw [hrq] at hre1
            have g4 : (0 : Int) < (r.1 : Int) := by omega
            generalize r.1 = r1 at *
            replace hre1 := Lib.hid hre1
            clear g1 g2 hr hrq hrE
            go_wp2_with fail
            refine hre1.out.mono ?_
            rintro e w5 ⟨rfl, hb⟩
            have hB5 := below_step hB hb
            go_wp2_with fail
            go_ret
            rw [HF.out]
            exact ⟨rfl, hB5⟩
      | false =>
        rw [hX] at hia
        have HF : Hid (entErr (enF n P V R K B) (k + 1) = 8) := Lib.hid (by
          rw [HS0, decide_eq_true (p := _ ∧ _) ⟨Nat.succ_pos k, hX⟩]
          unfold stagesE
          rw [if_neg (fun h => h h0'), if_pos rfl])
        replace hme := Lib.hid hme
        replace hia := Lib.hid hia
        clear HS0 h h0 h0' hX d2 d3 d4 dB
        go_enter Tryz.func123, Tryz.ntmps123
        go_wp2_with fail
        generalize w.alloc (.cells #[.string (P (k + 1)), .string (V (k + 1)), .slice a1 n1 s1, .slice a2 n2 s2, .bool (B (k + 1))] 37) = w1 at *
        refine (hme.out _).mono ?_
        rintro e w2 ⟨rfl, hb⟩
        replace hB := below_step hB hb
        replace hz := hz.below hb
        replace d0 := Below.cell_some hb d0
        replace d1 := Below.cell_some hb d1
        clear hb
        clear z0 z1 z2 z3 z4 c0 c1 c2 c3 c4 hme
        obtain ⟨z0, z1, z2, z3, z4⟩ := id hz
        go_wp2_with fail
        have kqd0 := fun d os => cell_patch (d := d) (os := os) d0
        have kqd1 := fun d os => cell_patch (d := d) (os := os) d1
        have kqz0 := fun d os => cell_patch (d := d) (os := os) z0
        have kqz1 := fun d os => cell_patch (d := d) (os := os) z1
        refine wp_region_quiet_patch (by kernel_rfl) (by kernel_rfl) ?_
        repeat (go_big_quiet_step ((go_at_call 66; exact Calls.patch_of (hia.out _))))
        refine wpQuiet_nil ?_
        intro _ hw'
        obtain ⟨⟨dq, osq⟩, hw''⟩ := hw'
        subst hw''
        clear kqd0 kqd1 kqz0 kqz1
        have hb := below_patch w2 dq osq
        replace hB := below_step hB hb
        replace hz := hz.below hb
        clear hb
        generalize patch w2 dq osq = w3 at hB hz ⊢
        clear d0 d1 z0 z1 z2 z3 z4 hia
        go_wp2_with fail
        go_ret
        rw [HF.out]
        exact ⟨rfl, hB⟩
  · have HF : Hid (entErr (enF n P V R K B) i = modErr (P i).data.toList (V i).data.toList) := Lib.hid (by
      rw [HS0]
      unfold stagesE
      rw [if_pos (by exact h0)]
      rfl)
    generalize modErr (P i).data.toList (V i).data.toList = c at *
    have hc9 : (0 : Int) < (c : Int) := by omega
    subst ea
    replace hme := Lib.hid hme
    obtain ⟨c0, c1, c2, c3, c4⟩ := hcell
    obtain ⟨z0, z1, z2, z3, z4⟩ := id hz
    clear HS0 h h0
    go_enter Tryz.func123, Tryz.ntmps123
    go_wp2_with fail
    generalize w.alloc (.cells #[.string (P i), .string (V i), .slice a1 n1 s1, .slice a2 n2 s2, .bool (B i)] 37) = w1 at *
    refine (hme.out _).mono ?_
    rintro e w2 ⟨rfl, hb⟩
    replace hB := below_step hB hb
    clear hb z0 z1 z2 z3 z4 c0 c1 c2 c3 c4
    go_wp2_with fail
    go_ret
    rw [HF.out]
    exact ⟨rfl, hB⟩
end Go.Proofs.Pw

namespace Go.Proofs.Pw
open Go.RowKit
open Go.Lib hiding intOf
end Go.Proofs.Pw
