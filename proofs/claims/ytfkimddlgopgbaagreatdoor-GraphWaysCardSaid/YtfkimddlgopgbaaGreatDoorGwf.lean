/- Gw: walks and plain laws, joined: GrAdds2 GrWays2 GrWays3 Env EnvP Open OpenE Law Facts. Conditions: at each theorem. -/
import Derived.Test.YtfkimddlgopgbaaGreatDoorGwe
import Derived.Test.YtfkimddlgopgbaaGreatDoorGwa
import Derived.Stop.LaidErr
import Derived.LaidHandle
import Derived.SliceStrings
import Derived.Test.YtfkimddlgopgbaaGreatDoorGwb
import Derived.Deep.Slices
import Derived.Deep.Fields
import Derived.Test.YtfkimddlgopgbaaGreatDoorGwc
import Derived.ChangeArms
import Derived.ProofKit
import Derived.LaidMore
import Derived.Lay
import Derived.OpenShut
import Derived.SevenTiedAt
import Derived.Stop.Joined
import Derived.HandedShaped
import Derived.Test.YtfkimddlgopgbaaGreatDoorRows

/- GraphAdds: its walk, of what is not too long. -/
namespace Go.Proofs.Pw
open Go.RowKit
open Go.Lib hiding intOf

/-- what is said of two lists of roots and of both -/
structure GaFacts (l : List En) (Am Bm X Y Z : List Md) : Prop where
  both : ∀ m, (decide (m ∈ X) || decide (m ∈ Y)) = decide (m ∈ Z)
  ahead : ∀ (i : Nat) a b, Z[i]? = some a → Z[i + 1]? = some b → modAhead a b = true
  size : ∀ m ∈ Z, m.2.length ≤ 1000000
  count : Z.length ≤ 1000000
theorem any_mdF {n : Nat} {P V : Nat → ByteArray} {m : Md} {q : Nat} (hq : q < n) : ((mdF n P V).take (q + 1)).any (fun x => decide (x = m)) = (((mdF n P V).take q).any (fun x => decide (x = m)) || decide (((P q).data.toList, (V q).data.toList) = m)) := by
  rw [mdF_take_succ n P V q hq, List.any_append]
  simp


set_option maxHeartbeats 8000000 in
set_option maxRecDepth 100000 in
theorem grAdds_main (ks : List Nat) (A : Nat → Addr) (hks : IdxKs ks) (la : Option Addr) (ln lc : Nat) (P V : Nat → ByteArray) (R : Nat → List Md) (K : Nat → List Str) (Bk : Nat → Bool) (Rv Kv : Nat → Value) (av bv : Value) (Am Bm : List Md) (w : World) (hE : EnvP ks A w) (hl : EntsIn w la ln lc P V R K Bk Rv Kv) (ha : ModsAt w av Am) (hb0 : ModsAt w bv Bm)
    (h1 : longIdx (enF ln P V R K Bk) = false) (h2 : longMods Am 10 = false) (h3 : longMods Bm 10 = false) :
    Calls Tryz.prog 4 #[.slice la ln lc, av, bv] w fun e w' => e = .returned (.bool true) ∧ Below w.heap.size w w' := by
  obtain ⟨a1, n1, c1, _, _, rfl, _⟩ := id ha
  obtain ⟨a2, n2, c2, _, _, rfl, _⟩ := id hb0
  have hre := reached_calls ks A hks w hE
  have hlx := fun (W : World) (hb : Below w.heap.size w W) => longIndex_in la ln lc P V R K Bk Rv Kv W (hl.below hb)
  have hlm1 := fun (W : World) (hb : Below w.heap.size w W) => longMods_calls (.slice a1 n1 c1) Am 10 W (ha.below hb)
  have hlm2 := fun (W : World) (hb : Below w.heap.size w W) => longMods_calls (.slice a2 n2 c2) Bm 10 W (hb0.below hb)
  replace hre := Lib.hid hre
  replace hlx := Lib.hid hlx
  replace hlm1 := Lib.hid hlm1
  replace hlm2 := Lib.hid hlm2
  have hsi := longIdx_short h1
  have hsm := longIdx_small h1
  have hA1 := (longMods_small h2).1
  have hA2 := (longMods_small h3).1
  have hln : ln ≤ 101 := by have := hsm.1; rwa [enF_length] at this
  have HA := Lib.hid ha
  have HB := Lib.hid hb0
  have HL := Lib.hid hl
  have HE := Lib.hid hE
  have HSI := Lib.hid hsi
  have how := fun (W : World) (hb : Below w.heap.size w W) => ownIndex_calls (.slice la ln lc) (enF ln P V R K Bk) W ⟨la, ln, lc, P, V, R, K, Bk, Rv, Kv, rfl, rfl, HL.out.below hb⟩ (by rw [enF_length]; omega) (fun e he => by
    have h4 := longEn_small (hsm.2 e he)
    have h5 := longMods_small h4.2.2.1
    exact ⟨by omega, by omega⟩)
  have hom1 := fun (W : World) (hb : Below w.heap.size w W) => ownMods_calls (.slice a1 n1 c1) Am W (HA.out.below hb) (by omega)
  have hom2 := fun (W : World) (hb : Below w.heap.size w W) => ownMods_calls (.slice a2 n2 c2) Bm W (HB.out.below hb) (by omega)
  rw [longII_no h1] at hlx
  rw [longI_no h2] at hlm1
  rw [longI_no h3] at hlm2
  replace how := Lib.hid how
  replace hom1 := Lib.hid hom1
  replace hom2 := Lib.hid hom2
  clear h1 h2 h3 hsi hsm hE hl ha hb0
  go_enter Tryz.func4, Tryz.ntmps4
  go_wp2_with fail
  refine hre.out.mono ?_
  rintro e w1 ⟨rfl, hB⟩
  go_wp2_with fail
  refine (hlx.out _ hB).mono ?_
  rintro e w' ⟨rfl, rfl⟩
  go_wp2_with fail
  refine (hlm1.out _ hB).mono ?_
  rintro e w' ⟨rfl, rfl⟩
  go_wp2_with fail
  refine (hlm2.out _ hB).mono ?_
  rintro e w' ⟨rfl, rfl⟩
  go_wp2_with fail
  clear hre hlx hlm1 hlm2
  refine (how.out _ hB).mono ?_
  rintro e w2 ⟨⟨ov, rfl, hOE⟩, hb⟩
  replace hB := below_step hB hb
  clear how hb
  obtain ⟨oa, on, oc, P', V', R', K', B', Rv', Kv', rfl, hOl, hO⟩ := hOE
  go_wp2_with fail
  refine (hom1.out _ hB).mono ?_
  rintro e w3 ⟨⟨xv, rfl, _, L1', hL1, ho1⟩, hb⟩
  have hB3 := below_step hB hb
  obtain ⟨o', w4, hap, ⟨L2', hL2, ho2⟩, hg4⟩ := app_mods w3 w2.heap.size hb.size xv (.slice a2 n2 c2) L1' Bm ho1 (HB.out.below hB3) (by have := congrArg List.length hL1; rw [mdTs_length] at this; omega) (by omega)
  have hc4 : Below w2.heap.size w2 w4 := hb.grown hg4 hb.size (fun k hk => (ho1.lt k hk).1)
  have hB4 := below_step hB hc4
  obtain ⟨ax0, nx0, cx0, rfl⟩ := own_form ho1
  obtain ⟨a3, n3, c3, rfl⟩ := own_form ho2
  have hM3 := modsAt_own ho2
  rw [hL2, ← hL1] at hM3
  have HO := Lib.hid hO
  have HOL := Lib.hid hOl
  have hrc := fun (W : World) (hb : Below w.heap.size w W) (hc : Below w2.heap.size w2 W) (rv : Value) (roots : List Md) (hr : ModsAt W rv roots) (hlr : roots.length ≤ 100000) => grReach_in ks A hks oa on oc P' V' R' K' B' Rv' Kv' rv roots W (HE.out.below hb) (HO.out.below hc) (by rw [← HOL.out]; exact HSI.out) hr hlr
  simp only [← hOl] at hrc
  have HAP := Lib.hid hap
  replace hrc := Lib.hid hrc
  clear hap hg4 ho1 ho2 hL1 hL2 hO hOl hB3 hb
  go_wp2_with (at_builtin; refine wpList_append_run rfl _ _ 22 rfl _ _ rfl rfl _ _ HAP.out ?_)
  refine (hom1.out _ hB4).mono ?_
  rintro e w5 ⟨⟨v5, rfl, hM5, _⟩, hb5⟩
  have hc5 := below_step hc4 hb5
  have hB5 := below_step hB4 hb5
  replace hM3 := hM3.below hb5
  obtain ⟨a5, n5, c5, _, _, rfl, _⟩ := id hM5
  go_wp2_with fail
  refine (hrc.out _ hB5 hc5 _ _ hM5 (by omega)).mono ?_
  rintro e w6 ⟨⟨x6, ev1, rfl, hf1, hX⟩, hb6⟩
  have hc6 := below_step hc5 hb6
  have hB6 := below_step hB5 hb6
  replace hM3 := hM3.below hb6
  clear hM5 hb5 hc5 hB5 hc4 hB4 HAP
  go_wp2_with fail
  refine (hom2.out _ hB6).mono ?_
  rintro e w7 ⟨⟨v7, rfl, hM7, _⟩, hb7⟩
  have hc7 := below_step hc6 hb7
  have hB7 := below_step hB6 hb7
  replace hM3 := hM3.below hb7
  replace hf1 := hf1.below hb7
  replace hX := hX.below hb7
  obtain ⟨a7, n7, c7, _, _, rfl, _⟩ := id hM7
  go_wp2_with fail
  refine (hrc.out _ hB7 hc7 _ _ hM7 (by omega)).mono ?_
  rintro e w8 ⟨⟨y8, ev2, rfl, hf2, hY⟩, hb8⟩
  have hc8 := below_step hc7 hb8
  have hB8 := below_step hB7 hb8
  replace hM3 := hM3.below hb8
  replace hf1 := hf1.below hb8
  replace hX := hX.below hb8
  clear hM7 hb7 hc7 hB7 hb6 hc6 hB6 hom1 hom2
  go_wp2_with fail
  refine (hrc.out _ hB8 hc8 _ _ hM3 (by simp; omega)).mono ?_
  rintro e w9 ⟨⟨z9, ev3, rfl, hf3, hZ⟩, hb9⟩
  have hB9 := below_step hB8 hb9
  replace hf1 := hf1.below hb9
  replace hX := hX.below hb9
  replace hf2 := hf2.below hb9
  replace hY := hY.below hb9
  clear hM3 hb9 hB8 hc8 hb8 hrc HO HOL
  have happ := startErr_app (l := enF ln P V R K Bk) (a := Am) (b := Bm)
  rcases fault_form hf1 with ⟨q1, rfl⟩ | ⟨q1, ty1, p1, rfl⟩
  · rcases fault_form hf2 with ⟨q2, rfl⟩ | ⟨q2, ty2, p2, rfl⟩
    · have q3 := happ.2 ⟨q1, q2⟩
      obtain rfl : ev3 = .nilIface := by
        rcases fault_form hf3 with ⟨_, h⟩ | ⟨h, _⟩
        · exact h
        · exact absurd q3 h
      have g1 := rightG_of q1
      have g2 := rightG_of q2
      have g3 := rightG_of q3
      have hF : GaFacts (enF ln P V R K Bk) Am Bm (reachL (enF ln P V R K Bk) Am) (reachL (enF ln P V R K Bk) Bm) (reachL (enF ln P V R K Bk) (Am ++ Bm)) := by
        refine ⟨reach_app g1 g2 g3, fun i a b h1 h2 => reach_ahead g3 h1 h2, fun m hm => ?_, ?_⟩
        rotate_left
        · have h5 : (reachL (enF ln P V R K Bk) (Am ++ Bm)).length ≤ (enF ln P V R K Bk).length := by
            unfold reachL
            exact Nat.le_trans (List.length_filter_le _ _) (by rw [List.length_map]; exact Nat.le_refl _)
          have := g3.idx.len
          omega
        obtain ⟨e, he, e1⟩ := g3.entry (g3.mem.1 hm)
        have := HSI.out.mds e he
        rw [e1] at this
        exact this.2
      unfold reachR at hX hY hZ
      rw [if_pos q1] at hX
      rw [if_pos q2] at hY
      rw [if_pos q3] at hZ
      generalize reachL (enF ln P V R K Bk) Am = XX at hX hF
      generalize reachL (enF ln P V R K Bk) Bm = YY at hY hF
      generalize reachL (enF ln P V R K Bk) (Am ++ Bm) = ZZ at hZ hF
      obtain ⟨ax, nX, cx, PX, VX, rfl, rfl, _, _, hcX⟩ := hX
      obtain ⟨ay, nY, cy, PY, VY, rfl, rfl, _, _, hcY⟩ := hY
      obtain ⟨az, nZ, cz, PZ, VZ, rfl, rfl, _, hcapZ, hcZ⟩ := hZ
      have HC := Lib.hid (HL.out.below hB9)
      have hnZ : nZ ≤ 1000000 := by
        have := hF.count
        rwa [mdF_length] at this
      replace hcX := Lib.hid hcX
      replace hcY := Lib.hid hcY
      replace hcZ := Lib.hid hcZ
      replace hF := Lib.hid hF
      clear hf1 hf2 hf3 happ q1 q2 q3 g1 g2 g3
      go_wp2_with fail
      go_loopw [16] (fun i wr => ∃ k : Nat, k ≤ ln ∧ i = .int .i64 k ∧ Below w9.heap.size w9 wr) (fun i _ => ln - (intOf i).toNat)
      case atStart => exact ⟨0, Nat.zero_le _, rfl, Below.refl _ _⟩
      case round =>
        obtain ⟨k, hk, rfl, hBk⟩ := hrel
        by_cases hlt : k < ln
        · have hkn : (k : Int) < (ln : Int) := by omega
          obtain ⟨b1, o1, ea, hcell⟩ := HC.out.at_ k hlt
          subst ea
          have hCC := Lib.hid (And.intro hcell.c0 hcell.c1)
          clear hcell
          go_wp2_with fail
          go_loopw [17, 19] (fun s i wq => ∃ (q : Nat) (tX : Bool), q ≤ nX ∧ i = .int .i64 q ∧ s = .bool tX ∧ Hid (tX = (false || ((mdF nX PX VX).take q).any fun m => decide (m = ((P k).data.toList, (V k).data.toList)))) ∧ Below w9.heap.size w9 wq) (fun _ i _ => nX - (intOf i).toNat)
          case atStart => exact ⟨0, false, Nat.zero_le _, rfl, rfl, Lib.hid (by simp), hBk⟩
          case round =>
            clear hBk
            obtain ⟨q, tX, hq, rfl, rfl, hTX, hBk⟩ := hrel
            by_cases hq2 : q < nX
            · have hqn : (q : Int) < (nX : Int) := by omega
              obtain ⟨bq, oq, eq, d0, d1⟩ := hcX.out q hq2
              replace d0 := Below.cell_some hBk d0
              replace d1 := Below.cell_some hBk d1
              have c0 := Below.cell_some hBk hCC.out.1
              have c1 := Below.cell_some hBk hCC.out.2
              have hA := Lib.hid (any_mdF (P := PX) (V := VX) (m := ((P k).data.toList, (V k).data.toList)) hq2)
              subst eq
              cases tX with
              | true =>
                have hN : Hid (true = (false || ((mdF nX PX VX).take (q + 1)).any fun m => decide (m = ((P k).data.toList, (V k).data.toList)))) := Lib.hid (by rw [hA.out, ← Bool.or_assoc, ← hTX.out]; rfl)
                go_wp2_with fail
                refine wp_region_quiet_patch (by kernel_rfl) (by kernel_rfl) ?_
                repeat (go_big_quiet_step (fail))
                refine wpQuiet_nil ?_
                intro _ hw'
                obtain ⟨⟨dq, osq⟩, hw''⟩ := hw'
                subst hw''
                have hb := below_patch wr dq osq
                replace hBk := below_step hBk hb
                clear hb
                generalize patch wr dq osq = wq1 at hBk ⊢
                go_wp2_with fail
                go_roundw
                case rel => exact ⟨q + 1, true, by omega, by go_num, rfl, hN, hBk⟩
                case measure => simp [intOf]; omega
              | false =>
                have hg := Tryz.md_guard
                have he := md_eql (PX q) (VX q) (P k) (V k)
                obtain ⟨D, hD⟩ : ∃ D, decide (PX q = P k ∧ VX q = V k) = D := ⟨_, rfl⟩
                have hN : Hid (D = (false || ((mdF nX PX VX).take (q + 1)).any fun m => decide (m = ((P k).data.toList, (V k).data.toList)))) := Lib.hid (by
                  rw [hA.out, ← Bool.or_assoc, ← hTX.out, Bool.false_or, ← hD, Bool.eq_iff_iff, decide_eq_true_iff, decide_eq_true_iff]
                  exact bytes_pair.symm)
                rw [hD] at he
                clear hD
                go_wp2_with fail
                have kqd0 := fun d os => cell_patch (d := d) (os := os) d0
                have kqd1 := fun d os => cell_patch (d := d) (os := os) d1
                have kqc0 := fun d os => cell_patch (d := d) (os := os) c0
                have kqc1 := fun d os => cell_patch (d := d) (os := os) c1
                refine wp_region_quiet_patch (by kernel_rfl) (by kernel_rfl) ?_
                repeat (go_big_quiet_step (fail))
                refine wpQuiet_nil ?_
                intro _ hw'
                obtain ⟨⟨dq, osq⟩, hw''⟩ := hw'
                subst hw''
                clear kqd0 kqd1 kqc0 kqc1
                have hb := below_patch wr dq osq
                replace hBk := below_step hBk hb
                clear hb
                generalize patch wr dq osq = wq1 at hBk ⊢
                go_wp2_with fail
                go_roundw
                case rel => exact ⟨q + 1, D, by omega, by go_num, rfl, hN, hBk⟩
                case measure => simp [intOf]; omega
            · obtain rfl : nX = q := by omega
              rw [mdF_take_all] at hTX
              clear hq hq2
              go_wp2_with fail
              generalize wr = wq9 at *
              go_loopw [17, 20] (fun s i wq => ∃ (q : Nat) (tY : Bool), q ≤ nY ∧ i = .int .i64 q ∧ s = .bool tY ∧ Hid (tY = (tX || ((mdF nY PY VY).take q).any fun m => decide (m = ((P k).data.toList, (V k).data.toList)))) ∧ Below w9.heap.size w9 wq) (fun _ i _ => nY - (intOf i).toNat)
              case atStart => exact ⟨0, tX, Nat.zero_le _, rfl, rfl, Lib.hid (by simp), hBk⟩
              case round =>
                clear hBk
                obtain ⟨q, tY, hq, rfl, rfl, hTY, hBk⟩ := hrel
                by_cases hq2 : q < nY
                · have hqn : (q : Int) < (nY : Int) := by omega
                  obtain ⟨bq, oq, eq, d0, d1⟩ := hcY.out q hq2
                  replace d0 := Below.cell_some hBk d0
                  replace d1 := Below.cell_some hBk d1
                  have c0 := Below.cell_some hBk hCC.out.1
                  have c1 := Below.cell_some hBk hCC.out.2
                  have hA := Lib.hid (any_mdF (P := PY) (V := VY) (m := ((P k).data.toList, (V k).data.toList)) hq2)
                  subst eq
                  cases tY with
                  | true =>
                    have hN : Hid (true = (tX || ((mdF nY PY VY).take (q + 1)).any fun m => decide (m = ((P k).data.toList, (V k).data.toList)))) := Lib.hid (by rw [hA.out, ← Bool.or_assoc, ← hTY.out]; rfl)
                    go_wp2_with fail
                    refine wp_region_quiet_patch (by kernel_rfl) (by kernel_rfl) ?_
                    repeat (go_big_quiet_step (fail))
                    refine wpQuiet_nil ?_
                    intro _ hw'
                    obtain ⟨⟨dq, osq⟩, hw''⟩ := hw'
                    subst hw''
                    have hb := below_patch wr dq osq
                    replace hBk := below_step hBk hb
                    clear hb
                    generalize patch wr dq osq = wq1 at hBk ⊢
                    go_wp2_with fail
                    go_roundw
                    case rel => exact ⟨q + 1, true, by omega, by go_num, rfl, hN, hBk⟩
                    case measure => simp [intOf]; omega
                  | false =>
                    have hg := Tryz.md_guard
                    have he := md_eql (PY q) (VY q) (P k) (V k)
                    obtain ⟨D, hD⟩ : ∃ D, decide (PY q = P k ∧ VY q = V k) = D := ⟨_, rfl⟩
                    have hN : Hid (D = (tX || ((mdF nY PY VY).take (q + 1)).any fun m => decide (m = ((P k).data.toList, (V k).data.toList)))) := Lib.hid (by
                      rw [hA.out, ← Bool.or_assoc, ← hTY.out, Bool.false_or, ← hD, Bool.eq_iff_iff, decide_eq_true_iff, decide_eq_true_iff]
                      exact bytes_pair.symm)
                    rw [hD] at he
                    clear hD
                    go_wp2_with fail
                    have kqd0 := fun d os => cell_patch (d := d) (os := os) d0
                    have kqd1 := fun d os => cell_patch (d := d) (os := os) d1
                    have kqc0 := fun d os => cell_patch (d := d) (os := os) c0
                    have kqc1 := fun d os => cell_patch (d := d) (os := os) c1
                    refine wp_region_quiet_patch (by kernel_rfl) (by kernel_rfl) ?_
                    repeat (go_big_quiet_step (fail))
                    refine wpQuiet_nil ?_
                    intro _ hw'
                    obtain ⟨⟨dq, osq⟩, hw''⟩ := hw'
                    subst hw''
                    clear kqd0 kqd1 kqc0 kqc1
                    have hb := below_patch wr dq osq
                    replace hBk := below_step hBk hb
                    clear hb
                    generalize patch wr dq osq = wq1 at hBk ⊢
                    go_wp2_with fail
                    go_roundw
                    case rel => exact ⟨q + 1, D, by omega, by go_num, rfl, hN, hBk⟩
                    case measure => simp [intOf]; omega
                · obtain rfl : nY = q := by omega
                  rw [mdF_take_all] at hTY
                  clear hq hq2
                  go_wp2_with fail
                  generalize wr = wq8 at *
                  go_loopw [18, 21] (fun s i wq => ∃ (q : Nat) (tZ : Bool), q ≤ nZ ∧ i = .int .i64 q ∧ s = .bool tZ ∧ Hid (tZ = (false || ((mdF nZ PZ VZ).take q).any fun m => decide (m = ((P k).data.toList, (V k).data.toList)))) ∧ Below w9.heap.size w9 wq) (fun _ i _ => nZ - (intOf i).toNat)
                  case atStart => exact ⟨0, false, Nat.zero_le _, rfl, rfl, Lib.hid (by simp), hBk⟩
                  case round =>
                    clear hBk
                    obtain ⟨q, tZ, hq, rfl, rfl, hTZ, hBk⟩ := hrel
                    by_cases hq2 : q < nZ
                    · have hqn : (q : Int) < (nZ : Int) := by omega
                      obtain ⟨bq, oq, eq, d0, d1⟩ := hcZ.out q hq2
                      replace d0 := Below.cell_some hBk d0
                      replace d1 := Below.cell_some hBk d1
                      have c0 := Below.cell_some hBk hCC.out.1
                      have c1 := Below.cell_some hBk hCC.out.2
                      have hA := Lib.hid (any_mdF (P := PZ) (V := VZ) (m := ((P k).data.toList, (V k).data.toList)) hq2)
                      subst eq
                      cases tZ with
                      | true =>
                        have hN : Hid (true = (false || ((mdF nZ PZ VZ).take (q + 1)).any fun m => decide (m = ((P k).data.toList, (V k).data.toList)))) := Lib.hid (by rw [hA.out, ← Bool.or_assoc, ← hTZ.out]; rfl)
                        go_wp2_with fail
                        refine wp_region_quiet_patch (by kernel_rfl) (by kernel_rfl) ?_
                        repeat (go_big_quiet_step (fail))
                        refine wpQuiet_nil ?_
                        intro _ hw'
                        obtain ⟨⟨dq, osq⟩, hw''⟩ := hw'
                        subst hw''
                        have hb := below_patch wr dq osq
                        replace hBk := below_step hBk hb
                        clear hb
                        generalize patch wr dq osq = wq1 at hBk ⊢
                        go_wp2_with fail
                        go_roundw
                        case rel => exact ⟨q + 1, true, by omega, by go_num, rfl, hN, hBk⟩
                        case measure => simp [intOf]; omega
                      | false =>
                        have hg := Tryz.md_guard
                        have he := md_eql (PZ q) (VZ q) (P k) (V k)
                        obtain ⟨D, hD⟩ : ∃ D, decide (PZ q = P k ∧ VZ q = V k) = D := ⟨_, rfl⟩
                        have hN : Hid (D = (false || ((mdF nZ PZ VZ).take (q + 1)).any fun m => decide (m = ((P k).data.toList, (V k).data.toList)))) := Lib.hid (by
                          rw [hA.out, ← Bool.or_assoc, ← hTZ.out, Bool.false_or, ← hD, Bool.eq_iff_iff, decide_eq_true_iff, decide_eq_true_iff]
                          exact bytes_pair.symm)
                        rw [hD] at he
                        clear hD
                        go_wp2_with fail
                        have kqd0 := fun d os => cell_patch (d := d) (os := os) d0
                        have kqd1 := fun d os => cell_patch (d := d) (os := os) d1
                        have kqc0 := fun d os => cell_patch (d := d) (os := os) c0
                        have kqc1 := fun d os => cell_patch (d := d) (os := os) c1
                        refine wp_region_quiet_patch (by kernel_rfl) (by kernel_rfl) ?_
                        repeat (go_big_quiet_step (fail))
                        refine wpQuiet_nil ?_
                        intro _ hw'
                        obtain ⟨⟨dq, osq⟩, hw''⟩ := hw'
                        subst hw''
                        clear kqd0 kqd1 kqc0 kqc1
                        have hb := below_patch wr dq osq
                        replace hBk := below_step hBk hb
                        clear hb
                        generalize patch wr dq osq = wq1 at hBk ⊢
                        go_wp2_with fail
                        go_roundw
                        case rel => exact ⟨q + 1, D, by omega, by go_num, rfl, hN, hBk⟩
                        case measure => simp [intOf]; omega
                    · obtain rfl : nZ = q := by omega
                      rw [mdF_take_all] at hTZ
                      have e : tZ = tY := by
                        rw [hTZ.out, hTY.out, hTX.out, Bool.false_or, Bool.false_or, any_md, any_md, any_md]
                        exact (hF.out.both _).symm
                      subst e
                      clear hq hq2 hTX hTY hTZ hCC
                      go_wp2_with fail
                      go_roundw
                      case rel => exact ⟨k + 1, by omega, by go_num, hBk⟩
                      case measure => simp [intOf]; omega
        · have hkl : ¬ ((k : Int) < (ln : Int)) := by omega
          clear hlt HC hk
          go_wp2_with fail
          generalize wr = wq7 at *
          go_loopw [22] (fun i wr => ∃ m : Nat, m ≤ nZ ∧ i = .int .i64 ((m : Int) + 1) ∧ Below w9.heap.size w9 wr) (fun i _ => nZ + 1 - (intOf i).toNat)
          case atStart => exact ⟨0, Nat.zero_le _, rfl, hBk⟩
          case round =>
            clear hBk
            obtain ⟨m, hm, rfl, hBk⟩ := hrel
            have hwm := wrap_nat (m + 1) (by omega)
            have hBw := below_step hB9 hBk
            by_cases hlt : m + 1 < nZ
            · have hlt' : (m : Int) + 1 < (nZ : Int) := by omega
              obtain ⟨b1, o1, e0, d0, d1⟩ := hcZ.out m (by omega)
              obtain ⟨b2, o2, e1, d2, d3⟩ := hcZ.out (m + 1) hlt
              rw [e0] at e1
              injection e1 with e1
              injection e1 with e1 e2
              subst e1 e2 e0
              replace d0 := Below.cell_some hBk d0
              replace d1 := Below.cell_some hBk d1
              replace d2 := Below.cell_some hBk d2
              replace d3 := Below.cell_some hBk d3
              have hS0 := hF.out.size _ (List.mem_of_getElem? (mdF_get nZ PZ VZ m (by omega)))
              have hS1 := hF.out.size _ (List.mem_of_getElem? (mdF_get nZ PZ VZ (m + 1) hlt))
              have hia := fun W => isAhead_calls (PZ m) (VZ m) (PZ (m + 1)) (VZ (m + 1)) W (by rw [size_eq]; exact Nat.le_trans hS0 (by decide)) (by rw [size_eq]; exact Nat.le_trans hS1 (by decide))
              rw [hF.out.ahead m _ _ (mdF_get nZ PZ VZ m (by omega)) (mdF_get nZ PZ VZ (m + 1) hlt)] at hia
              have hkw := wrap_nat m (by omega)
              have hwm' : IntKind.i64.wrap ((m : Int) + 1) = (m : Int) + 1 := by have := hwm; push_cast at this; exact this
              have hm0 : ((m : Int) + 1 - 1) = (m : Int) := by omega
              have hm1 : (m : Int) < (nZ : Int) := by omega
              have hm2 : ((m : Int) + 1).toNat = m + 1 := by omega
              have hm3 : (0 : Int) ≤ (m : Int) + 1 := by omega
              have hm4 : ¬ ((m : Int) + 1 < 0) := by omega
              replace hia := Lib.hid hia
              clear hS0 hS1
              go_wp2_with fail
              have kqd0 := fun d os => cell_patch (d := d) (os := os) d0
              have kqd1 := fun d os => cell_patch (d := d) (os := os) d1
              have kqd2 := fun d os => cell_patch (d := d) (os := os) d2
              have kqd3 := fun d os => cell_patch (d := d) (os := os) d3
              refine wp_region_quiet_patch (by kernel_rfl) (by kernel_rfl) ?_
              repeat (go_big_quiet_step ((go_at_call 23; exact Calls.patch_of (hia.out _))))
              refine wpQuiet_nil ?_
              intro _ hw'
              obtain ⟨⟨dq, osq⟩, hw''⟩ := hw'
              subst hw''
              clear kqd0 kqd1 kqd2 kqd3
              have hb := below_patch wr dq osq
              replace hBk := below_step hBk hb
              clear hb
              generalize patch wr dq osq = wq1 at hBk ⊢
              go_wp2_with fail
              go_roundw
              case rel => exact ⟨m + 1, by omega, by go_num, hBk⟩
              case measure => simp [intOf]; omega
            · have hlt' : ¬ (m : Int) + 1 < (nZ : Int) := by omega
              go_wp2_with fail
              go_ret
              exact ⟨rfl, hBw⟩
    · have q3 : (startErr (enF ln P V R K Bk) (Am ++ Bm)).1 ≠ 0 := fun h => q2 (happ.1 h).2
      unfold reachR at hZ
      rw [if_neg q3] at hZ
      obtain ⟨az, nz, cz, PZ, VZ, rfl, eZ, _⟩ := hZ
      obtain rfl : nz = 0 := by have := congrArg List.length eZ; rw [mdF_length] at this; exact this.symm
      rcases fault_form hf3 with ⟨h, _⟩ | ⟨_, ty3, p3, rfl⟩
      · exact absurd h q3
      · obtain ⟨ax, nx, cx, _, _, rfl, _⟩ := hX
        obtain ⟨ay, ny, cy, _, _, rfl, _⟩ := hY
        clear hf1 hf2 hf3 happ eZ q1 q3
        go_wp2_with fail
        go_ret
        exact ⟨rfl, hB9⟩
  · have q3 : (startErr (enF ln P V R K Bk) (Am ++ Bm)).1 ≠ 0 := fun h => q1 (happ.1 h).1
    unfold reachR at hZ
    rw [if_neg q3] at hZ
    obtain ⟨az, nz, cz, PZ, VZ, rfl, eZ, _⟩ := hZ
    obtain rfl : nz = 0 := by have := congrArg List.length eZ; rw [mdF_length] at this; exact this.symm
    rcases fault_form hf3 with ⟨h, _⟩ | ⟨_, ty3, p3, rfl⟩
    · exact absurd h q3
    · obtain ⟨ax, nx, cx, _, _, rfl, _⟩ := hX
      obtain ⟨ay, ny, cy, _, _, rfl, _⟩ := hY
      clear hf1 hf2 hf3 happ eZ q1 q3
      go_wp2_with fail
      go_ret
      exact ⟨rfl, hB9⟩
end Go.Proofs.Pw

/- GraphWays: its walk, of what is not too long. -/
namespace Go.Proofs.Pw
open Go.RowKit
open Go.Lib hiding intOf

/-- what is said of each entry's way -/
theorem way_in {l : List En} {roots : List Md} (h0 : (startErr l roots).1 = 0) {m : Md} (hm : m ∈ reachL l roots) : wayErr l roots m = (0, -1) ∧ wayR l roots m = wayTo l roots m ∧ WayOk l roots m (wayTo l roots m) := by
  have hG := rightG_of h0
  have h1 : m ∈ (walkS l roots).map (·.1) := (walkS_mem hG m).2 (hG.mem.1 hm)
  exact ⟨by unfold wayErr; rw [if_neg (by simp [h0]), if_pos h1], by unfold wayR; rw [if_pos ⟨h0, h1⟩], wayOk_to hG h1⟩
theorem way_not {l : List En} {roots : List Md} (h0 : (startErr l roots).1 = 0) {m : Md} (hm : ¬ m ∈ reachL l roots) : wayErr l roots m = (5, -1) ∧ wayR l roots m = [] := by
  have hG := rightG_of h0
  have h1 : ¬ m ∈ (walkS l roots).map (·.1) := fun h => hm (hG.mem.2 ((walkS_mem hG m).1 h))
  exact ⟨by unfold wayErr; rw [if_neg (by simp [h0]), if_neg h1], by unfold wayR; rw [if_neg (fun h => h1 h.2)]⟩

theorem ModsAt.at_of {w : World} {a : Option Addr} {n c : Nat} {l : List Md} {P V : Nat → ByteArray} (h : ModsAt w (.slice a n c) l) (e : l = mdF n P V) : ∀ j, j < n → ∃ b o, a = some ⟨b, o, none⟩ ∧ w.cell? ⟨b, o + j * 2, none⟩ = some (.string (P j)) ∧ w.cell? ⟨b, o + j * 2 + 1, none⟩ = some (.string (V j)) := by
  obtain ⟨a', n', c', P', V', e1, e2, _, _, h5⟩ := h
  injection e1 with e3 e4 e5
  subst e3 e4 e5
  intro j hj
  obtain ⟨b, o, e6, h7, h8⟩ := h5 j hj
  have e9 := mdF_get n P V j hj
  rw [← e, e2, mdF_get n P' V' j hj] at e9
  have := bytes_pair.1 (Option.some.inj e9)
  exact ⟨b, o, e6, by rw [← this.1]; exact h7, by rw [← this.2]; exact h8⟩
set_option maxHeartbeats 8000000 in
set_option maxRecDepth 100000 in
theorem grWays_main (ks : List Nat) (A : Nat → Addr) (hks : IdxKs ks) (la : Option Addr) (ln lc : Nat) (P V : Nat → ByteArray) (R : Nat → List Md) (K : Nat → List Str) (Bk : Nat → Bool) (Rv Kv : Nat → Value) (av : Value) (Am : List Md) (w : World) (hE : EnvP ks A w) (hl : EntsIn w la ln lc P V R K Bk Rv Kv) (ha : ModsAt w av Am)
    (h1 : longIdx (enF ln P V R K Bk) = false) (h2 : longMods Am 15 = false) :
    Calls Tryz.prog 5 #[.slice la ln lc, av] w fun e w' => e = .returned (.bool true) ∧ Below w.heap.size w w' := by
  obtain ⟨a1, n1, c1, _, _, rfl, _⟩ := id ha
  have hre := reached_calls ks A hks w hE
  have hlx := fun (W : World) (hb : Below w.heap.size w W) => longIndex_in la ln lc P V R K Bk Rv Kv W (hl.below hb)
  have hlm1 := fun (W : World) (hb : Below w.heap.size w W) => longMods_calls (.slice a1 n1 c1) Am 15 W (ha.below hb)
  replace hre := Lib.hid hre
  replace hlx := Lib.hid hlx
  replace hlm1 := Lib.hid hlm1
  have hsi := longIdx_short h1
  have hsm := longIdx_small h1
  have hA1 := (longMods_small h2).1
  have hln : ln ≤ 101 := by have := hsm.1; rwa [enF_length] at this
  have HA := Lib.hid ha
  have HL := Lib.hid hl
  have HE := Lib.hid hE
  have HSI := Lib.hid hsi
  have how := fun (W : World) (hb : Below w.heap.size w W) => ownIndex_calls (.slice la ln lc) (enF ln P V R K Bk) W ⟨la, ln, lc, P, V, R, K, Bk, Rv, Kv, rfl, rfl, HL.out.below hb⟩ (by rw [enF_length]; omega) (fun e he => by
    have h4 := longEn_small (hsm.2 e he)
    have h5 := longMods_small h4.2.2.1
    exact ⟨by omega, by omega⟩)
  have hom1 := fun (W : World) (hb : Below w.heap.size w W) => ownMods_calls (.slice a1 n1 c1) Am W (HA.out.below hb) (by omega)
  rw [longII_no h1] at hlx
  rw [longI_no h2] at hlm1
  replace how := Lib.hid how
  replace hom1 := Lib.hid hom1
  clear h1 h2 hsi hsm hE hl ha
  go_enter Tryz.func5, Tryz.ntmps5
  go_wp2_with fail
  refine hre.out.mono ?_
  rintro e w1 ⟨rfl, hB⟩
  go_wp2_with fail
  refine (hlx.out _ hB).mono ?_
  rintro e w' ⟨rfl, rfl⟩
  go_wp2_with fail
  refine (hlm1.out _ hB).mono ?_
  rintro e w' ⟨rfl, rfl⟩
  go_wp2_with fail
  clear hre hlx hlm1
  refine (how.out _ hB).mono ?_
  rintro e w2 ⟨⟨ov, rfl, hOE⟩, hb⟩
  replace hB := below_step hB hb
  clear how hb
  obtain ⟨oa, on, oc, P', V', R', K', B', Rv', Kv', rfl, hOl, hO⟩ := hOE
  go_wp2_with fail
  refine (hom1.out _ hB).mono ?_
  rintro e w3 ⟨⟨xv, rfl, hM3, _⟩, hc3⟩
  have hB3 := below_step hB hc3
  obtain ⟨a3, n3, c3, _, _, rfl, _⟩ := id hM3
  have HO := Lib.hid hO
  have HOL := Lib.hid hOl
  have hrc := fun (W : World) (hb : Below w.heap.size w W) (hc : Below w2.heap.size w2 W) (rv : Value) (roots : List Md) (hr : ModsAt W rv roots) (hlr : roots.length ≤ 100000) => grReach_in ks A hks oa on oc P' V' R' K' B' Rv' Kv' rv roots W (HE.out.below hb) (HO.out.below hc) (by rw [← HOL.out]; exact HSI.out) hr hlr
  have hwc := fun (p v : ByteArray) (W : World) (hb : Below w.heap.size w W) (hc : Below w2.heap.size w2 W) (rv : Value) (roots : List Md) (hr : ModsAt W rv roots) (hlr : roots.length ≤ 100000) => grWay_in ks A hks oa on oc P' V' R' K' B' Rv' Kv' rv roots p v W (HE.out.below hb) (HO.out.below hc) (by rw [← HOL.out]; exact HSI.out) hr hlr
  simp only [← hOl] at hrc hwc
  replace hrc := Lib.hid hrc
  replace hwc := Lib.hid hwc
  clear hO hOl hom1
  have hAl : Am.length ≤ 100000 := by omega
  go_wp2_with fail
  refine (hrc.out _ hB3 hc3 _ _ hM3 hAl).mono ?_
  rintro e w4 ⟨⟨x4, ev1, rfl, hf1, hX⟩, hb4⟩
  have hB4 := below_step hB3 hb4
  have hc4 := below_step hc3 hb4
  have hM4 := hM3.below hb4
  clear hM3 hb4 hB3 hc3
  rcases fault_form hf1 with ⟨q1, rfl⟩ | ⟨q1, ty1, p1, rfl⟩
  · have g1 := rightG_of q1
    have hidx : (idxErr (enF ln P V R K Bk)).1 = 0 := by
      have := q1
      unfold startErr at this
      rw [orE_zero] at this
      exact this.1
    have hag := reach_again g1 hidx
    unfold reachR at hX
    rw [if_pos q1] at hX
    have hXl : (reachL (enF ln P V R K Bk) Am).length ≤ 100000 := by
      have h5 : (reachL (enF ln P V R K Bk) Am).length ≤ (enF ln P V R K Bk).length := by
        unfold reachL
        exact Nat.le_trans (List.length_filter_le _ _) (by rw [List.length_map]; exact Nat.le_refl _)
      rw [enF_length] at h5
      omega
    have hr2 := fun W hb hc hr => hrc.out W hb hc x4 (reachL (enF ln P V R K Bk) Am) hr hXl
    obtain ⟨ax, nX, cx, PX, VX, rfl, eX, _, _, hcX⟩ := id hX
    have G := Lib.hid (And.intro q1 hag)
    replace hr2 := Lib.hid hr2
    replace hcX := Lib.hid hcX
    clear hf1 q1 g1 hidx hag
    go_wp2_with fail
    refine (hr2.out _ hB4 hc4 hX).mono ?_
    rintro e w5 ⟨⟨y5, ev2, rfl, hf2, hY⟩, hb5⟩
    obtain rfl : ev2 = .nilIface := by
      rcases fault_form hf2 with ⟨_, h⟩ | ⟨h, _⟩
      · exact h
      · exact absurd G.out.2.1 h
    unfold reachR at hY
    rw [if_pos G.out.2.1, G.out.2.2] at hY
    have hB5 := below_step hB4 hb5
    have hc5 := below_step hc4 hb5
    have hX5 := hX.below hb5
    have hM5 := hM4.below hb5
    have hsm := sameMods_calls y5 (.slice ax nX cx) _ _ w5 hY hX5
    obtain ⟨ay, ny, cy, _, _, rfl, _⟩ := id hY
    simp only [decide_true] at hsm
    replace hsm := Lib.hid hsm
    clear hf2 hr2 hX hM4 hb5 hY
    go_wp2_with fail
    refine hsm.out.mono ?_
    rintro e w9 ⟨rfl, hb6⟩
    have hB9 := below_step hB5 hb6
    have hc9 := below_step hc5 hb6
    have hX9 := hX5.below hb6
    have hM9 := hM5.below hb6
    replace hcX := hX9.at_of eX
    rw [eX] at hX9
    have HG := Lib.hid (fun (m : Md) (h : m ∈ mdF nX PX VX) => way_in G.out.1 (m := m) (by rw [eX]; exact h))
    have HN := Lib.hid (fun (m : Md) (h : ¬ m ∈ mdF nX PX VX) => way_not G.out.1 (m := m) (by rw [eX]; exact h))
    have HM9 := Lib.hid hM9
    have HC := Lib.hid (HL.out.below hB9)
    obtain ⟨_, nA, _, PA, VA, eA, rfl, _, _, hcA⟩ := HA.out.below hB9
    injection eA with eA1 eA2 eA3
    subst eA1 eA2 eA3
    obtain ⟨nA, hnA⟩ : ∃ nA, nA = n1 := ⟨_, rfl⟩
    subst hnA
    replace hcX := Lib.hid hcX
    replace hcA := Lib.hid hcA
    clear hX5 hM5 hX9 hM9 hb6 hB5 hc5 hsm hAl
    go_wp2_with fail
    go_loopw [11] (fun i wr => ∃ k : Nat, k ≤ ln ∧ i = .int .i64 k ∧ Below w9.heap.size w9 wr) (fun i _ => ln - (intOf i).toNat)
    case atStart => exact ⟨0, Nat.zero_le _, rfl, Below.refl _ _⟩
    case round =>
      obtain ⟨k, hk, rfl, hBk⟩ := hrel
      by_cases hlt : k < ln
      · have hkn : (k : Int) < (ln : Int) := by omega
        obtain ⟨b1, o1, ea, hcell⟩ := HC.out.at_ k hlt
        subst ea
        have hCC := Lib.hid (And.intro hcell.c0 hcell.c1)
        clear hcell
        go_wp2_with fail
        go_loopw [12, 13] (fun s i wq => ∃ (q : Nat) (tX : Bool), q ≤ nX ∧ i = .int .i64 q ∧ s = .bool tX ∧ Hid (tX = (false || ((mdF nX PX VX).take q).any fun m => decide (m = ((P k).data.toList, (V k).data.toList)))) ∧ Below w9.heap.size w9 wq) (fun _ i _ => nX - (intOf i).toNat)
        case atStart => exact ⟨0, false, Nat.zero_le _, rfl, rfl, Lib.hid (by simp), hBk⟩
        case round =>
          clear hBk
          obtain ⟨q, tX, hq, rfl, rfl, hTX, hBk⟩ := hrel
          by_cases hq2 : q < nX
          · have hqn : (q : Int) < (nX : Int) := by omega
            obtain ⟨bq, oq, eq, d0, d1⟩ := hcX.out q hq2
            replace d0 := Below.cell_some hBk d0
            replace d1 := Below.cell_some hBk d1
            have c0 := Below.cell_some hBk hCC.out.1
            have c1 := Below.cell_some hBk hCC.out.2
            have hA := Lib.hid (any_mdF (P := PX) (V := VX) (m := ((P k).data.toList, (V k).data.toList)) hq2)
            subst eq
            cases tX with
            | true =>
              have hN : Hid (true = (false || ((mdF nX PX VX).take (q + 1)).any fun m => decide (m = ((P k).data.toList, (V k).data.toList)))) := Lib.hid (by rw [hA.out, ← Bool.or_assoc, ← hTX.out]; rfl)
              go_wp2_with fail
              refine wp_region_quiet_patch (by kernel_rfl) (by kernel_rfl) ?_
              repeat (go_big_quiet_step (fail))
              refine wpQuiet_nil ?_
              intro _ hw'
              obtain ⟨⟨dq, osq⟩, hw''⟩ := hw'
              subst hw''
              have hb := below_patch wr dq osq
              replace hBk := below_step hBk hb
              clear hb
              generalize patch wr dq osq = wq1 at hBk ⊢
              go_wp2_with fail
              go_roundw
              case rel => exact ⟨q + 1, true, by omega, by go_num, rfl, hN, hBk⟩
              case measure => simp [intOf]; omega
            | false =>
              have hg := Tryz.md_guard
              have he := md_eql (PX q) (VX q) (P k) (V k)
              obtain ⟨D, hD⟩ : ∃ D, decide (PX q = P k ∧ VX q = V k) = D := ⟨_, rfl⟩
              have hN : Hid (D = (false || ((mdF nX PX VX).take (q + 1)).any fun m => decide (m = ((P k).data.toList, (V k).data.toList)))) := Lib.hid (by
                rw [hA.out, ← Bool.or_assoc, ← hTX.out, Bool.false_or, ← hD, Bool.eq_iff_iff, decide_eq_true_iff, decide_eq_true_iff]
                exact bytes_pair.symm)
              rw [hD] at he
              clear hD
              go_wp2_with fail
              have kqd0 := fun d os => cell_patch (d := d) (os := os) d0
              have kqd1 := fun d os => cell_patch (d := d) (os := os) d1
              have kqc0 := fun d os => cell_patch (d := d) (os := os) c0
              have kqc1 := fun d os => cell_patch (d := d) (os := os) c1
              refine wp_region_quiet_patch (by kernel_rfl) (by kernel_rfl) ?_
              repeat (go_big_quiet_step (fail))
              refine wpQuiet_nil ?_
              intro _ hw'
              obtain ⟨⟨dq, osq⟩, hw''⟩ := hw'
              subst hw''
              clear kqd0 kqd1 kqc0 kqc1
              have hb := below_patch wr dq osq
              replace hBk := below_step hBk hb
              clear hb
              generalize patch wr dq osq = wq1 at hBk ⊢
              go_wp2_with fail
              go_roundw
              case rel => exact ⟨q + 1, D, by omega, by go_num, rfl, hN, hBk⟩
              case measure => simp [intOf]; omega
          · obtain rfl : nX = q := by omega
            rw [mdF_take_all] at hTX
            have hBw := below_step hB9 hBk
            have hcw := below_step hc9 hBk
            have hway := hwc.out (P k) (V k) wr hBw hcw _ _ (HM9.out.below hBk) (by omega)
            have c0 := Below.cell_some hBk hCC.out.1
            have c1 := Below.cell_some hBk hCC.out.2
            replace hway := Lib.hid hway
            clear hq hq2
            by_cases hin : ((P k).data.toList, (V k).data.toList) ∈ mdF nX PX VX
            · obtain rfl : tX = true := by rw [hTX.out, Bool.false_or, any_md, decide_eq_true hin]
              obtain ⟨e1, e2, hW⟩ := HG.out _ hin
              rw [e1, e2] at hway
              clear hin hTX e1 e2
              have HWk := Lib.hid hW
              clear hW
              go_wp2_with fail
              refine hway.out.mono ?_
              rintro e w10 ⟨⟨y, ev, rfl, hf, hY⟩, hb⟩
              obtain rfl : ev = .nilIface := by
                rcases hf with ⟨_, _, h⟩ | ⟨h, _⟩ | ⟨h, _⟩
                · exact h
                · exact absurd rfl h
                · exact absurd rfl h
              obtain ⟨ay, nY, cy, PY, VY, rfl, eY, _, _, hcY⟩ := hY
              have hW := HWk.out
              rw [eY] at hW
              have hWl := hW.len (rightG_of G.out.1)
              have hpos := hW.pos
              rw [mdF_length] at hWl hpos
              obtain ⟨N, rfl⟩ : ∃ N, nY = N + 1 := ⟨nY - 1, by omega⟩
              have hB10 := below_step hBk hb
              obtain ⟨by0, oy0, ey, _, _⟩ := hcY 0 (by omega)
              subst ey
              have hcY2 : ∀ j, j < N + 1 → w10.cell? ⟨by0, oy0 + j * 2, none⟩ = some (.string (PY j)) ∧ w10.cell? ⟨by0, oy0 + j * 2 + 1, none⟩ = some (.string (VY j)) := fun j hj => by
                obtain ⟨b, o, e, h1, h2⟩ := hcY j hj
                injection e with e
                injection e with e3 e4
                subst e3 e4
                exact ⟨h1, h2⟩
              have hYY := Lib.hid (by simpa using hcY2 0 (by omega))
              have hCC10 := Lib.hid (And.intro (Below.cell_some hB10 hCC.out.1) (Below.cell_some hB10 hCC.out.2))
              have HC10 := Lib.hid (HC.out.below hB10)
              have hcA10 : ∀ j, j < nA → ∃ b o, a1 = some ⟨b, o, none⟩ ∧ w10.cell? ⟨b, o + j * 2, none⟩ = some (.string (PA j)) ∧ w10.cell? ⟨b, o + j * 2 + 1, none⟩ = some (.string (VA j)) := fun j hj => let ⟨b, o, e, h1, h2⟩ := hcA.out j hj; ⟨b, o, e, Below.cell_some hB10 h1, Below.cell_some hB10 h2⟩
              have HW := Lib.hid hW
              have HcY := Lib.hid hcY2
              have hBk0 := hBk
              clear hf hcY hcY2 hW hway hBw hcw hb hBk c0 c1 eY HWk
              have hBk := Below.refl w10.heap.size w10
              have hposI : (0 : Int) < (N : Int) + 1 := by omega
              clear hBk0
              replace hcA := Lib.hid hcA10
              clear hcA10
              go_wp2_with fail
              go_loopw [16, 17] (fun s i wq => ∃ (q : Nat) (tA : Bool), q ≤ nA ∧ i = .int .i64 q ∧ s = .bool tA ∧ Hid (tA = (((mdF nA PA VA).take q).any fun m => decide (m = ((PY 0).data.toList, (VY 0).data.toList)))) ∧ Below w10.heap.size w10 wq) (fun _ i _ => nA - (intOf i).toNat)
              case atStart => exact ⟨0, false, Nat.zero_le _, rfl, rfl, Lib.hid (by simp), hBk⟩
              case round =>
                clear hBk
                obtain ⟨q, tA, hq, rfl, rfl, hTA, hBk⟩ := hrel
                have x0 := Below.cell_some hBk hYY.out.1
                by_cases hq2 : q < nA
                · have hqn : (q : Int) < (nA : Int) := by omega
                  obtain ⟨bq, oq, eq, d0, d1⟩ := hcA.out q hq2
                  replace d0 := Below.cell_some hBk d0
                  replace d1 := Below.cell_some hBk d1
                  have c0 := Below.cell_some hBk hYY.out.1
                  have c1 := Below.cell_some hBk hYY.out.2
                  have hA := Lib.hid (any_mdF (P := PA) (V := VA) (m := ((PY 0).data.toList, (VY 0).data.toList)) hq2)
                  subst eq
                  cases tA with
                  | true =>
                    have hN : Hid (true = (((mdF nA PA VA).take (q + 1)).any fun m => decide (m = ((PY 0).data.toList, (VY 0).data.toList)))) := Lib.hid (by rw [hA.out, ← hTA.out]; rfl)
                    go_wp2_with fail
                    refine wp_region_quiet_patch (by kernel_rfl) (by kernel_rfl) ?_
                    repeat (go_big_quiet_step (fail))
                    refine wpQuiet_nil ?_
                    intro _ hw'
                    obtain ⟨⟨dq, osq⟩, hw''⟩ := hw'
                    subst hw''
                    have hb := below_patch wr dq osq
                    replace hBk := below_step hBk hb
                    clear hb
                    generalize patch wr dq osq = wq1 at hBk ⊢
                    go_wp2_with fail
                    go_roundw
                    case rel => exact ⟨q + 1, true, by omega, by go_num, rfl, hN, hBk⟩
                    case measure => simp [intOf]; omega
                  | false =>
                    have hg := Tryz.md_guard
                    have he := md_eql (PA q) (VA q) (PY 0) (VY 0)
                    obtain ⟨D, hD⟩ : ∃ D, decide (PA q = PY 0 ∧ VA q = VY 0) = D := ⟨_, rfl⟩
                    have hN : Hid (D = (((mdF nA PA VA).take (q + 1)).any fun m => decide (m = ((PY 0).data.toList, (VY 0).data.toList)))) := Lib.hid (by
                      rw [hA.out, ← hTA.out, Bool.false_or, ← hD, Bool.eq_iff_iff, decide_eq_true_iff, decide_eq_true_iff]
                      exact bytes_pair.symm)
                    rw [hD] at he
                    clear hD
                    go_wp2_with fail
                    have kqd0 := fun d os => cell_patch (d := d) (os := os) d0
                    have kqd1 := fun d os => cell_patch (d := d) (os := os) d1
                    have kqc0 := fun d os => cell_patch (d := d) (os := os) c0
                    have kqc1 := fun d os => cell_patch (d := d) (os := os) c1
                    have kqx0 := fun d os => cell_patch (d := d) (os := os) x0
                    refine wp_region_quiet_patch (by kernel_rfl) (by kernel_rfl) ?_
                    repeat (go_big_quiet_step (fail))
                    refine wpQuiet_nil ?_
                    intro _ hw'
                    obtain ⟨⟨dq, osq⟩, hw''⟩ := hw'
                    subst hw''
                    clear kqd0 kqd1 kqc0 kqc1 kqx0
                    have hb := below_patch wr dq osq
                    replace hBk := below_step hBk hb
                    clear hb
                    generalize patch wr dq osq = wq1 at hBk ⊢
                    go_wp2_with fail
                    go_roundw
                    case rel => exact ⟨q + 1, D, by omega, by go_num, rfl, hN, hBk⟩
                    case measure => simp [intOf]; omega
                · obtain rfl : nA = q := by omega
                  rw [mdF_take_all] at hTA
                  obtain rfl : tA = true := by rw [hTA.out, any_md]; exact decide_eq_true (HW.out.head _ (mdF_get (N + 1) PY VY 0 (by omega)))
                  have hlast : PY N = P k ∧ VY N = V k := by
                    have h := HW.out.last
                    rw [mdF_length, Nat.add_sub_cancel, mdF_get (N + 1) PY VY N (by omega)] at h
                    exact bytes_pair.1 (Option.some.inj h)
                  have hd : decide (PY N = P k ∧ VY N = V k) = true := decide_eq_true hlast
                  have hg := Tryz.md_guard
                  have hne := md_neq (PY N) (VY N) (P k) (V k)
                  simp only [hd, Bool.not_true] at hne
                  have d0 := Below.cell_some hBk (HcY.out N (by omega)).1
                  have d1 := Below.cell_some hBk (HcY.out N (by omega)).2
                  have c0 := Below.cell_some hBk hCC10.out.1
                  have c1 := Below.cell_some hBk hCC10.out.2
                  have hkw := wrap_nat N (by omega)
                  have hm0 : ((N : Int) + 1 - 1) = (N : Int) := by omega
                  have hm1 : (N : Int) < (N : Int) + 1 := by omega
                  clear hq hq2 hTA hlast hd x0
                  go_wp2_with fail
                  have kqd0 := fun d os => cell_patch (d := d) (os := os) d0
                  have kqd1 := fun d os => cell_patch (d := d) (os := os) d1
                  have kqc0 := fun d os => cell_patch (d := d) (os := os) c0
                  have kqc1 := fun d os => cell_patch (d := d) (os := os) c1
                  refine wp_region_quiet_patch (by kernel_rfl) (by kernel_rfl) ?_
                  repeat (go_big_quiet_step (fail))
                  refine wpQuiet_nil ?_
                  intro _ hw'
                  obtain ⟨⟨dq, osq⟩, hw''⟩ := hw'
                  subst hw''
                  clear kqd0 kqd1 kqc0 kqc1
                  have hb := below_patch wr dq osq
                  replace hBk := below_step hBk hb
                  clear hb
                  generalize patch wr dq osq = wq1 at hBk ⊢
                  clear d0 d1 c0 c1 hne hkw hm0 hm1
                  go_wp2_with fail
                  go_loopw [18] (fun i wr => ∃ u : Nat, u ≤ N ∧ i = .int .i64 ((u : Int) + 1) ∧ Below w10.heap.size w10 wr) (fun i _ => N + 2 - (intOf i).toNat)
                  case atStart => exact ⟨0, Nat.zero_le _, rfl, hBk⟩
                  case round =>
                    clear hBk
                    obtain ⟨u, hu, rfl, hBk⟩ := hrel
                    have hwu := wrap_nat (u + 1) (by omega)
                    by_cases hlt2 : u < N
                    · have hlt' : (u : Int) + 1 < (N : Int) + 1 := by omega
                      have hYu := mdF_get (N + 1) PY VY u (by omega)
                      have hYu1 := mdF_get (N + 1) PY VY (u + 1) (by omega)
                      have hst := HW.out.step u _ _ hYu hYu1
                      obtain ⟨en, hen, hem⟩ := (rightG_of G.out.1).entry (HW.out.mem (rightG_of G.out.1) u _ hYu)
                      have hnf : ¬ findE (enF ln P V R K Bk) ((PY u).data.toList, (VY u).data.toList) < 0 := fun h => findE_lt.1 h en hen hem
                      obtain ⟨t, ht, htl, htm⟩ := findE_nat hnf
                      rw [enF_length] at htl
                      have hfo := findOf_in (some ⟨b1, o1, none⟩) ln lc P V R K Bk Rv Kv (PY u) (VY u) wr (HC10.out.below hBk) (by omega)
                      rw [ht] at hfo
                      unfold reqsOf at hst
                      rw [ht] at hst
                      replace hst : ((PY (u + 1)).data.toList, (VY (u + 1)).data.toList) ∈ (enAt (enF ln P V R K Bk) t).reqs := hst
                      rw [enAt_enF htl] at hst
                      replace hst : ((PY (u + 1)).data.toList, (VY (u + 1)).data.toList) ∈ R t := hst
                      obtain ⟨b2, o2, e0, hcellt⟩ := HC10.out.at_ t htl
                      injection e0 with e0
                      injection e0 with e3 e4
                      subst e3 e4
                      obtain ⟨aT, nT, cT, PT, VT, eT, eR, _, _, hcT⟩ := HC10.out.reqs t htl
                      have hc2 := hcellt.c2
                      rw [eT] at hc2
                      rw [eR] at hst
                      have hx2 := Lib.hid hc2
                      have hYn := Lib.hid (HcY.out (u + 1) (by omega))
                      have htn : (t : Int) < (ln : Int) := by omega
                      have ht0 : ¬ ((t : Int) < 0) := by omega
                      have d0 := Below.cell_some hBk (HcY.out u (by omega)).1
                      have d1 := Below.cell_some hBk (HcY.out u (by omega)).2
                      have hkw := wrap_nat u (by omega)
                      have hwu' : IntKind.i64.wrap ((u : Int) + 1) = (u : Int) + 1 := by have := hwu; push_cast at this; exact this
                      have hm0 : ((u : Int) + 1 - 1) = (u : Int) := by omega
                      have hm1 : (u : Int) < (N : Int) + 1 := by omega
                      have hm2 : ((u : Int) + 1).toNat = u + 1 := by omega
                      have hm3 : (0 : Int) ≤ (u : Int) + 1 := by omega
                      have hm4 : ¬ ((u : Int) + 1 < 0) := by omega
                      have HST := Lib.hid hst
                      replace hfo := Lib.hid hfo
                      replace hcT := Lib.hid hcT
                      clear hYu hYu1 hst hen hem hnf ht htm hcellt eT eR hc2
                      go_wp2_with fail
                      refine hfo.out.mono ?_
                      rintro e w11 ⟨rfl, hb⟩
                      replace hBk := below_step hBk hb
                      clear hfo hb d0 d1 hkw hm0
                      go_wp2_with fail
                      go_loopw [20, 21] (fun s i wq => ∃ (q : Nat) (tT : Bool), q ≤ nT ∧ i = .int .i64 q ∧ s = .bool tT ∧ Hid (tT = (((mdF nT PT VT).take q).any fun m => decide (m = (((PY (u + 1))).data.toList, ((VY (u + 1))).data.toList)))) ∧ Below w10.heap.size w10 wq) (fun _ i _ => nT - (intOf i).toNat)
                      case atStart => exact ⟨0, false, Nat.zero_le _, rfl, rfl, Lib.hid (by simp), hBk⟩
                      case round =>
                        clear hBk
                        obtain ⟨q, tT, hq, rfl, rfl, hTT, hBk⟩ := hrel
                        have x0 := Below.cell_some hBk hx2.out
                        by_cases hq2 : q < nT
                        · have hqn : (q : Int) < (nT : Int) := by omega
                          obtain ⟨bq, oq, eq, d0, d1⟩ := hcT.out q hq2
                          replace d0 := Below.cell_some hBk d0
                          replace d1 := Below.cell_some hBk d1
                          have c0 := Below.cell_some hBk hYn.out.1
                          have c1 := Below.cell_some hBk hYn.out.2
                          have hA := Lib.hid (any_mdF (P := PT) (V := VT) (m := (((PY (u + 1))).data.toList, ((VY (u + 1))).data.toList)) hq2)
                          subst eq
                          cases tT with
                          | true =>
                            have hN : Hid (true = (((mdF nT PT VT).take (q + 1)).any fun m => decide (m = (((PY (u + 1))).data.toList, ((VY (u + 1))).data.toList)))) := Lib.hid (by rw [hA.out, ← hTT.out]; rfl)
                            go_wp2_with fail
                            refine wp_region_quiet_patch (by kernel_rfl) (by kernel_rfl) ?_
                            repeat (go_big_quiet_step (fail))
                            refine wpQuiet_nil ?_
                            intro _ hw'
                            obtain ⟨⟨dq, osq⟩, hw''⟩ := hw'
                            subst hw''
                            have hb := below_patch wr dq osq
                            replace hBk := below_step hBk hb
                            clear hb
                            generalize patch wr dq osq = wq1 at hBk ⊢
                            go_wp2_with fail
                            go_roundw
                            case rel => exact ⟨q + 1, true, by omega, by go_num, rfl, hN, hBk⟩
                            case measure => simp [intOf]; omega
                          | false =>
                            have hg := Tryz.md_guard
                            have he := md_eql (PT q) (VT q) ((PY (u + 1))) ((VY (u + 1)))
                            obtain ⟨D, hD⟩ : ∃ D, decide (PT q = (PY (u + 1)) ∧ VT q = (VY (u + 1))) = D := ⟨_, rfl⟩
                            have hN : Hid (D = (((mdF nT PT VT).take (q + 1)).any fun m => decide (m = (((PY (u + 1))).data.toList, ((VY (u + 1))).data.toList)))) := Lib.hid (by
                              rw [hA.out, ← hTT.out, Bool.false_or, ← hD, Bool.eq_iff_iff, decide_eq_true_iff, decide_eq_true_iff]
                              exact bytes_pair.symm)
                            rw [hD] at he
                            clear hD
                            go_wp2_with fail
                            have kqd0 := fun d os => cell_patch (d := d) (os := os) d0
                            have kqd1 := fun d os => cell_patch (d := d) (os := os) d1
                            have kqc0 := fun d os => cell_patch (d := d) (os := os) c0
                            have kqc1 := fun d os => cell_patch (d := d) (os := os) c1
                            have kqx0 := fun d os => cell_patch (d := d) (os := os) x0
                            refine wp_region_quiet_patch (by kernel_rfl) (by kernel_rfl) ?_
                            repeat (go_big_quiet_step (fail))
                            refine wpQuiet_nil ?_
                            intro _ hw'
                            obtain ⟨⟨dq, osq⟩, hw''⟩ := hw'
                            subst hw''
                            clear kqd0 kqd1 kqc0 kqc1 kqx0
                            have hb := below_patch wr dq osq
                            replace hBk := below_step hBk hb
                            clear hb
                            generalize patch wr dq osq = wq1 at hBk ⊢
                            go_wp2_with fail
                            go_roundw
                            case rel => exact ⟨q + 1, D, by omega, by go_num, rfl, hN, hBk⟩
                            case measure => simp [intOf]; omega
                        · obtain rfl : nT = q := by omega
                          rw [mdF_take_all] at hTT
                          obtain rfl : tT = true := by rw [hTT.out, any_md]; exact decide_eq_true HST.out
                          clear hq hq2 hTT
                          go_wp2_with fail
                          clear x0
                          generalize wr = wq6 at *
                          go_loopw [22] (fun i wr => ∃ j : Nat, j ≤ u + 1 ∧ i = .int .i64 j ∧ Below w10.heap.size w10 wr) (fun i _ => u + 1 - (intOf i).toNat)
                          case atStart => exact ⟨0, Nat.zero_le _, rfl, hBk⟩
                          case round =>
                            clear hBk
                            obtain ⟨j, hj, rfl, hBk⟩ := hrel
                            by_cases hj2 : j < u + 1
                            · have hju : (j : Int) < (u : Int) + 1 := by omega
                              have hjN : (j : Int) < (N : Int) + 1 := by omega
                              have hne : ¬ (PY j = PY (u + 1) ∧ VY j = VY (u + 1)) := fun h => by
                                have g1 := mdF_get (N + 1) PY VY j (by omega)
                                have g2 := mdF_get (N + 1) PY VY (u + 1) (by omega)
                                rw [h.1, h.2] at g1
                                have := (List.getElem?_inj (i := j) (j := u + 1) (by rw [mdF_length]; omega) HW.out.nd).1 (g1.trans g2.symm)
                                omega
                              have hd : decide (PY j = PY (u + 1) ∧ VY j = VY (u + 1)) = false := decide_eq_false hne
                              have hg := Tryz.md_guard
                              have he := md_eql (PY j) (VY j) (PY (u + 1)) (VY (u + 1))
                              simp only [hd] at he
                              have d0 := Below.cell_some hBk (HcY.out j (by omega)).1
                              have d1 := Below.cell_some hBk (HcY.out j (by omega)).2
                              have c0 := Below.cell_some hBk hYn.out.1
                              have c1 := Below.cell_some hBk hYn.out.2
                              clear hne hd
                              go_wp2_with fail
                              have kqd0 := fun d os => cell_patch (d := d) (os := os) d0
                              have kqd1 := fun d os => cell_patch (d := d) (os := os) d1
                              have kqc0 := fun d os => cell_patch (d := d) (os := os) c0
                              have kqc1 := fun d os => cell_patch (d := d) (os := os) c1
                              refine wp_region_quiet_patch (by kernel_rfl) (by kernel_rfl) ?_
                              repeat (go_big_quiet_step (fail))
                              refine wpQuiet_nil ?_
                              intro _ hw'
                              obtain ⟨⟨dq, osq⟩, hw''⟩ := hw'
                              subst hw''
                              clear kqd0 kqd1 kqc0 kqc1
                              have hb := below_patch wr dq osq
                              replace hBk := below_step hBk hb
                              clear hb
                              generalize patch wr dq osq = wq1 at hBk ⊢
                              go_wp2_with fail
                              go_roundw
                              case rel => exact ⟨j + 1, by omega, by go_num, hBk⟩
                              case measure => simp [intOf]; omega
                            · have hju : ¬ (j : Int) < (u : Int) + 1 := by omega
                              go_wp2_with fail
                              go_roundw
                              case rel => exact ⟨u + 1, by omega, by go_num, hBk⟩
                              case measure => simp [intOf]; omega
                    · have hlt' : ¬ (u : Int) + 1 < (N : Int) + 1 := by omega
                      have hBe := below_step hB10 hBk
                      clear hBk
                      go_wp2_with fail
                      go_roundw
                      case rel => exact ⟨k + 1, by omega, by go_num, hBe⟩
                      case measure => simp [intOf]; omega
            · obtain rfl : tX = false := by rw [hTX.out, Bool.false_or, any_md, decide_eq_false hin]
              obtain ⟨e1, e2⟩ := HN.out _ hin
              rw [e1, e2] at hway
              clear hin hTX e1 e2
              go_wp2_with fail
              refine hway.out.mono ?_
              rintro e w10 ⟨⟨y, ev, rfl, hf, hY⟩, hb⟩
              obtain ⟨ay, ny, cy, PY, VY, rfl, eY, _⟩ := hY
              obtain rfl : ny = 0 := by have := congrArg List.length eY; rw [mdF_length] at this; exact this.symm
              rcases fault_form hf with ⟨h, _⟩ | ⟨_, ty, p1, rfl⟩
              · cases h
              · have hB10 := below_step hBk hb
                clear hf eY hb hway hBk
                go_wp2_with fail
                go_roundw
                case rel => exact ⟨k + 1, by omega, by go_num, hB10⟩
                case measure => simp [intOf]; omega
      · have hkl : ¬ ((k : Int) < (ln : Int)) := by omega
        have hBw := below_step hB9 hBk
        go_wp2_with fail
        go_ret
        exact ⟨rfl, hBw⟩
  · unfold reachR at hX
    rw [if_neg q1] at hX
    obtain ⟨az, nz, cz, PZ, VZ, rfl, eZ, _⟩ := hX
    obtain rfl : nz = 0 := by have := congrArg List.length eZ; rw [mdF_length] at this; exact this.symm
    clear hf1 eZ q1
    go_wp2_with fail
    go_ret
    exact ⟨rfl, hB4⟩
end Go.Proofs.Pw

/- GraphWays: its walk, joined. -/
namespace Go.Proofs.Pw
open Go.RowKit
open Go.Lib hiding intOf

theorem grWays_calls (ks : List Nat) (A : Nat → Addr) (hks : IdxKs ks) (lv av : Value) (l : List En) (Am : List Md) (w : World) (hE : EnvP ks A w) (hl : EntsAt w lv l) (ha : ModsAt w av Am) :
    Calls Tryz.prog 5 #[lv, av] w fun e w' => e = .returned (.bool true) ∧ Below w.heap.size w w' := by
  obtain ⟨la, ln, lc, P, V, R, K, Bk, Rv, Kv, rfl, rfl, hin⟩ := hl
  cases h1 : longIdx (enF ln P V R K Bk)
  · cases h2 : longMods Am 15
    · exact grWays_main ks A hks la ln lc P V R K Bk Rv Kv av Am w hE hin ha h1 h2
    · exact grWays_long ks A hks la ln lc P V R K Bk Rv Kv av Am w hE hin ha (.inr ⟨h1, h2⟩)
  · exact grWays_long ks A hks la ln lc P V R K Bk Rv Kv av Am w hE hin ha (.inl h1)
end Go.Proofs.Pw

/- From a row's listed variables to what the walks ask: the sentinels, each at its own place; errors.errorType's handle. -/
namespace Go.Proofs.Pw
open Go.RowKit Go.ChangeShapes

/-- a sentinel's datum -/
def sentD (text : List UInt8) : DataW Unit := .iface "*errors.errorString" (.ptr (.agg [.lit (.string text)]))

theorem Tryz.star : "*" ++ "errors.errorString" = "*errors.errorString" := by decide
theorem Tryz.rowES : ∀ u, Tryz.prog.typeName? 3 u = some "*errors.errorString" → u = 259 := fun u h =>
  typeName_ptr_named (P := Tryz.prog) (nm := "errors.errorString") (by rw [Tryz.star]; kernel_rfl) (by kernel_rfl) (by decide) u (by rw [Tryz.star]; exact h)

section
variable {W : World}

set_option maxRecDepth 100000 in
theorem sent_mem {n : String} {text : List UInt8} : ∀ {l : List (String × DataW Unit)} {ps : List MemPlace}, DataW.LaidVars Tryz.prog W l ps →
    (∀ b off, MemPlace.cell b off ∈ ps → (∃ c t, W.heap[b]? = some (.cells c t (0, 0))) ∧ ∀ u v, W.cell? ⟨b, off, none⟩ = some (.iface u v) → Value.okWide Tryz.prog W .any 0 u v) →
    (n, sentD text) ∈ l → (∀ g, Tryz.prog.globalNamed n = some g → (Tryz.prog.globals[g]?).map (·.type) = some 31) →
    ∃ (g : Nat) (a : Addr), Tryz.prog.globalNamed n = some g ∧ W.cell? ⟨g, 0, none⟩ = some (.iface 259 (.pointer (some a))) ∧ MemPlace.cell a.block a.off ∈ ps
  | [], _, _, _, hm, _ => by cases hm
  | (n0, d0) :: r, ps, h, hrows, hm, ht => by
    obtain ⟨g, t, cs, fuel, p, q, hg, htt, hv, hd, hq, rfl⟩ := h
    rcases List.mem_cons.1 hm with he | hm
    · obtain ⟨rfl, rfl⟩ := Prod.mk.injEq .. ▸ he
      obtain rfl := Option.some.inj ((ht g hg).symm.trans htt)
      obtain ⟨l0⟩ := cs
      have ok0 : ∀ u v, l0 = [.iface u v] → Value.okWide Tryz.prog W .any 0 u v := fun u v e => by
        subst e
        exact (hrows g 0 (by simp [MemPlace.row])).2 u v (by simpa using World.var?_cell hg hv 0)
      obtain ⟨a, s, rfl, _, _, _, rfl⟩ := errorString_of_trod Tryz.underlying31 Tryz.rowES Tryz.underlying259 Tryz.underlying261 rfl rfl Tryz.underlying9 (by kernel_rfl) (by kernel_rfl) hd ok0
      exact ⟨g, a, hg, by simpa using World.var?_cell hg hv 0, by simp [MemPlace.row]⟩
    · obtain ⟨g', a, h1, h2, h3⟩ := sent_mem hq (fun b off hm => hrows b off (List.mem_append_right _ hm)) hm ht
      exact ⟨g', a, h1, h2, List.mem_append_right _ h3⟩

set_option maxRecDepth 100000 in
theorem sent_ne {n n' : String} {text text' : List UInt8} (hnn : n ≠ n') : ∀ {l : List (String × DataW Unit)} {ps : List MemPlace}, DataW.LaidVars Tryz.prog W l ps → ps.Nodup →
    (∀ b off, MemPlace.cell b off ∈ ps → (∃ c t, W.heap[b]? = some (.cells c t (0, 0))) ∧ ∀ u v, W.cell? ⟨b, off, none⟩ = some (.iface u v) → Value.okWide Tryz.prog W .any 0 u v) →
    (n, sentD text) ∈ l → (n', sentD text') ∈ l → (∀ g, Tryz.prog.globalNamed n = some g → (Tryz.prog.globals[g]?).map (·.type) = some 31) → (∀ g, Tryz.prog.globalNamed n' = some g → (Tryz.prog.globals[g]?).map (·.type) = some 31) →
    ∀ (g g' : Nat) (a a' : Addr), Tryz.prog.globalNamed n = some g → Tryz.prog.globalNamed n' = some g' → W.cell? ⟨g, 0, none⟩ = some (.iface 259 (.pointer (some a))) → W.cell? ⟨g', 0, none⟩ = some (.iface 259 (.pointer (some a'))) → a ≠ a'
  | [], _, _, _, _, hm, _, _, _ => by cases hm
  | (n0, d0) :: r, ps, h, hnd, hrows, hm, hm', ht, ht' => by
    intro g g' a a' hg hg' hc hc'
    obtain ⟨g0, t0, cs, fuel, p, q, hg0, htt, hv, hd, hq, rfl⟩ := h
    have hrq : ∀ b off, MemPlace.cell b off ∈ q → (∃ c t, W.heap[b]? = some (.cells c t (0, 0))) ∧ ∀ u v, W.cell? ⟨b, off, none⟩ = some (.iface u v) → Value.okWide Tryz.prog W .any 0 u v := fun b off hm => hrows b off (List.mem_append_right _ hm)
    have head : ∀ {m : String} {tx : List UInt8} {gm : Nat} {am : Addr}, (m, sentD tx) = (n0, d0) → (∀ g, Tryz.prog.globalNamed m = some g → (Tryz.prog.globals[g]?).map (·.type) = some 31) → Tryz.prog.globalNamed m = some gm → W.cell? ⟨gm, 0, none⟩ = some (.iface 259 (.pointer (some am))) → MemPlace.cell am.block am.off ∈ p := by
      intro m tx gm am he htm hgm hcm
      obtain ⟨rfl, rfl⟩ := Prod.mk.injEq .. ▸ he
      obtain rfl := Option.some.inj (hg0.symm.trans hgm)
      obtain rfl := Option.some.inj ((htm g0 hg0).symm.trans htt)
      obtain ⟨l0⟩ := cs
      have ok0 : ∀ u v, l0 = [.iface u v] → Value.okWide Tryz.prog W .any 0 u v := fun u v e => by
        subst e
        exact (hrows g0 0 (by simp [MemPlace.row])).2 u v (by simpa using World.var?_cell hg0 hv 0)
      obtain ⟨a1, s, rfl, _, _, _, rfl⟩ := errorString_of_trod Tryz.underlying31 Tryz.rowES Tryz.underlying259 Tryz.underlying261 rfl rfl Tryz.underlying9 (by kernel_rfl) (by kernel_rfl) hd ok0
      have e := World.var?_cell hg0 hv 0
      rw [hcm] at e
      simp at e
      subst e
      simp [MemPlace.row]
    have tail : ∀ {m : String} {tx : List UInt8} {gm : Nat} {am : Addr}, (m, sentD tx) ∈ r → (∀ g, Tryz.prog.globalNamed m = some g → (Tryz.prog.globals[g]?).map (·.type) = some 31) → Tryz.prog.globalNamed m = some gm → W.cell? ⟨gm, 0, none⟩ = some (.iface 259 (.pointer (some am))) → MemPlace.cell am.block am.off ∈ q := by
      intro m tx gm am hmm htm hgm hcm
      obtain ⟨g2, a2, h1, h2, h3⟩ := sent_mem hq hrq hmm htm
      obtain rfl := Option.some.inj (hgm.symm.trans h1)
      rw [hcm] at h2
      simp at h2
      subst h2
      exact h3
    rw [List.nodup_append] at hnd
    have hpq : ∀ x, x ∈ p → x ∈ q → False := fun x hx hy => hnd.2.2 x (List.mem_append_right _ hx) x hy rfl
    rcases List.mem_cons.1 hm with he | hm
    · rcases List.mem_cons.1 hm' with he' | hm'
      · exact absurd ((Prod.mk.inj he).1.trans (Prod.mk.inj he').1.symm) hnn
      · intro e
        subst e
        exact hpq _ (head he ht hg hc) (tail hm' ht' hg' hc')
    · rcases List.mem_cons.1 hm' with he' | hm'
      · intro e
        subst e
        exact hpq _ (head he' ht' hg' hc') (tail hm ht hg hc)
      · exact sent_ne hnn hq hnd.2.1 hrq hm hm' ht ht' g g' a a' hg hg' hc hc'
end

/-- where the sentinel of a number lies, in a world -/
def errA (W : World) (k : Nat) : Addr := match W.cell? ⟨errG k, 0, none⟩ with
  | some (.iface _ (.pointer (some a))) => a
  | _ => default

/-- THE SENTINELS OF A LIST: names and texts by number. -/
theorem envE_of {W : World} {l : List (String × DataW Unit)} (h : laidMet Tryz.prog l W) (ks : List Nat) (nm : Nat → String) (tx : Nat → List UInt8)
    (hm : ∀ k ∈ ks, (nm k, sentD (tx k)) ∈ l) (hg : ∀ k ∈ ks, Tryz.prog.globalNamed (nm k) = some (errG k)) (ht : ∀ k ∈ ks, (Tryz.prog.globals[errG k]?).map (·.type) = some 31)
    (hne : ∀ j ∈ ks, ∀ k ∈ ks, j ≠ k → nm j ≠ nm k) : EnvE ks (errA W) W := by
  obtain ⟨ps, hv, hnd, hrows⟩ := h
  have htt : ∀ k ∈ ks, ∀ g, Tryz.prog.globalNamed (nm k) = some g → (Tryz.prog.globals[g]?).map (·.type) = some 31 := fun k hk g h => by
    obtain rfl := Option.some.inj ((hg k hk).symm.trans h)
    exact ht k hk
  have cell : ∀ k ∈ ks, W.cell? ⟨errG k, 0, none⟩ = some (.iface 259 (.pointer (some (errA W k)))) ∧ MemPlace.cell (errA W k).block (errA W k).off ∈ ps := fun k hk => by
    obtain ⟨g, a, h1, h2, h3⟩ := sent_mem hv hrows (hm k hk) (htt k hk)
    obtain rfl := Option.some.inj ((hg k hk).symm.trans h1)
    have e : errA W k = a := by unfold errA; rw [h2]
    rw [e]
    exact ⟨h2, h3⟩
  refine ⟨fun k hk => (cell k hk).1, fun k hk => (hrows _ _ (cell k hk).2).1, fun j hj k hk e => ?_⟩
  rcases Nat.decEq j k with hjk | hjk
  · exact absurd e (sent_ne (hne j hj k hk hjk) hv hnd hrows (hm j hj) (hm k hk) (htt j hj) (htt k hk) _ _ _ _ (hg j hj) (hg k hk) (cell j hj).1 (cell k hk).1)
  · exact hjk

theorem Tryz.et : Tryz.prog.globalNamed "errors.errorType" = some 11 := by kernel_rfl
theorem Tryz.rt : (Tryz.prog.cutTypes.find? (·.1 == "internal/reflectlite.rtype")).map (·.2) = some 214 := by kernel_rfl
theorem Tryz.oneRow : ((List.range 295).filter fun t => Tryz.prog.rowNamed t [101, 114, 114, 111, 114]) = [31] := by kernel_rfl
theorem Tryz.typesSize : Tryz.prog.types.size = 295 := by kernel_rfl

/-- errors.errorType's cell -/
theorem handle_of {W : World} {hs : List (String × DataW Unit)} (h : handlesMet Tryz.prog hs W)
    (hm : ("errors.errorType", (.iface "internal/reflectlite.rtype" (.agg [.ptr (.lit (.string [101, 114, 114, 111, 114]))]) : DataW Unit)) ∈ hs) :
    W.cell? ⟨11, 0, none⟩ = some (.iface 214 (.agg #[.pointer (some ⟨19, 31, none⟩)])) := by
  obtain ⟨name, u, ty, e1, e2, e3, e4, e5⟩ := h _ hm
  have en : name = [101, 114, 114, 111, 114] := (Option.some.inj e1).symm
  subst en
  obtain rfl := Option.some.inj (Tryz.rt.symm.trans e2)
  have hmm : ty ∈ (List.range 295).filter fun t => Tryz.prog.rowNamed t [101, 114, 114, 111, 114] := List.mem_filter.2 ⟨List.mem_range.2 (by rw [← Tryz.typesSize]; exact e3), e4⟩
  rw [Tryz.oneRow] at hmm
  obtain rfl := List.mem_singleton.1 hmm
  have hh : typeHandle Tryz.prog 31 = .pointer (some ⟨19, 31, none⟩) := by kernel_rfl
  rw [hh] at e5
  simpa using World.var?_cell Tryz.et e5 0
end Go.Proofs.Pw

/- From a row's listed variables to what packages ver and mod ask: the sentinels, strconv.ErrRange, the table of powers. -/
namespace Go.Proofs.Pw
open Go.RowKit Go.ChangeShapes

theorem tab_mem {W : World} {n : String} {k : IntKind} {zs : List Int} {g : Nat} {t e : TypeId} {m : Nat}
    (hg : Tryz.prog.globalNamed n = some g) (hty : (Tryz.prog.globals[g]?).map (·.type) = some t) (ht : Tryz.prog.underlying t = some (.array m e)) (he : Tryz.prog.underlying e = some (.int k)) (hce : Tryz.prog.cellsOf e = 1) (hct : Tryz.prog.cellsOf t = m) :
    ∀ {l : List (String × DataW Unit)} {ps : List MemPlace}, DataW.LaidVars Tryz.prog W l ps → (n, Lib.tabData k zs) ∈ l → Lib.TabIs Tryz.prog W n k zs
  | [], _, _, hm => by cases hm
  | (n0, d0) :: r, ps, h, hm => by
    obtain ⟨g', t', cs, fuel, p, q, hg', ht', hvar, hd, hq, rfl⟩ := h
    rcases List.mem_cons.1 hm with heq | hm
    · obtain ⟨rfl, rfl⟩ := Prod.mk.injEq .. ▸ heq
      obtain rfl := Option.some.inj (hg.symm.trans hg')
      obtain rfl := Option.some.inj (hty.symm.trans ht')
      unfold Lib.TabIs
      rw [hvar, ← Lib.cells_of_tab ht he hce hct hd]
    · exact tab_mem hg hty ht he hce hct hq hm

/-- an error's name and text by its number -/
def errNm : Nat → String
  | 1 => "pewholder/api.ErrText" | 2 => "pewholder/api.ErrBound" | 3 => "pewholder/api.ErrShape" | 4 => "pewholder/api.ErrMajor" | 5 => "pewholder/api.ErrNone"
  | 6 => "pewholder/api.ErrExist" | 7 => "pewholder/api.ErrFull" | 8 => "pewholder/api.ErrOrder" | 9 => "pewholder/api.ErrClash" | _ => "pewholder/api.ErrSum"
def errTx : Nat → List UInt8
  | 1 => [112, 101, 119, 104, 111, 108, 100, 101, 114, 58, 32, 116, 101, 120, 116]
  | 2 => [112, 101, 119, 104, 111, 108, 100, 101, 114, 58, 32, 98, 111, 117, 110, 100]
  | 3 => [112, 101, 119, 104, 111, 108, 100, 101, 114, 58, 32, 115, 104, 97, 112, 101]
  | 4 => [112, 101, 119, 104, 111, 108, 100, 101, 114, 58, 32, 109, 97, 106, 111, 114]
  | 5 => [112, 101, 119, 104, 111, 108, 100, 101, 114, 58, 32, 110, 111, 110, 101]
  | 6 => [112, 101, 119, 104, 111, 108, 100, 101, 114, 58, 32, 101, 120, 105, 115, 116]
  | 7 => [112, 101, 119, 104, 111, 108, 100, 101, 114, 58, 32, 102, 117, 108, 108]
  | 8 => [112, 101, 119, 104, 111, 108, 100, 101, 114, 58, 32, 111, 114, 100, 101, 114]
  | 9 => [112, 101, 119, 104, 111, 108, 100, 101, 114, 58, 32, 99, 108, 97, 115, 104]
  | _ => [112, 101, 119, 104, 111, 108, 100, 101, 114, 58, 32, 115, 117, 109]
def rangeTx : List UInt8 := [118, 97, 108, 117, 101, 32, 111, 117, 116, 32, 111, 102, 32, 114, 97, 110, 103, 101]

theorem maxLenEnv {W : World} (h : W.ShapedOpen Tryz.prog) : EnvM W := by
  obtain ⟨m, hm⟩ := Tryz.laysM143.s1_3 W h
  exact ⟨m, hm⟩

theorem envP_of {W : World} {l : List (String × DataW Unit)} (h : laidMet Tryz.prog l W) (hsh : W.ShapedOpen Tryz.prog) (ks : List Nat) (hks : 1 ∈ ks ∧ 2 ∈ ks)
    (hm : ∀ k ∈ ks, (errNm k, sentD (errTx k)) ∈ l) (hg : ∀ k ∈ ks, Tryz.prog.globalNamed (errNm k) = some (errG k)) (ht : ∀ k ∈ ks, (Tryz.prog.globals[errG k]?).map (·.type) = some 31)
    (hne : ∀ j ∈ ks, ∀ k ∈ ks, j ≠ k → errNm j ≠ errNm k) (hr : ("strconv.ErrRange", sentD rangeTx) ∈ l) (hp : ("internal/strconv.uint64pow10", Lib.tabData .u64 Lib.pow10Tab) ∈ l) : EnvP ks (errA W) W := by
  refine { m := maxLenEnv hsh, errs := envE_of h ks errNm errTx hm hg ht hne, has := hks, range := ?_, pow10 := ?_ }
  · obtain ⟨ps, hv, hnd, hrows⟩ := h
    obtain ⟨g, a, h1, h2, _⟩ := sent_mem hv hrows hr (fun g hg => by
      obtain rfl := Option.some.inj ((show Tryz.prog.globalNamed "strconv.ErrRange" = some 13 by kernel_rfl).symm.trans hg)
      kernel_rfl)
    obtain rfl := Option.some.inj ((show Tryz.prog.globalNamed "strconv.ErrRange" = some 13 by kernel_rfl).symm.trans h1)
    exact ⟨_, _, h2⟩
  · obtain ⟨ps, hv, _, _⟩ := h
    exact tab_mem (g := 16) (by kernel_rfl) (by kernel_rfl) (Tryz.underlying263) (Tryz.underlying177) (by kernel_rfl) (by kernel_rfl) hv hp

/-- a slice of texts that came in -/
theorem strsAt_open {w : World} {a : Addr} {len cap : Nat} {ss : List ByteArray} (hl : len ≤ cap) (hm : cap ≤ maxLen) (hlen : len ≤ ss.length) (hc : ∀ i, i < ss.length → w.cell? (a.add i) = some (.string (ss.getD i ByteArray.empty))) :
    StrsAt w (.slice (some a) len cap) (lstF len fun j => ss.getD j ByteArray.empty) := by
  refine ⟨some a, len, cap, _, rfl, rfl, hl, by unfold maxLen at hm; exact hm, fun j hj => ?_⟩
  have h0 := hc 0 (by omega)
  have hs : a.spot = none := by
    have e : a.add 0 = a := rfl
    rw [e] at h0
    unfold World.cell? at h0
    split at h0
    · split at h0
      · cases h0
      · rename_i h
        simpa using h
    · cases h0
  obtain ⟨b, o, s⟩ := a
  obtain rfl : s = none := hs
  refine ⟨b, o, rfl, ?_⟩
  have := hc j (by omega)
  have e : (⟨b, o, none⟩ : Addr).add j = ⟨b, o + j, none⟩ := by unfold Addr.add; split <;> simp_all
  rw [e] at this
  exact this

theorem wf64 {x : Int} (h : (Lit.int .i64 x).wf = true) : -9223372036854775808 ≤ x ∧ x ≤ 9223372036854775807 := by
  unfold Lit.wf at h
  simp only [Bool.and_eq_true, decide_eq_true_eq] at h
  exact h

set_option maxRecDepth 100000 in
theorem strsOpen {H : Type} {enc : TypeId × Value → H} {W : World} {base : Nat} {v : Value} {d : DataW H} {p : List MemPlace} (hv : Value.okWide Tryz.prog W .any base 47 v)
    (h : DataW.Trod enc Tryz.prog W 0 (fun _ => true) true 47 v d p) : ∃ l, StrsAt W v l := by
  obtain ⟨a0, len, cap, rfl⟩ := WideShapes.okWide_slice Tryz.underlying47 hv
  obtain ⟨fuel, hf⟩ := h
  rcases ChangeShapes.open_strings Tryz.underlying47 Tryz.underlying9 (by kernel_rfl) hf with ⟨hcs, _⟩ | ⟨a, len', cap', ss, hcs, _, hl, hm, hz, _, hcell, _⟩
  · simp [Value.cells] at hcs
    obtain ⟨rfl, rfl, rfl⟩ := hcs
    exact ⟨[], StrsAt.nil W⟩
  · simp [Value.cells] at hcs
    obtain ⟨rfl, rfl, rfl⟩ := hcs
    exact ⟨_, strsAt_open hl hm (by rw [hz, if_pos rfl]; exact hl) hcell⟩
end Go.Proofs.Pw

/- Arguments of the statements: a module, a slice of modules, as they lie in memory. -/
namespace Go.Proofs.Pw
open Go.RowKit Go.ChangeShapes Go.WideShapes

theorem spot_none {w : World} {a : Addr} {v : Value} (h : w.cell? a = some v) : a.spot = none := by
  unfold World.cell? at h
  split at h
  · split at h
    · cases h
    · rename_i hs
      simpa using hs
  · cases h
theorem add_off (b o i : Nat) : (⟨b, o, none⟩ : Addr).add i = ⟨b, o + i, none⟩ := by unfold Addr.add; split <;> simp_all
set_option maxRecDepth 100000 in
/-- a module's two cells -/
theorem mdTrod {H : Type} {enc : TypeId × Value → H} {w : World} {base : Nat} {spare : Nat → Bool} {held : Bool} {fuel : Nat} {cs : List Value} {x : DataW H × List MemPlace}
    (h : DataW.trod enc Tryz.prog w base spare held fuel 26 cs = some x) : ∃ p v : ByteArray, cs = [.string p, .string v] := by
  obtain ⟨xs, n, _, _, hl, hx, hf⟩ := DataW.trod_struct Tryz.underlying26 h
  have hc : Tryz.prog.cellsOf 26 = 2 := by kernel_rfl
  have hs : Tryz.prog.cellsOf 9 = 1 := by kernel_rfl
  have h0 : DataW.trod enc Tryz.prog w base spare held n 9 ((cs.drop 0).take (Tryz.prog.cellsOf 9)) = xs[0]? := hf 0 _ rfl
  have h1 : DataW.trod enc Tryz.prog w base spare held n 9 ((cs.drop 1).take (Tryz.prog.cellsOf 9)) = xs[1]? := hf 1 _ rfl
  match cs, hl.trans hc with
  | [c0, c1], _ =>
    rw [hs] at h0 h1
    match xs, hx with
    | [x0, x1], _ =>
      obtain ⟨p, e0, _⟩ := DataW.trod_string Tryz.underlying9 h0
      obtain ⟨v, e1, _⟩ := DataW.trod_string Tryz.underlying9 h1
      simp at e0 e1
      exact ⟨p, v, by rw [e0, e1]⟩

set_option maxRecDepth 100000 in
theorem mdOpen {H : Type} {enc : TypeId × Value → H} {W : World} {base : Nat} {v : Value} {d : DataW H} {p : List MemPlace} (hv : Value.okWide Tryz.prog W .any base 26 v)
    (h : DataW.Trod enc Tryz.prog W 0 (fun _ => true) true 26 v d p) : ∃ p v' : ByteArray, v = .agg #[.string p, .string v'] := by
  obtain ⟨cs, rfl, _⟩ := okWide_struct Tryz.underlying26 hv
  obtain ⟨fuel, hf⟩ := h
  obtain ⟨p, v', e⟩ := mdTrod hf
  obtain ⟨l⟩ := cs
  simp [Value.cells] at e
  exact ⟨p, v', by rw [e]⟩

set_option maxRecDepth 100000 in
/-- the cells of a slice of modules -/
theorem modsCells {H : Type} {enc : TypeId × Value → H} {W : World} {fuel : Nat} {cs : List Value} {x : DataW H × List MemPlace}
    (h : DataW.trod enc Tryz.prog W 0 (fun _ => true) true fuel 22 cs = some x) : ∃ a n cap l, cs = [.slice a n cap] ∧ ModsAt W (.slice a n cap) l := by
  rcases Go.Deep.open_slice Tryz.underlying22 h with ⟨rfl, _⟩ | ⟨a, len, cap, m, n, D, Pl, rfl, _, hl, hm, hmm, _, hi⟩
  · exact ⟨none, 0, 0, [], rfl, ModsAt.nil W⟩
  · have hc : Tryz.prog.cellsOf 26 = 2 := by kernel_rfl
    rw [if_pos rfl] at hmm
    have key : ∀ i, i < len → ∃ p v : ByteArray, W.cell? (a.add (i * 2)) = some (.string p) ∧ W.cell? (a.add (i * 2 + 1)) = some (.string v) := fun i h => by
      obtain ⟨cs', h1, h2⟩ := hi i (by omega)
      rw [hc] at h1
      obtain ⟨p, v, rfl⟩ := mdTrod h2
      obtain ⟨_, _, hat⟩ := World.cells?_some h1
      have a0 := hat 0 (by decide)
      have a1 := hat 1 (by decide)
      rw [Go.Deep.add_add] at a0 a1
      exact ⟨p, v, a0, a1⟩
    classical
    let P : Nat → ByteArray := fun i => if h : i < len then (key i h).choose else ByteArray.empty
    let V : Nat → ByteArray := fun i => if h : i < len then (key i h).choose_spec.choose else ByteArray.empty
    refine ⟨some a, len, cap, mdF len P V, rfl, some a, len, cap, P, V, rfl, rfl, hl, by unfold maxLen at hm; exact hm, fun j hj => ?_⟩
    have h0 := (key j hj).choose_spec.choose_spec
    have hs : a.spot = none := by
      have := (key 0 (by omega)).choose_spec.choose_spec.1
      exact spot_none (a := a) this
    obtain ⟨b, o, s⟩ := a
    obtain rfl : s = none := hs
    refine ⟨b, o, rfl, ?_, ?_⟩
    · refine (congrArg W.cell? (add_off b o (j * 2)).symm).trans (h0.1.trans ?_)
      show _ = some (Value.string (if h : j < len then (key j h).choose else ByteArray.empty))
      rw [dif_pos hj]
    · refine (congrArg W.cell? (add_off b o (j * 2 + 1)).symm).trans (h0.2.trans ?_)
      show _ = some (Value.string (if h : j < len then (key j h).choose_spec.choose else ByteArray.empty))
      rw [dif_pos hj]
set_option maxRecDepth 100000 in
theorem modsOpen {H : Type} {enc : TypeId × Value → H} {W : World} {base : Nat} {v : Value} {d : DataW H} {p : List MemPlace} (hv : Value.okWide Tryz.prog W .any base 22 v)
    (h : DataW.Trod enc Tryz.prog W 0 (fun _ => true) true 22 v d p) : ∃ l, ModsAt W v l := by
  obtain ⟨a0, len, cap, rfl⟩ := okWide_slice Tryz.underlying22 hv
  obtain ⟨fuel, hf⟩ := h
  obtain ⟨a, n, c, l, e, hM⟩ := modsCells hf
  simp [Value.cells] at e
  obtain ⟨rfl, rfl, rfl⟩ := e
  exact ⟨l, hM⟩
end Go.Proofs.Pw

/- Arguments of the statements: an index, as it lies in memory. -/
namespace Go.Proofs.Pw
open Go.RowKit Go.ChangeShapes Go.WideShapes

set_option maxRecDepth 100000 in
/-- the cells of a slice of texts -/
theorem strsCells {H : Type} {enc : TypeId × Value → H} {W : World} {fuel : Nat} {cs : List Value} {x : DataW H × List MemPlace}
    (h : DataW.trod enc Tryz.prog W 0 (fun _ => true) true fuel 47 cs = some x) : ∃ a n cap l, cs = [.slice a n cap] ∧ StrsAt W (.slice a n cap) l := by
  rcases ChangeShapes.open_strings Tryz.underlying47 Tryz.underlying9 (by kernel_rfl) h with ⟨hcs, _⟩ | ⟨a, len', cap', ss, hcs, _, hl, hm, hz, _, hcell, _⟩
  · exact ⟨none, 0, 0, [], hcs, StrsAt.nil W⟩
  · exact ⟨_, _, _, _, hcs, strsAt_open hl hm (by rw [hz, if_pos rfl]; exact hl) hcell⟩

set_option maxRecDepth 100000 in
theorem entTrod {H : Type} {enc : TypeId × Value → H} {W : World} {fuel : Nat} {cs : List Value} {x : DataW H × List MemPlace}
    (h : DataW.trod enc Tryz.prog W 0 (fun _ => true) true fuel 49 cs = some x) : ∃ (p v : ByteArray) (rv kv : Value) (R : List Md) (K : List Str) (b : Bool), cs = [.string p, .string v, rv, kv, .bool b] ∧ ModsAt W rv R ∧ StrsAt W kv K := by
  obtain ⟨xs, n, _, _, hl, hx, hf⟩ := DataW.trod_struct Tryz.underlying49 h
  have hc : Tryz.prog.cellsOf 49 = 5 := by kernel_rfl
  have hd : Tryz.prog.cellsOf 26 = 2 := by kernel_rfl
  have hm : Tryz.prog.cellsOf 22 = 1 := by kernel_rfl
  have hk : Tryz.prog.cellsOf 47 = 1 := by kernel_rfl
  have hb : Tryz.prog.cellsOf 4 = 1 := by kernel_rfl
  have h0 : DataW.trod enc Tryz.prog W 0 (fun _ => true) true n 26 ((cs.drop 0).take (Tryz.prog.cellsOf 26)) = xs[0]? := hf 0 _ rfl
  have h1 : DataW.trod enc Tryz.prog W 0 (fun _ => true) true n 22 ((cs.drop 2).take (Tryz.prog.cellsOf 22)) = xs[1]? := hf 1 _ rfl
  have h2 : DataW.trod enc Tryz.prog W 0 (fun _ => true) true n 47 ((cs.drop 3).take (Tryz.prog.cellsOf 47)) = xs[2]? := hf 2 _ rfl
  have h3 : DataW.trod enc Tryz.prog W 0 (fun _ => true) true n 4 ((cs.drop 4).take (Tryz.prog.cellsOf 4)) = xs[3]? := hf 3 _ rfl
  match cs, hl.trans hc with
  | [c0, c1, c2, c3, c4], _ =>
    rw [hd] at h0
    rw [hm] at h1
    rw [hk] at h2
    rw [hb] at h3
    match xs, hx with
    | [x0, x1, x2, x3], _ =>
      obtain ⟨p, v, e0⟩ := mdTrod h0
      obtain ⟨a1, n1, q1, R, e1, hR⟩ := modsCells h1
      obtain ⟨a2, n2, q2, K, e2, hK⟩ := strsCells h2
      obtain ⟨b, e3, _⟩ := DataW.trod_bool Tryz.underlying4 h3
      simp at e0 e1 e2 e3
      exact ⟨p, v, _, _, R, K, b, by rw [e0.1, e0.2, e1, e2, e3], hR, hK⟩

set_option maxRecDepth 100000 in
/-- the cells of a slice of entries -/
theorem entsCells {H : Type} {enc : TypeId × Value → H} {W : World} {fuel : Nat} {cs : List Value} {x : DataW H × List MemPlace}
    (h : DataW.trod enc Tryz.prog W 0 (fun _ => true) true fuel 41 cs = some x) : ∃ a n cap l, cs = [.slice a n cap] ∧ EntsAt W (.slice a n cap) l := by
  rcases Go.Deep.open_slice Tryz.underlying41 h with ⟨rfl, _⟩ | ⟨a, len, cap, m, n, D, Pl, rfl, _, hl, hm, hmm, _, hi⟩
  · exact ⟨none, 0, 0, [], rfl, EntsAt.nil W⟩
  · have hc : Tryz.prog.cellsOf 49 = 5 := by kernel_rfl
    rw [if_pos rfl] at hmm
    have key : ∀ i, i < len → ∃ x : ByteArray × ByteArray × Value × Value × List Md × List Str × Bool, (W.cell? (a.add (i * 5)) = some (.string x.1) ∧ W.cell? (a.add (i * 5 + 1)) = some (.string x.2.1) ∧ W.cell? (a.add (i * 5 + 2)) = some x.2.2.1 ∧ W.cell? (a.add (i * 5 + 3)) = some x.2.2.2.1 ∧ W.cell? (a.add (i * 5 + 4)) = some (.bool x.2.2.2.2.2.2)) ∧ ModsAt W x.2.2.1 x.2.2.2.2.1 ∧ StrsAt W x.2.2.2.1 x.2.2.2.2.2.1 := fun i h => by
      obtain ⟨cs', h1, h2⟩ := hi i (by omega)
      rw [hc] at h1
      obtain ⟨p, v, rv, kv, R, K, b, rfl, hR, hK⟩ := entTrod h2
      obtain ⟨_, _, hat⟩ := World.cells?_some h1
      have a0 := hat 0 (by decide)
      have a1 := hat 1 (by decide)
      have a2 := hat 2 (by decide)
      have a3 := hat 3 (by decide)
      have a4 := hat 4 (by decide)
      rw [Go.Deep.add_add] at a0 a1 a2 a3 a4
      exact ⟨(p, v, rv, kv, R, K, b), ⟨a0, a1, a2, a3, a4⟩, hR, hK⟩
    obtain ⟨F, hF⟩ : ∃ F : Nat → ByteArray × ByteArray × Value × Value × List Md × List Str × Bool, ∀ i, i < len → (W.cell? (a.add (i * 5)) = some (.string (F i).1) ∧ W.cell? (a.add (i * 5 + 1)) = some (.string (F i).2.1) ∧ W.cell? (a.add (i * 5 + 2)) = some (F i).2.2.1 ∧ W.cell? (a.add (i * 5 + 3)) = some (F i).2.2.2.1 ∧ W.cell? (a.add (i * 5 + 4)) = some (.bool (F i).2.2.2.2.2.2)) ∧ ModsAt W (F i).2.2.1 (F i).2.2.2.2.1 ∧ StrsAt W (F i).2.2.2.1 (F i).2.2.2.2.2.1 := by
      classical
      refine ⟨fun i => if h : i < len then (key i h).choose else (ByteArray.empty, ByteArray.empty, .nilIface, .nilIface, [], [], false), fun i hi => ?_⟩
      simp only [dif_pos hi]
      exact (key i hi).choose_spec
    refine ⟨some a, len, cap, enF len (fun i => (F i).1) (fun i => (F i).2.1) (fun i => (F i).2.2.2.2.1) (fun i => (F i).2.2.2.2.2.1) (fun i => (F i).2.2.2.2.2.2), rfl, some a, len, cap, _, _, _, _, _, fun i => (F i).2.2.1, fun i => (F i).2.2.2.1, rfl, rfl, hl, by unfold maxLen at hm; exact hm, fun j hj => ?_, fun j hj => (hF j hj).2.1, fun j hj => (hF j hj).2.2⟩
    have hs : a.spot = none := spot_none (a := a) (hF 0 (by omega)).1.1
    obtain ⟨b, o, s⟩ := a
    obtain rfl : s = none := hs
    obtain ⟨c0, c1, c2, c3, c4⟩ := (hF j hj).1
    rw [add_off] at c0 c1 c2 c3 c4
    exact ⟨b, o, rfl, c0, by rw [Nat.add_assoc]; exact c1, by rw [Nat.add_assoc]; exact c2, by rw [Nat.add_assoc]; exact c3, by rw [Nat.add_assoc]; exact c4⟩
set_option maxRecDepth 100000 in
theorem entsOpen {H : Type} {enc : TypeId × Value → H} {W : World} {base : Nat} {v : Value} {d : DataW H} {p : List MemPlace} (hv : Value.okWide Tryz.prog W .any base 41 v)
    (h : DataW.Trod enc Tryz.prog W 0 (fun _ => true) true 41 v d p) : ∃ l, EntsAt W v l := by
  obtain ⟨a0, len, cap, rfl⟩ := okWide_slice Tryz.underlying41 hv
  obtain ⟨fuel, hf⟩ := h
  obtain ⟨a, n, c, l, e, hM⟩ := entsCells hf
  simp [Value.cells] at e
  obtain ⟨rfl, rfl, rfl⟩ := e
  exact ⟨l, hM⟩
end Go.Proofs.Pw

/- What every law's proof shares: from a call that returns true and writes nothing that was there, to the row's post; the builder that hands on the listed variables and the world's shape together. No program in sight. -/
namespace Go.Proofs.Pw
open Go.RowKit

theorem trodAll_below {H : Type} {enc : TypeId × Value → H} {P : Program} (hl : laidOutB P = true) {W W' : World} (hb : Below W.heap.size W W') :
    ∀ (ts : List TypeId) (vs : List Value) (ds : List (DataW H)) (ps : List MemPlace), (∀ t ∈ ts, P.readableRec t = true ∧ t < P.types.size) → (∀ x ∈ ps, x.block < W.heap.size) →
      DataW.TrodAll enc P W 0 (fun _ => true) true ts vs ds ps → DataW.TrodAll enc P W' 0 (fun b => decide (b < W.heap.size)) true ts vs ds ps
  | [], [], [], _, _, _, h => h
  | t :: ts, v :: vs, d :: ds, ps, hr, hlt, h => by
    obtain ⟨p, q, h1, h2, rfl⟩ := h
    exact ⟨p, q, Below.trod hl (hr t (by simp)).1 (hr t (by simp)).2 h1 hb (fun x hx => hlt x (by simp [hx])),
      trodAll_below hl hb ts vs ds q (fun u hu => hr u (by simp [hu])) (fun x hx => hlt x (by simp [hx])) h2, rfl⟩
  | [], _ :: _, _, _, _, _, h => h.elim
  | [], [], _ :: _, _, _, _, h => h.elim
  | _ :: _, [], _, _, _, _, h => h.elim
  | _ :: _, _ :: _, [], _, _, _, h => h.elim

theorem law_post {H : Type} {enc : TypeId × Value → H} {P : Program} {fn : Func} {s : ChangeSpec} {tb : TypeId} {W W' : World} {args : Array Value} {ds gs : List (DataW H)} {before : List MemPlace}
    (hl : laidOutB P = true) (hr : (fn.params.toList.all fun t => P.readableRec t && decide (t < P.types.size)) = true) (hres : fn.resultTypes = #[tb]) (htb : P.underlying tb = some .bool)
    (hvars : s.vars = []) (hspec : s.fn H (ds ++ gs) = { results := [.lit (.bool true)], args := ds })
    (hW : DataW.Whole enc P fn.params.toList s.vars false W args.toList ds gs before) (hb : Below W.heap.size W W') :
    s.post enc P fn false true false false W args (.bool true) W' := by
  have hW' := hW
  have hlt := hW.lt
  obtain ⟨p, q, hA, hV, rfl, hfz, _⟩ := hW
  have hlp : ∀ x ∈ p, x.block < W.heap.size := fun x hx => hlt x (by simp [hx])
  rw [List.all_eq_true] at hr
  refine ⟨ds, gs, _, [], p, [], hW', ?_, ?_, ?_, hb.frame _, fun h => by cases h⟩
  · rw [hspec, hres]
    exact ChangeShapes.trodAll_mk1 (shut_bool htb true)
  · rw [hspec]
    exact trodAll_below hl hb _ _ _ _ (fun t ht => by simpa using hr t ht) hlp hA
  · rw [hspec, hvars]
    rfl

theorem law_lifted {H : Type} {enc : TypeId × Value → H} {C : Checked} {os : Os} {f : FuncId} {fn : Func} {s : ChangeSpec} {tb : TypeId} {laid : List (String × DataW Unit)}
    (own : ownKnob C.prog.godebug = none) (started : os.Started) (noInit : C.prog.inits.idxOf? f = none) (hfn : C.prog.funcs[f]? = some fn)
    (hl : laidOutB C.prog = true) (hr : (fn.params.toList.all fun t => C.prog.readableRec t && decide (t < C.prog.types.size)) = true) (hres : fn.resultTypes = #[tb]) (htb : C.prog.underlying tb = some .bool)
    (hvars : s.vars = [])
    (witness : ∃ (w : World) (tape : Tape) (i : Input), w.os = os ∧ (w.forCall tape i).Shaped C.prog ∧ i.vars = [] ∧ Input.okWide C.prog (w.forCall tape i) .any w.heap.size f i ∧
      ((s.pre enc C.prog fn [] false (w.forCall tape i).memory i.args ∧ laidMetH C.prog laid (w.forCall tape i).memory) ∧ sizedMet enc C.prog fn (OpenSpec.ofChange s) false (w.forCall tape i).memory i.args) ∧ ({} : Assume).holds C.prog (lone (Frame.enter C.prog f i.args .normal) [] (w.forCall tape i)))
    (contract : ∀ (W : World) (base : Nat) (args : Array Value) (ds gs : List (DataW H)) (p q : List MemPlace),
      (∀ (j : Nat) t v, fn.params[j]? = some t → args[j]? = some v → Value.okWide C.prog W .any base t v) →
      DataW.TrodAll enc C.prog W 0 (fun _ => true) true fn.params.toList args.toList ds p → DataW.TrodVars enc C.prog W (fun _ => true) s.vars gs q →
      (∀ x ∈ p, x.block < W.heap.size) →
      (DataW.weightsEach C.prog (fn.params.toList ++ s.plain.varTypes C.prog) (ds ++ gs)).all (· ≤ reachBytes) = true → laidMetH C.prog laid W → W.ShapedOpen C.prog →
      s.fn H (ds ++ gs) = { results := [.lit (.bool true)], args := ds } ∧ Calls C.prog f args W fun e W' => e = .returned (.bool true) ∧ Below W.heap.size W W') :
    ReturnsInHanded {} C os f .any (fun w args => (s.pre enc C.prog fn [] false w args ∧ laidMetH C.prog laid w) ∧ sizedMet enc C.prog fn (OpenSpec.ofChange s) false w args) (s.post enc C.prog fn false true false false) := by
  refine returnsInHanded_of_calls own started noInit witness ?_
  intro w tape i _ hsh _ hok hpre _
  obtain ⟨_, _, _, fn', hfn', _, _, _, _, hval⟩ := hok
  obtain rfl : fn' = fn := Option.some.inj (hfn'.symm.trans hfn)
  obtain ⟨⟨⟨ds, gs, before, hw, _⟩, hx⟩, hz⟩ := hpre
  have hw' := DataW.Whole.of_heap (w' := w.forCall tape i) (by rfl) hw
  have hlt := hw'.lt
  obtain ⟨p, q, hA, hV, hpq, _, _⟩ := id hw'
  obtain ⟨hspec, hcall⟩ := contract (w.forCall tape i) w.heap.size i.args ds gs p q hval hA hV (fun x hx => hlt x (by rw [hpq]; simp [hx])) (hz.weights hw) (hx.of_heap (by rfl)) hsh
  refine hcall.mono fun e W' ⟨he, hb⟩ => ?_
  subst he
  exact ChangeSpec.post_blind (law_post hl hr hres htb hvars hspec hw' hb)
end Go.Proofs.Pw

/- Closed facts of the seat's program that every law's last text uses. -/
namespace Go.Proofs.Pw
open Go.RowKit
theorem Tryz.factLaid : laidOutB Tryz.prog = true := by kernel_rfl
theorem Tryz.factMaps : mapsRowed Tryz.prog = true := by kernel_rfl
end Go.Proofs.Pw
