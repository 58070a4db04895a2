/- St: walks and plain laws, joined: FileRef Box RefLines. Conditions: at each theorem. -/
import Derived.Test.YtglhgbcebpeomaaGreatDoorStj
import Derived.Test.YtglhgbcebpeomaaGreatDoorStu
import Derived.Test.YtglhgbcebpeomaaGreatDoorStb
import Derived.Test.YtglhgbcebpeomaaGreatDoorStr
import Derived.Test.YtglhgbcebpeomaaGreatDoorSte
import Derived.Test.YtglhgbcebpeomaaGreatDoorStl

namespace Go.Proofs.Pw
open Go.RowKit
open Go.Lib hiding intOf
def fltV (r : Nat × Int) : Value := .agg #[.int .i64 (r.1 : Nat), .int .i64 r.2]
theorem refBare_calls (k : Nat) (w : World) : Calls Tryz.prog 106 #[.int .i64 (k : Nat)] w fun e w' => e = .returned (fltV (k, -1)) ∧ Below w.heap.size w w' := by
  have hB := below_alloc w (.cells #[.int .i64 0, .int .i64 0] 46)
  obtain ⟨z0, z1, zf⟩ := box2_alloc w (.int .i64 0) (.int .i64 0) 46
  go_enter Tryz.func106, Tryz.ntmps106
  go_wp2_with fail
  refine bodyPost_ret (v := .agg #[.int .i64 (k : Nat), .int .i64 (-1)]) (by simp [results, Tryz.results106, go_sem, *]) rfl ?_
  first
  | exact ⟨rfl, (hB.setCell (Nat.le_refl _) _).setCell (Nat.le_refl _) _⟩
  | exact ⟨rfl, below_alloc _ _⟩
theorem refFine_calls (w : World) : Calls Tryz.prog 60 #[] w fun e w' => e = .returned (fltV (0, -1)) ∧ Below w.heap.size w w' := by
  have hB := below_alloc w (.cells #[.int .i64 0, .int .i64 0] 46)
  obtain ⟨z0, z1, zf⟩ := box2_alloc w (.int .i64 0) (.int .i64 0) 46
  go_enter Tryz.func60, Tryz.ntmps60
  go_wp2_with fail
  refine bodyPost_ret (v := .agg #[.int .i64 0, .int .i64 (-1)]) (by simp [results, Tryz.results60, go_sem, *]) rfl ?_
  first
  | exact ⟨rfl, (hB.setCell (Nat.le_refl _) _).setCell (Nat.le_refl _) _⟩
  | exact ⟨rfl, below_alloc _ _⟩
def rqP (r : Nat × Int) : Nat × Int := if r.1 = 0 then (0, 0) else r
set_option maxHeartbeats 4000000 in
set_option maxRecDepth 100000 in
theorem reqsError_calls (own : ByteArray) (rv : Value) (R : List Md) (w : World) (hr : ModsAt w rv R) (hs : Short R) :
    Calls Tryz.prog 175 #[rv, .string own] w fun e w' => e = .returned (.tuple #[.int .i64 ((rqP (firstE (reqE own.data.toList R) R.length)).1 : Nat), .int .i64 (rqP (firstE (reqE own.data.toList R) R.length)).2]) ∧ Below w.heap.size w w' := by
  obtain ⟨a, n, cap, P, V, rfl, rfl, hnc, hcap, hc⟩ := hr
  have hP : Hid (∀ j, j < n → (P j).size ≤ 1000000 ∧ (V j).size ≤ 1000000) := Lib.hid (short_F hs).2
  have hn : n ≤ 1000000 := (short_F hs).1
  rw [mdF_length]
  replace hc := Lib.hid hc
  clear hs
  go_enter Tryz.func175, Tryz.ntmps175
  go_wp2_with fail
  go_loopw [6] (fun i wr => ∃ k : Nat, k ≤ n ∧ i = .int .i64 k ∧ Below w.heap.size w wr ∧ Hid (∀ j, j < k → reqE own.data.toList (mdF n P V) j = 0)) (fun i _ => n - (intOf i).toNat)
  case atStart => exact ⟨0, Nat.zero_le _, rfl, Below.refl _ _, Lib.hid (fun j hj => absurd hj (Nat.not_lt_zero _))⟩
  case round =>
    obtain ⟨k, hk, rfl, hBk, HA⟩ := hrel
    by_cases hlt : k < n
    · have hkn : (k : Int) < (n : Int) := by omega
      obtain ⟨b1, o1, ea, c0, c1⟩ := hc.out k hlt
      replace c0 := Below.cell_some hBk c0
      replace c1 := Below.cell_some hBk c1
      have hme := refModErr_calls (P k) (V k) wr (by have := (hP.out k hlt).1; omega) (by have := (hP.out k hlt).2; omega)
      have hR : reqE own.data.toList (mdF n P V) k = if modErr (P k).data.toList (V k).data.toList ≠ 0 then modErr (P k).data.toList (V k).data.toList else if (P k).data.toList = own.data.toList then 3 else if 0 < k ∧ compareBytes (P k).data.toList (mdAt (mdF n P V) (k - 1)).1 ≤ 0 then 8 else 0 := by
        unfold reqE
        rw [mdAt_mdF hlt]; rfl
      subst ea
      by_cases h0 : modErr (P k).data.toList (V k).data.toList = 0
      · rw [if_neg (by simp [h0])] at hR
        rw [h0] at hme
        by_cases hp : (P k).data.toList = own.data.toList
        · rw [if_pos hp] at hR
          have HF : Hid (rqP (firstE (reqE own.data.toList (mdF n P V)) n) = (3, (k : Int))) := Lib.hid (by rw [firstE_hit (by rw [hR]; decide) HA.out hlt, hR]; rfl)
          have hpb := bytes_eq.1 hp
          have hp1 : ((P k).toList == own.toList) = true := by rw [hpb]; simp
          replace hme := Lib.hid hme
          clear h0 hp hR hpb
          go_wp2_with fail
          refine hme.out.mono ?_
          rintro e w2 ⟨rfl, hb⟩
          replace c0 := Below.cell_some hb c0
          have hB2 := below_step hBk hb
          clear hb
          go_wp2_with fail
          go_ret2
          rw [HF.out]
          exact ⟨rfl, hB2⟩
        · rw [if_neg hp] at hR
          have hp1 : ((P k).toList == own.toList) = false := by rw [toList_data, toList_data]; exact beq_eq_false_iff_ne.2 hp
          have hp2 : (P k).toList ≠ own.toList := by rw [toList_data, toList_data]; exact hp
          have hp3 : P k ≠ own := fun e => hp (by rw [e])
          by_cases hi0 : k = 0
          · subst hi0
            rw [if_neg (by omega)] at hR
            have HN : Hid (∀ j, j < 0 + 1 → reqE own.data.toList (mdF n P V) j = 0) := Lib.hid (fun j hj => by
              obtain rfl : j = 0 := by omega
              exact hR)
            replace hme := Lib.hid hme
            simp only [Nat.zero_mul, Nat.add_zero] at c0 c1
            clear h0 hp hR
            go_wp2_with fail
            refine hme.out.mono ?_
            rintro e w2 ⟨rfl, hb⟩
            replace c0 := Below.cell_some hb c0
            have hB2 := below_step hBk hb
            clear hb
            go_wp2_with fail
            refine wp_region_quiet_patch (by kernel_rfl) (by kernel_rfl) ?_
            repeat (go_big_quiet_step (fail))
            refine wpQuiet_nil ?_
            intro _ hw'
            obtain ⟨⟨dq, osq⟩, hw''⟩ := hw'
            subst hw''
            have hb := below_patch w2 dq osq
            replace hB2 := below_step hB2 hb
            clear hb
            generalize patch w2 dq osq = w3 at hB2 ⊢
            clear c0
            go_wp2_with fail
            go_roundw
            case rel => exact ⟨1, by omega, by go_num, hB2, HN⟩
            case measure => simp [intOf]; omega
          · obtain ⟨m, rfl⟩ : ∃ m, k = m + 1 := ⟨k - 1, by omega⟩
            rw [Nat.add_sub_cancel, mdAt_mdF (show m < n by omega)] at hR
            have hle := leq_eq (P (m + 1)) (P m)
            have hk0 : (0 : Int) < ((m + 1 : Nat) : Int) := by omega
            have hk1 : ((m + 1 : Nat) : Int) - 1 = (m : Int) := by omega
            have hkw := wrap_nat m (by omega)
            have hkn2 : (m : Int) < (n : Int) := by omega
            obtain ⟨b2, o2, e1, c3, _⟩ := hc.out m (by omega)
            injection e1 with e1
            injection e1 with e1 e2
            subst e1 e2
            replace c3 := Below.cell_some hBk c3
            by_cases hc0 : compareBytes (P (m + 1)).data.toList (P m).data.toList ≤ 0
            · rw [if_pos ⟨Nat.succ_pos m, hc0⟩] at hR
              rw [decide_eq_true hc0] at hle
              have HF : Hid (rqP (firstE (reqE own.data.toList (mdF n P V)) n) = (8, ((m + 1 : Nat) : Int))) := Lib.hid (by rw [firstE_hit (by rw [hR]; decide) HA.out hlt, hR]; rfl)
              replace hme := Lib.hid hme
              clear h0 hp hR hc0
              go_wp2_with fail
              refine hme.out.mono ?_
              rintro e w2 ⟨rfl, hb⟩
              replace c0 := Below.cell_some hb c0
              replace c3 := Below.cell_some hb c3
              have hB2 := below_step hBk hb
              clear hb
              go_wp2_with fail
              have kqc0 := fun d os => cell_patch (d := d) (os := os) c0
              have kqc3 := fun d os => cell_patch (d := d) (os := os) c3
              refine wp_region_quiet_patch (by kernel_rfl) (by kernel_rfl) ?_
              repeat (go_big_quiet_step (fail))
              refine wpQuiet_nil ?_
              intro _ hw'
              obtain ⟨⟨dq, osq⟩, hw''⟩ := hw'
              subst hw''
              clear kqc0 kqc3
              have hb := below_patch w2 dq osq
              replace hB2 := below_step hB2 hb
              clear hb
              generalize patch w2 dq osq = w3 at hB2 ⊢
              clear c0 c3
              go_wp2_with fail
              go_ret2
              rw [HF.out]
              exact ⟨rfl, hB2⟩
            · rw [if_neg (fun h => hc0 h.2)] at hR
              rw [decide_eq_false hc0] at hle
              have HN : Hid (∀ j, j < m + 1 + 1 → reqE own.data.toList (mdF n P V) j = 0) := Lib.hid (fun j hj => by
                by_cases e : j = m + 1
                · subst e; exact hR
                · exact HA.out j (by omega))
              replace hme := Lib.hid hme
              clear h0 hp hR hc0
              go_wp2_with fail
              refine hme.out.mono ?_
              rintro e w2 ⟨rfl, hb⟩
              replace c0 := Below.cell_some hb c0
              replace c3 := Below.cell_some hb c3
              have hB2 := below_step hBk hb
              clear hb
              go_wp2_with fail
              have kqc0 := fun d os => cell_patch (d := d) (os := os) c0
              have kqc3 := fun d os => cell_patch (d := d) (os := os) c3
              refine wp_region_quiet_patch (by kernel_rfl) (by kernel_rfl) ?_
              repeat (go_big_quiet_step (fail))
              refine wpQuiet_nil ?_
              intro _ hw'
              obtain ⟨⟨dq, osq⟩, hw''⟩ := hw'
              subst hw''
              clear kqc0 kqc3
              have hb := below_patch w2 dq osq
              replace hB2 := below_step hB2 hb
              clear hb
              generalize patch w2 dq osq = w3 at hB2 ⊢
              clear c0 c3
              go_wp2_with fail
              go_roundw
              case rel => exact ⟨m + 1 + 1, by omega, by go_num, hB2, HN⟩
              case measure => simp [intOf]; omega
      · rw [if_pos h0] at hR
        have HF : Hid (rqP (firstE (reqE own.data.toList (mdF n P V)) n) = (modErr (P k).data.toList (V k).data.toList, (k : Int))) := Lib.hid (by rw [firstE_hit (by rw [hR]; exact h0) HA.out hlt, hR]; unfold rqP; rw [if_neg h0])
        generalize modErr (P k).data.toList (V k).data.toList = c at *
        have hc9 : (0 : Int) < (c : Int) := by omega
        replace hme := Lib.hid hme
        clear h0 hR
        go_wp2_with fail
        refine hme.out.mono ?_
        rintro e w2 ⟨rfl, hb⟩
        have hB2 := below_step hBk hb
        clear hb
        go_wp2_with fail
        go_ret2
        rw [HF.out]
        exact ⟨rfl, hB2⟩
    · obtain rfl : n = k := by omega
      have HF : Hid (rqP (firstE (reqE own.data.toList (mdF n P V)) n) = (0, 0)) := Lib.hid (by rw [firstE_none HA.out]; rfl)
      go_wp2_with fail
      go_ret2
      rw [HF.out]
      exact ⟨rfl, hBk⟩
end Go.Proofs.Pw

namespace Go.Proofs.Pw
open Go.RowKit
open Go.Lib hiding intOf
theorem ModsAt.flt {w : World} {b : Nat} {v : Value} {l : List Md} {x y : Int} (hm : ModsAt w v l) (hb : Box2 w b (.int .i64 x) (.int .i64 y)) (u0 u1 : Value) : ModsAt ((w.setCell ⟨b, 0, none⟩ u0).setCell ⟨b, 1, none⟩ u1) v l := by
  have key : ∀ (q : Addr) (s : ByteArray), w.cell? q = some (.string s) → ((w.setCell ⟨b, 0, none⟩ u0).setCell ⟨b, 1, none⟩ u1).cell? q = some (.string s) := fun q s hq => by
    rw [World.cell?_setCell_other _ _ _ _ (fun e => by rw [← e, hb.c1] at hq; cases hq), World.cell?_setCell_other _ _ _ _ (fun e => by rw [← e, hb.c0] at hq; cases hq)]
    exact hq
  obtain ⟨a, n, cap, P, V, e, e2, h3, h4, h5⟩ := hm
  exact ⟨a, n, cap, P, V, e, e2, h3, h4, fun j hj => let ⟨b', o', e', c0, c1⟩ := h5 j hj; ⟨b', o', e', key _ _ c0, key _ _ c1⟩⟩
theorem Box2.sto {w : World} {b : Nat} {u0 u1 : Value} (h : Box2 w b u0 u1) (v0 v1 : Value) : Box2 ((w.setCell ⟨b, 0, none⟩ v0).setCell ⟨b, 1, none⟩ v1) b v0 v1 := ⟨by rw [set_off _ (by decide)]; exact set_same _ h.c0, set_same _ (by rw [set_off _ (by decide)]; exact h.c1), fun j => by simp [h.fr j]⟩
theorem below_sto2 {B : Nat} {w W : World} (h : Below B w W) {b : Nat} (hb : B ≤ b) (u0 u1 : Value) : Below B w ((W.setCell ⟨b, 0, none⟩ u0).setCell ⟨b, 1, none⟩ u1) := (h.setCell (p := ⟨b, 0, none⟩) hb u0).setCell (p := ⟨b, 1, none⟩) hb u1
theorem FaultAt.flt {A : Nat → Addr} {w : World} {b : Nat} {v : Value} {r : Nat × Int} {x y : Int} (h : FaultAt A w v r) (hb : Box2 w b (.int .i64 x) (.int .i64 y)) (u0 u1 : Value) : FaultAt A ((w.setCell ⟨b, 0, none⟩ u0).setCell ⟨b, 1, none⟩ u1) v r := by
  rcases h with h | h | ⟨h, c, h1, h2, h3⟩
  · exact .inl h
  · exact .inr (.inl h)
  · have hne : c ≠ b := fun e => by
      subst e
      rw [hb.c1, errV_pos A h] at h3
      cases h3
    exact .inr (.inr ⟨h, c, h1, by rw [set_blk _ hne, set_blk _ hne]; exact h2, by rw [set_blk _ hne, set_blk _ hne]; exact h3⟩)
end Go.Proofs.Pw

namespace Go.Proofs.Pw
open Go.RowKit
open Go.Lib hiding intOf
set_option maxHeartbeats 8000000 in
set_option maxRecDepth 100000 in
theorem refLines_calls (v : Value) (l : List Ln) (w : World) (h : LnsAt .i64 w v l) (hok : LnOk l) :
    Calls Tryz.prog 22 #[v] w fun e w' => e = .returned (.tuple #[.string ⟨(linesTxt l).toArray⟩, fltV (linesErr l)]) ∧ Below w.heap.size w w' := by
  obtain ⟨a, n, cap, P, V, S, rfl, rfl, hin⟩ := h
  have HOK := Lib.hid hok
  have hn : n ≤ 1000 := by have := hok.len; rwa [lnF_length] at this
  have HFE : Hid (linesErr (lnF n P V S) = firstE (excE (mdsOf (lnF n P V S))) n) := Lib.hid (by unfold linesErr; rw [lnF_length])
  have HTX : Hid (linesTxt (lnF n P V S) = if (linesErr (lnF n P V S)).1 = 0 then lnsTxt (lnF n P V S) else []) := Lib.hid rfl
  have hck := fun p v W h1 h2 => refModErr_calls p v W h1 h2
  have hah := fun p v q u W h1 h2 => isAhead_calls p v q u W h1 h2
  have hB := below_alloc w (.cells #[.int .i64 0, .int .i64 0] 46)
  have hz := box2_alloc w (.int .i64 0) (.int .i64 0) 46
  have H := Lib.hid hin
  replace hck := Lib.hid hck
  replace hah := Lib.hid hah
  clear hin hok
  go_enter Tryz.func22, Tryz.ntmps22
  go_wp2_with fail
  generalize w.alloc (.cells #[.int .i64 0, .int .i64 0] 46) = w1 at *
  go_loopw [4, 5] (fun s i wr => ∃ (k : Nat) (Y : ByteArray), k ≤ n ∧ i = .int .i64 k ∧ s = .string Y ∧ Hid (Y.data.toList = lnsTxt ((lnF n P V S).take k)) ∧ Below w1.heap.size w1 wr ∧ Hid (∀ j, j < k → excE (mdsOf (lnF n P V S)) j = 0)) (fun _ i _ => n - (intOf i).toNat)
  case atStart => exact ⟨0, ⟨#[]⟩, Nat.zero_le _, rfl, rfl, Lib.hid rfl, Below.refl _ _, Lib.hid (fun j hj => absurd hj (Nat.not_lt_zero _))⟩
  case round =>
    obtain ⟨k, Y, hk, rfl, rfl, HY, hBr, HA⟩ := hrel
    by_cases hlt : k < n
    · have hkn : (k : Int) < (n : Int) := by omega
      have hBw := below_step hB hBr
      obtain ⟨b1, o1, ea, hc⟩ := (H.out.below hBw).at_ k hlt
      obtain ⟨c0, c1, c2⟩ := id hc
      have hps := HOK.out.pl hlt
      have hR := excF (P := P) (V := V) (S := S) hlt
      have hc1 := hck.out (P k) (V k) wr (by omega) (by omega)
      obtain ⟨E, hEE⟩ : ∃ E, modErr (P k).data.toList (V k).data.toList = E := ⟨_, rfl⟩
      rw [hEE] at hR hc1
      have HCC : Hid (∀ W, Below w.heap.size w W → ∀ j, j < n → ∃ b o, a = some ⟨b, o, none⟩ ∧ LnC .i64 W b (o + j * 3) (P j) (V j) (S j : Nat)) := Lib.hid (fun W hb j hj => (H.out.below hb).at_ j hj)
      subst ea
      clear hEE
      by_cases h0 : E = 0
      · subst h0
        rw [if_neg (by simp)] at hR
        by_cases hk0 : k = 0
        · have hkz : ¬ (0 : Int) < (k : Int) := by omega
          rw [if_neg (fun h => by omega)] at hR
          have HN : Hid (∀ j, j < k + 1 → excE (mdsOf (lnF n P V S)) j = 0) := Lib.hid (fun j hj => by
            obtain rfl : j = k := by omega
            exact hR)
          replace hc1 := Lib.hid hc1
          clear hR hk0
          go_wp2_with fail
          refine hc1.out.mono ?_
          rintro e w4 ⟨rfl, hb⟩
          have hBr4 := below_step hBr hb
          have hc4 := hc.below hb
          clear hb hc1 c0 c1 c2 hc hBr
          go_wp2_with fail
          have hdc := fun W => refDecimal_calls (S k) W (by have := hps.2.2; omega)
          obtain ⟨D, hD⟩ : ∃ D : ByteArray, (⟨(Lib.itoa (S k : Nat)).toArray⟩ : ByteArray) = D := ⟨_, rfl⟩
          have hDd : D.data.toList = Lib.decDigits (S k) := by rw [← hD, ← itoa_ofNat]
          have hDs : D.size ≤ 20 := by rw [size_eq, hDd]; exact decDigits_len20 (by have := hps.2.2; omega)
          rw [hD] at hdc
          have htx := HOK.out.txt k
          have hYs : Y.size ≤ 2000023000 := by rw [size_eq, HY.out]; exact htx
          have HYN : Hid ((Y ++ P k ++ ⟨#[32]⟩ ++ V k ++ ⟨#[32]⟩ ++ D ++ (⟨#[10]⟩ : ByteArray)).data.toList = lnsTxt ((lnF n P V S).take (k + 1))) := Lib.hid (by
            rw [lnsTxt_F hlt, app_by, app_by, app_by, app_by, app_by, app_by, hDd, HY.out]
            unfold lnTxt
            simp)
          have hq1 : ¬ 9223372036854775807 < Y.size + (P k).size := by omega
          have hq2 : ¬ 9223372036854775807 < Y.size + (P k).size + 1 := by omega
          have hq3 : ¬ 9223372036854775807 < Y.size + (P k).size + 1 + (V k).size := by omega
          have hq4 : ¬ 9223372036854775807 < Y.size + (P k).size + 1 + (V k).size + 1 := by omega
          have hq5 : ¬ 9223372036854775807 < Y.size + (P k).size + 1 + (V k).size + 1 + D.size := by omega
          have hq6 : ¬ 9223372036854775807 < Y.size + (P k).size + 1 + (V k).size + 1 + D.size + 1 := by omega
          obtain ⟨c0, c1, c2⟩ := id hc4
          replace hdc := Lib.hid hdc
          clear htx hD hDd hc4
          have kqc0 := fun d os => cell_patch (d := d) (os := os) c0
          have kqc1 := fun d os => cell_patch (d := d) (os := os) c1
          have kqc2 := fun d os => cell_patch (d := d) (os := os) c2
          refine wp_region_quiet_patch (by kernel_rfl) (by kernel_rfl) ?_
          repeat (go_big_quiet_step ((go_at_call 67; exact Calls.patch_of ((hdc.out _).mono fun _ _ h => ⟨h.1, h.2.below⟩))))
          refine wpQuiet_nil ?_
          intro _ hw'
          obtain ⟨⟨dq, osq⟩, hw''⟩ := hw'
          subst hw''
          clear kqc0 kqc1 kqc2
          have hb := below_patch w4 dq osq
          replace hBr4 := below_step hBr4 hb
          clear hb
          generalize patch w4 dq osq = w5 at hBr4 ⊢
          clear c0 c1 c2
          go_wp2_with fail
          go_roundw
          case rel => exact ⟨k + 1, _, by omega, by go_num, rfl, HYN, hBr4, HN⟩
          case measure => simp [intOf]; omega
        · obtain ⟨i, hki⟩ : ∃ i, k = i + 1 := ⟨k - 1, by omega⟩
          have hin : i < n := by omega
          obtain ⟨b2, o2, eb, hc2⟩ := HCC.out wr hBw i hin
          injection eb with eb
          injection eb with eb1 eb2
          subst eb1 eb2
          obtain ⟨d0, d1, d2⟩ := hc2
          have hps2 := HOK.out.pl hin
          rw [show k - 1 = i by omega] at hR
          have hk0' : (0 : Int) < (k : Int) := by omega
          have hkw : IntKind.i64.wrap ((k : Int) - 1) = (i : Int) := by rw [show (k : Int) - 1 = (i : Int) by omega]; exact wrap_nat i (by omega)
          have hkn2 : (i : Int) < (n : Int) := by omega
          have hah1 := fun W => hah.out (P i) (V i) (P k) (V k) W (by omega) (by omega)
          have HX0 : Hid (0 < k) := Lib.hid (by omega)
          clear hki hk0 hps2
          cases hX : modAhead ((P i).data.toList, (V i).data.toList) ((P k).data.toList, (V k).data.toList) with
          | true =>
            rw [hX] at hah1 hR
            rw [if_neg (fun h => by cases h.2)] at hR
            have HN : Hid (∀ j, j < k + 1 → excE (mdsOf (lnF n P V S)) j = 0) := Lib.hid (fun j hj => by
              by_cases e : j = k
              · subst e; exact hR
              · exact HA.out j (by omega))
            replace hc1 := Lib.hid hc1
            replace hah1 := Lib.hid hah1
            clear hR hX
            go_wp2_with fail
            refine hc1.out.mono ?_
            rintro e w3 ⟨rfl, hb⟩
            replace hBr := below_step hBr hb
            replace hc := hc.below hb
            replace d0 := Below.cell_some hb d0
            replace d1 := Below.cell_some hb d1
            clear hb hc1 c0 c1 c2 d2
            obtain ⟨c0, c1, c2⟩ := id hc
            go_wp2_with fail
            have kqc0 := fun d os => cell_patch (d := d) (os := os) c0
            have kqc1 := fun d os => cell_patch (d := d) (os := os) c1
            have kqd0 := fun d os => cell_patch (d := d) (os := os) d0
            have kqd1 := fun d os => cell_patch (d := d) (os := os) d1
            refine wp_region_quiet_patch (by kernel_rfl) (by kernel_rfl) ?_
            repeat (go_big_quiet_step ((go_at_call 66; with_reducible exact Calls.patch_of (hah1.out _))))
            refine wpQuiet_nil ?_
            intro _ hw'
            obtain ⟨⟨dq, osq⟩, hw''⟩ := hw'
            subst hw''
            clear kqc0 kqc1 kqd0 kqd1
            have hb := below_patch w3 dq osq
            replace hBr := below_step hBr hb
            replace hc := hc.below hb
            clear hb
            generalize patch w3 dq osq = w4 at hBr hc ⊢
            clear c0 c1 c2 d0 d1
            have hBr4 := hBr
            have hc4 := hc
            clear hBr hc hah1
            go_wp2_with fail
            have hdc := fun W => refDecimal_calls (S k) W (by have := hps.2.2; omega)
            obtain ⟨D, hD⟩ : ∃ D : ByteArray, (⟨(Lib.itoa (S k : Nat)).toArray⟩ : ByteArray) = D := ⟨_, rfl⟩
            have hDd : D.data.toList = Lib.decDigits (S k) := by rw [← hD, ← itoa_ofNat]
            have hDs : D.size ≤ 20 := by rw [size_eq, hDd]; exact decDigits_len20 (by have := hps.2.2; omega)
            rw [hD] at hdc
            have htx := HOK.out.txt k
            have hYs : Y.size ≤ 2000023000 := by rw [size_eq, HY.out]; exact htx
            have HYN : Hid ((Y ++ P k ++ ⟨#[32]⟩ ++ V k ++ ⟨#[32]⟩ ++ D ++ (⟨#[10]⟩ : ByteArray)).data.toList = lnsTxt ((lnF n P V S).take (k + 1))) := Lib.hid (by
              rw [lnsTxt_F hlt, app_by, app_by, app_by, app_by, app_by, app_by, hDd, HY.out]
              unfold lnTxt
              simp)
            have hq1 : ¬ 9223372036854775807 < Y.size + (P k).size := by omega
            have hq2 : ¬ 9223372036854775807 < Y.size + (P k).size + 1 := by omega
            have hq3 : ¬ 9223372036854775807 < Y.size + (P k).size + 1 + (V k).size := by omega
            have hq4 : ¬ 9223372036854775807 < Y.size + (P k).size + 1 + (V k).size + 1 := by omega
            have hq5 : ¬ 9223372036854775807 < Y.size + (P k).size + 1 + (V k).size + 1 + D.size := by omega
            have hq6 : ¬ 9223372036854775807 < Y.size + (P k).size + 1 + (V k).size + 1 + D.size + 1 := by omega
            obtain ⟨c0, c1, c2⟩ := id hc4
            replace hdc := Lib.hid hdc
            clear htx hD hDd hc4
            have kqc0 := fun d os => cell_patch (d := d) (os := os) c0
            have kqc1 := fun d os => cell_patch (d := d) (os := os) c1
            have kqc2 := fun d os => cell_patch (d := d) (os := os) c2
            refine wp_region_quiet_patch (by kernel_rfl) (by kernel_rfl) ?_
            repeat (go_big_quiet_step ((go_at_call 67; exact Calls.patch_of ((hdc.out _).mono fun _ _ h => ⟨h.1, h.2.below⟩))))
            refine wpQuiet_nil ?_
            intro _ hw'
            obtain ⟨⟨dq, osq⟩, hw''⟩ := hw'
            subst hw''
            clear kqc0 kqc1 kqc2
            have hb := below_patch w4 dq osq
            replace hBr4 := below_step hBr4 hb
            clear hb
            generalize patch w4 dq osq = w5 at hBr4 ⊢
            clear c0 c1 c2
            go_wp2_with fail
            go_roundw
            case rel => exact ⟨k + 1, _, by omega, by go_num, rfl, HYN, hBr4, HN⟩
            case measure => simp [intOf]; omega
          | false =>
            rw [hX] at hah1 hR
            rw [if_pos ⟨HX0.out, rfl⟩] at hR
            have HF : Hid (linesTxt (lnF n P V S) = [] ∧ linesErr (lnF n P V S) = (8, ((k : Nat) : Int))) := Lib.hid (by
              have h1 : linesErr (lnF n P V S) = (8, ((k : Nat) : Int)) := by rw [HFE.out, firstE_hit (by rw [hR]; decide) HA.out hlt, hR]
              exact ⟨by rw [HTX.out, h1]; rfl, h1⟩)
            replace hc1 := Lib.hid hc1
            replace hah1 := Lib.hid hah1
            clear hR hX
            go_wp2_with fail
            refine hc1.out.mono ?_
            rintro e w3 ⟨rfl, hb⟩
            replace hBr := below_step hBr hb
            replace d0 := Below.cell_some hb d0
            replace d1 := Below.cell_some hb d1
            replace hc := hc.below hb
            clear hb hc1 c0 c1 c2 d2
            obtain ⟨c0, c1, c2⟩ := id hc
            go_wp2_with fail
            have kqc0 := fun d os => cell_patch (d := d) (os := os) c0
            have kqc1 := fun d os => cell_patch (d := d) (os := os) c1
            have kqd0 := fun d os => cell_patch (d := d) (os := os) d0
            have kqd1 := fun d os => cell_patch (d := d) (os := os) d1
            refine wp_region_quiet_patch (by kernel_rfl) (by kernel_rfl) ?_
            repeat (go_big_quiet_step ((go_at_call 66; with_reducible exact Calls.patch_of (hah1.out _))))
            refine wpQuiet_nil ?_
            intro _ hw'
            obtain ⟨⟨dq, osq⟩, hw''⟩ := hw'
            subst hw''
            clear kqc0 kqc1 kqd0 kqd1
            have hb := below_patch w3 dq osq
            replace hBr := below_step hBr hb
            clear hb
            generalize patch w3 dq osq = w4 at hBr ⊢
            clear c0 c1 c2 d0 d1 hc
            have hB4 := below_step hB hBr
            have hz4 := hz.below hBr
            obtain ⟨z0, z1, zf⟩ := id hz4
            go_wp2_with fail
            refine bodyPost_ret (v := .tuple #[.string ⟨#[]⟩, fltV (8, (k : Nat))]) (by simp [results, Tryz.results22, fltV, go_sem, *]) rfl ?_
            rw [HF.out.1, HF.out.2]
            exact ⟨rfl, below_sto2 hB4 (Nat.le_refl _) _ _⟩
      · rw [if_pos h0] at hR
        have HF : Hid (linesTxt (lnF n P V S) = [] ∧ linesErr (lnF n P V S) = (E, (k : Int))) := Lib.hid (by
          have h1 : linesErr (lnF n P V S) = (E, (k : Int)) := by rw [HFE.out, firstE_hit (by rw [hR]; exact h0) HA.out hlt, hR]
          exact ⟨by rw [HTX.out, h1, if_neg h0], h1⟩)
        have he1 : ((E : Int) == 0) = false := beq_eq_false_iff_ne.2 (by omega)
        have he2 : (0 : Int) < (E : Int) := by omega
        replace hc1 := Lib.hid hc1
        clear hR h0
        go_wp2_with fail
        refine hc1.out.mono ?_
        rintro e w3 ⟨rfl, hb⟩
        replace hBr := below_step hBr hb
        clear hb hc1 c0 c1 c2 hc
        have hB4 := below_step hB hBr
        have hz4 := hz.below hBr
        obtain ⟨z0, z1, zf⟩ := id hz4
        go_wp2_with fail
        refine bodyPost_ret (v := .tuple #[.string ⟨#[]⟩, fltV (E, (k : Nat))]) (by simp [results, Tryz.results22, fltV, go_sem, *]) rfl ?_
        rw [HF.out.1, HF.out.2]
        exact ⟨rfl, below_sto2 hB4 (Nat.le_refl _) _ _⟩
    · obtain rfl : k = n := by omega
      have hkn : ¬ (k : Int) < (k : Int) := by omega
      have HF : Hid (linesErr (lnF k P V S) = (0, -1)) := Lib.hid (by rw [HFE.out, firstE_none HA.out])
      have hY : (⟨(linesTxt (lnF k P V S)).toArray⟩ : ByteArray) = Y := bytes_eq.1 (by
        rw [HTX.out, HF.out, if_pos rfl, HY.out, List.take_of_length_le (by rw [lnF_length]; exact Nat.le_refl _)])
      have HYQ := Lib.hid hY
      have hfi := fun W => refFine_calls W
      unfold fltV at hfi
      replace hfi := Lib.hid hfi
      clear hY hlt hk HA HY
      go_wp2_with fail
      refine (hfi.out _).mono ?_
      rintro e w8 ⟨rfl, hb⟩
      have hB8 := below_step hB (below_step hBr hb)
      obtain ⟨z0, z1, zf⟩ := hz.below (below_step hBr hb)
      clear hb hfi
      go_wp2_with fail
      refine bodyPost_ret (v := .tuple #[.string Y, fltV (0, -1)]) (by simp [results, Tryz.results22, fltV, go_sem, *]) rfl ?_
      rw [HYQ.out, HF.out]
      exact ⟨rfl, below_sto2 hB8 (Nat.le_refl _) _ _⟩
end Go.Proofs.Pw
