/- Da: walks and plain laws, joined: RefTo FileTellsMath ErrLe ErrIs. Conditions: at each theorem. -/
import Derived.Test.YtnanklfbmmionaaGreatDoorDay
import Derived.Test.YtnanklfbmmionaaGreatDoorDax
import Derived.Test.YtnanklfbmmionaaGreatDoorDaf
import Derived.Test.YtnanklfbmmionaaGreatDoorDab
import Derived.Test.YtnanklfbmmionaaGreatDoorProg
import Derived.WalkKit
import Derived.LaidEql
import Derived.Stop.Asserts
import Derived.RowKitTokens
import Derived.Lib.Hide

namespace Go.Proofs.Pw
open Go.RowKit
open Go.Lib hiding intOf
def bestI : Option Nat → Int
  | none => -1
  | some k => k
theorem ex_take {α : Type} {l : List α} {k : Nat} {x : α} (h : l[k]? = some x) (f : α → Prop) : (∃ r ∈ l.take (k + 1), f r) ↔ (∃ r ∈ l.take k, f r) ∨ f x := by
  rw [List.take_add_one, h]
  constructor
  · rintro ⟨r, hr, h1⟩
    rcases List.mem_append.1 hr with h2 | h2
    · exact .inl ⟨r, h2, h1⟩
    · simp only [Option.toList_some, List.mem_singleton] at h2
      subst h2
      exact .inr h1
  · rintro (⟨r, hr, h1⟩ | h1)
    · exact ⟨r, List.mem_append.2 (.inl hr), h1⟩
    · exact ⟨x, List.mem_append.2 (.inr (by simp)), h1⟩
theorem setM_iff {M : Nat → Bool} {x j : Nat} : setM M x j = true ↔ M j = true ∨ x = j := by
  constructor
  · intro h
    rcases setM_true h with h | h
    · exact .inr h.symm
    · exact .inl h
  · rintro (h | h)
    · exact setM_of x h
    · subst h; exact setM_same _ _
theorem toErr_at {l : List En} {roots caps : List Md} (h : (toErr l roots caps).1 = 0) : toErr l roots caps = (0, -1) := by
  unfold toErr at h ⊢
  rw [orE_zero] at h
  unfold orE
  rw [if_neg (by simp [h.1])]
  have h2 := h.2
  unfold rootsErr at h2 ⊢
  exact firstE_none (firstE_zero h2)
set_option maxHeartbeats 8000000 in
set_option maxRecDepth 100000 in
theorem toOf_in (a : Option Addr) (n cap : Nat) (P V : Nat → ByteArray) (R : Nat → List Md) (K : Nat → List Str) (B : Nat → Bool) (Rv Kv : Nat → Value) (rv cv : Value) (roots caps : List Md) (w : World) (h : EntsIn w a n cap P V R K B Rv Kv) (hr : ModsAt w rv roots) (hc : ModsAt w cv caps) (hs : ShortI (enF n P V R K B)) (hl2 : roots.length ≤ 1000000) (hsr : Short roots) (hsc : Short caps) :
    Calls Tryz.prog 53 #[.slice a n cap, rv, cv] w fun e w' => (∃ v T, e = .returned (.tuple #[v, fltV (toErr (enF n P V R K B) roots caps)]) ∧ ModsAt w' v T ∧ ((toErr (enF n P V R K B) roots caps).1 ≠ 0 → T = []) ∧ ((toErr (enF n P V R K B) roots caps).1 = 0 → ∀ T', ToP (enF n P V R K B) caps roots T' → T' = T)) ∧ Below w.heap.size w w' := by
  obtain ⟨i0, hi, hz0, hz1, hz2⟩ := info_parts Tryz.infoMod
  obtain ⟨a3, m3, cap3, _, _, rfl, -⟩ := id hc
  have hn : n ≤ 1000000 := by have := hs.len; rwa [enF_length] at this
  have hB := below_alloc w (.cells #[.int .i64 0, .int .i64 0] 46)
  have hz := box2_alloc w (.int .i64 0) (.int .i64 0) 46
  have hbf := fun (W : World) (hb : Below w.heap.size w W) => badOf_in a n cap P V R K B Rv Kv (.slice a3 m3 cap3) caps W (h.below hb) (hc.below hb) hs hsc
  obtain ⟨a2, m, cap2, Q, U, rfl, hrE, hmc, hcap2, hc2⟩ := id hr
  have hrf := fun (W : World) (hb : Below w.heap.size w W) => rootsFault_in a n cap P V R K B Rv Kv (.slice a2 m cap2) roots W (h.below hb) (hr.below hb) hn hl2
  have H := Lib.hid h
  have HSH := Lib.hid hs
  have HRE := Lib.hid hrE
  have HUS : Hid (∀ j, j < m → (U j).size ≤ 1000000) := Lib.hid (fun j hj => by
    rw [hrE] at hsr
    exact ((short_F hsr).2 j hj).2)
  have HSE : Hid (toErr (enF n P V R K B) roots caps = orE (badErr (enF n P V R K B) caps) (rootsErr (enF n P V R K B) roots)) := Lib.hid rfl
  obtain ⟨F, hF⟩ : ∃ F, badErr (enF n P V R K B) caps = F := ⟨_, rfl⟩
  obtain ⟨G, hGG⟩ : ∃ G, rootsErr (enF n P V R K B) roots = G := ⟨_, rfl⟩
  simp only [hF] at hbf HSE
  simp only [hGG] at hrf HSE
  obtain ⟨fc, fa⟩ := F
  obtain ⟨gc, ga⟩ := G
  unfold fltV at hbf hrf
  simp only at hbf hrf
  replace hbf := Lib.hid hbf
  replace hrf := Lib.hid hrf
  replace hc2 := Lib.hid hc2
  have HFI := Lib.hid hF
  clear h hr hs hF hGG hsc hsr hc hrE hl2 hn
  go_enter Tryz.func53, Tryz.ntmps53
  go_wp2_with fail
  generalize w.alloc (.cells #[.int .i64 0, .int .i64 0] 46) = w1 at *
  refine (hbf.out _ hB).mono ?_
  rintro e w2 ⟨⟨v8, rfl, hbl, -⟩, hb⟩
  have hba := below_alloc w2 (.cells #[.int .i64 (fc : Nat), .int .i64 fa] 46)
  have hx := box2_alloc w2 (.int .i64 (fc : Nat)) (.int .i64 fa) 46
  have hs2 : w.heap.size < w2.heap.size := Nat.lt_of_lt_of_le (lt_of_cell hz.c0) hb.size
  replace hb := below_step hb hba
  replace hz := hz.below hb
  replace hB := below_step hB hb
  clear hb hbf
  obtain ⟨x0, x1, xf⟩ := id hx
  have nx1 : w.heap.size ≠ w2.heap.size := by omega
  have nx2 : w2.heap.size ≠ w.heap.size := by omega
  by_cases h0 : fc = 0
  · subst h0
    obtain ⟨M, ⟨a8, c8, rfl, h8⟩, hM⟩ := hbl rfl
    rw [enF_length] at h8
    rw [enF_length]
    have HBL : Hid (∀ W, Below w2.heap.size w2 W → ∀ j, j < n → ∃ b o, a8 = some ⟨b, o, none⟩ ∧ W.cell? ⟨b, o + j, none⟩ = some (.bool (M j))) := Lib.hid (fun W hW j hj => by
      obtain ⟨b, o, e1, e2⟩ := h8 j hj
      exact ⟨b, o, e1, Below.cell_some hW e2⟩)
    have HM := Lib.hid hM
    clear h8 hM hbl
    go_wp2_with fail
    generalize w2.alloc (.cells #[.int .i64 ((0 : Nat) : Int), .int .i64 fa] 46) = w3 at *
    generalize w2.heap.size = bx at *
    refine (hrf.out _ hB).mono ?_
    rintro e w4 ⟨rfl, hb⟩
    have hX := hba.trans (hb.mono (Nat.le_of_lt (lt_of_cell x0)))
    replace hz := hz.below hb
    replace hx := hx.below hb
    replace hB := below_step hB hb
    clear x0 x1 xf hb hrf hba
    obtain ⟨x0, x1, xf⟩ := id hx
    have HF : Hid (toErr (enF n P V R K B) roots caps = (gc, ga)) := Lib.hid (by rw [HSE.out]; unfold orE; rw [if_neg (by simp)])
    by_cases h1 : gc = 0
    · subst h1
      have hG : RightI (enF n P V R K B) := rightI_of (by
        have h := congrArg Prod.fst HFI.out
        unfold badErr at h
        exact (orE_zero.1 h).1)
      have hn : n ≤ 100 := by have := hG.len; rwa [enF_length] at this
      have hzB : Box2 ((w4.setCell ⟨bx, 0, none⟩ (.int .i64 ((0 : Nat) : Int))).setCell ⟨bx, 1, none⟩ (.int .i64 ga)) w.heap.size (.int .i64 0) (.int .i64 0) := ⟨by rw [set_blk _ nx1, set_blk _ nx1]; exact hz.c0, by rw [set_blk _ nx1, set_blk _ nx1]; exact hz.c1, fun j => by simp [hz.fr j]⟩
      replace hB := (hB.setCell (p := ⟨bx, 0, none⟩) (by show w.heap.size ≤ bx; omega) (.int .i64 ((0 : Nat) : Int))).setCell (p := ⟨bx, 1, none⟩) (by show w.heap.size ≤ bx; omega) (.int .i64 ga)
      replace hX := (hX.setCell (p := ⟨bx, 0, none⟩) (Nat.le_refl _) (.int .i64 ((0 : Nat) : Int))).setCell (p := ⟨bx, 1, none⟩) (Nat.le_refl _) (.int .i64 ga)
      have hmk := run_make_row' (P := Tryz.prog) 64 4 (.bool false) 1 Tryz.underlying64 Tryz.infoBool rfl .i64 .i64 n (by omega) (by omega)
      have hs5 : ((w4.setCell ⟨bx, 0, none⟩ (.int .i64 ((0 : Nat) : Int))).setCell ⟨bx, 1, none⟩ (.int .i64 ga)).heap.size = w4.heap.size := by simp
      have hxl : bx < w4.heap.size := lt_of_cell x0
      have HS5 := Lib.hid hs5
      have HG := Lib.hid hG
      clear HSE hG hs5
      have y0 : ((w4.setCell ⟨bx, 0, none⟩ (.int .i64 ((0 : Nat) : Int))).setCell ⟨bx, 1, none⟩ (.int .i64 ga)).cell? ⟨bx, 0, none⟩ = some (.int .i64 ((0 : Nat) : Int)) := by rw [set_off _ (by decide)]; exact set_same _ x0
      go_wp2_with fail
      clear hmk
      generalize hw5 : ((w4.setCell ⟨bx, 0, none⟩ (.int .i64 ((0 : Nat) : Int))).setCell ⟨bx, 1, none⟩ (.int .i64 ga)) = w5 at *
      have hrow : MarkRow (w5.alloc (.cells (madeCells #[.bool false] n) 4)) w5.heap.size n (fun _ => false) := World.rowIs_made w5 (.bool false) n 4
      have hb6 := below_alloc w5 (.cells (madeCells #[.bool false] n) 4)
      rw [HS5.out] at hrow hb6
      have HFX : Hid (∀ W, Below w4.heap.size w5 W → Below w.heap.size w W ∧ (∀ j, j < n → ∃ b o, a8 = some ⟨b, o, none⟩ ∧ W.cell? ⟨b, o + j, none⟩ = some (.bool (M j))) ∧ Box2 W w.heap.size (.int .i64 0) (.int .i64 0)) := Lib.hid (fun W hW => ⟨hB.trans (hW.mono (by omega)), HBL.out W (hX.trans (hW.mono (by omega))), hzB.below (by rw [HS5.out]; exact hW)⟩)
      have hwg : w.heap.size < w4.heap.size := by omega
      generalize w5.alloc (.cells (madeCells #[.bool false] n) 4) = w6 at *
      clear x0 x1 xf hx hz hw5 y0 nx1 nx2 hzB hB hX HBL hxl HS5 hs2
      generalize w4.heap.size = g at *
      go_loopw [11, 12, 13, 14] (fun i _ _ _ wr => ∃ (k : Nat) (S : Nat → Bool), k ≤ m ∧ i = .int .i64 k ∧ Hid (MarkRow wr g n S) ∧ Below g w5 wr ∧ Hid (∀ j, j < n → (S j = true ↔ ∃ r ∈ (mdF m Q U).take k, bestT (enF n P V R K B) M r n = some j))) (fun i _ _ _ _ => m - (intOf i).toNat)
      case atStart => exact ⟨0, _, Nat.zero_le _, rfl, Lib.hid hrow, hb6, Lib.hid (fun j hj => by simp)⟩
      case round =>
        obtain ⟨k, S, hk, rfl, HRow, hBr, HS⟩ := hrel
        obtain ⟨hBk, -, hzk⟩ := HFX.out _ hBr
        have hgl := World.rowIs.lt HRow.out
        by_cases hlt : k < m
        · have hkn : (k : Int) < (m : Int) := by omega
          obtain ⟨b1, o1, ea, c0, c1⟩ := hc2.out k hlt
          replace c0 := Below.cell_some hBk c0
          replace c1 := Below.cell_some hBk c1
          subst ea
          clear hzk hrow
          go_wp2_with fail
          generalize wr = wq at *
          go_loopw [12, 13, 14] (fun y x _ wr => ∃ (q : Nat) (z : Int), q ≤ n ∧ x = .int .i64 q ∧ y = .int .i64 z ∧ Hid (bestI (bestT (enF n P V R K B) M ((Q k).data.toList, (U k).data.toList) q) = z) ∧ Below wq.heap.size wq wr) (fun _ x _ _ => n - (intOf x).toNat)
          case atStart => exact ⟨0, -1, Nat.zero_le _, rfl, rfl, Lib.hid rfl, Below.refl _ _⟩
          case round =>
            obtain ⟨q, z, hq, rfl, rfl, HZ, hBq⟩ := hrel
            have hBW := hBr.trans (hBq.mono (Nat.le_of_lt hgl))
            obtain ⟨hBk2, hbl2, -⟩ := HFX.out _ hBW
            by_cases hlq : q < n
            · have hqn : (q : Int) < (n : Int) := by omega
              obtain ⟨b2, o2, ea2, hcell2⟩ := H.out.at_ q hlq
              have d0 := Below.cell_some hBk2 hcell2.c0
              have d1 := Below.cell_some hBk2 hcell2.c1
              obtain ⟨b3, o3, ea3, z8⟩ := hbl2 q hlq
              have y0 := Below.cell_some hBq c0
              have y1 := Below.cell_some hBq c1
              have hVq : (V q).size ≤ 1000000 := (HSH.out.at_ hlq).2.2.1
              have hUk := HUS.out k hlt
              have hless := fun W => isLess_calls (U k) (V q) W (by omega) (by omega)
              have hmd : (enAt (enF n P V R K B) q).md = ((P q).data.toList, (V q).data.toList) := by rw [enAt_enF hlq]
              obtain ⟨E, hE⟩ : ∃ E, ((P q).toList == (Q k).toList) = E := ⟨_, rfl⟩
              obtain ⟨D, hD⟩ : ∃ D, verLess (U k).data.toList (V q).data.toList = D := ⟨_, rfl⟩
              obtain ⟨Y, hY⟩ : ∃ Y, M q = Y := ⟨_, rfl⟩
              have HN : Hid (bestI (bestT (enF n P V R K B) M ((Q k).data.toList, (U k).data.toList) (q + 1)) = cond (E && !D && !Y) (q : Int) z) := Lib.hid (by
                have hc : ((enAt (enF n P V R K B) q).md.1 = (Q k).data.toList ∧ verLess (U k).data.toList (enAt (enF n P V R K B) q).md.2 = false ∧ M q = false) ↔ (E && !D && !Y) = true := by
                  simp only [hmd, hD, hY]
                  rw [← hE, toList_data, toList_data]
                  simp [and_assoc]
                rw [bestT]
                by_cases h : (E && !D && !Y) = true
                · rw [if_pos (hc.2 h), h]; rfl
                · rw [if_neg (fun h2 => h (hc.1 h2)), Bool.eq_false_iff.2 h]; exact HZ.out)
              rw [hD] at hless
              rw [hY] at z8
              replace hless := Lib.hid hless
              subst ea2
              subst ea3
              clear hD hY hmd HZ hcell2 hbl2 hVq hUk hBk2 hBW
              cases E <;> cases D <;> cases Y
              all_goals
                go_wp2_with fail
                have kqy1 := fun d os => cell_patch (d := d) (os := os) y1
                have kqd1 := fun d os => cell_patch (d := d) (os := os) d1
                refine wp_region_quiet_patch (by kernel_rfl) (by kernel_rfl) ?_
                repeat (go_big_quiet_step ((go_at_call 39; exact Calls.patch_of (hless.out _))))
                refine wpQuiet_nil ?_
                intro _ hw'
                obtain ⟨⟨dq, osq⟩, hw''⟩ := hw'
                subst hw''
                clear kqy1 kqd1
                have hb := below_patch wr dq osq
                replace hBq := below_step hBq hb
                replace d0 := Below.cell_some hb d0
                replace y0 := Below.cell_some hb y0
                replace z8 := Below.cell_some hb z8
                clear hb
                generalize patch wr dq osq = w8 at hBq d0 y0 z8 ⊢
                clear y1 d1
                go_wp2_with fail
                have kqd0 := fun d os => cell_patch (d := d) (os := os) d0
                have kqy0 := fun d os => cell_patch (d := d) (os := os) y0
                have kqz8 := fun d os => cell_patch (d := d) (os := os) z8
                refine wp_region_quiet_patch (by kernel_rfl) (by kernel_rfl) ?_
                repeat (go_big_quiet_step (fail))
                refine wpQuiet_nil ?_
                intro _ hw'
                obtain ⟨⟨dq, osq⟩, hw''⟩ := hw'
                subst hw''
                clear kqd0 kqy0 kqz8
                have hb := below_patch w8 dq osq
                replace hBq := below_step hBq hb
                clear hb
                generalize patch w8 dq osq = w9 at hBq ⊢
                go_wp2_with fail
                go_roundw
                case rel => exact ⟨q + 1, _, by omega, by go_num, rfl, HN, hBq⟩
                case measure => simp [intOf]; omega
            · have hqn : ¬ (q : Int) < (n : Int) := by omega
              have hqe : q = n := by omega
              obtain ⟨ob, hob⟩ : ∃ ob, bestT (enF n P V R K B) M ((Q k).data.toList, (U k).data.toList) n = ob := ⟨_, rfl⟩
              have hzb : bestI ob = z := by
                have h := HZ.out
                rw [hqe, hob] at h
                exact h
              have hHS : ∀ j, j < n → ((S j = true ∨ ob = some j) ↔ ∃ r ∈ (mdF m Q U).take (k + 1), bestT (enF n P V R K B) M r n = some j) := fun j hj => by
                rw [ex_take (mdF_get m Q U k hlt), HS.out j hj, hob]
              have HRow2 := Lib.hid (HRow.out.below hBq)
              cases ob with
              | none =>
                have HS' : Hid (∀ j, j < n → (S j = true ↔ ∃ r ∈ (mdF m Q U).take (k + 1), bestT (enF n P V R K B) M r n = some j)) := Lib.hid (fun j hj => by
                  rw [← hHS j hj]
                  simp)
                have hz9 : z = -1 := hzb.symm
                subst hz9
                clear hzb hHS hob hqe HZ hbl2 hlq HS
                go_wp2_with fail
                go_roundw
                case rel => exact ⟨k + 1, S, by omega, by go_num, HRow2, hBW, HS'⟩
                case measure => simp [intOf]; omega
              | some x =>
                have hxn : x < n := by have := (bestT_at hob).1; exact this
                have HS' : Hid (∀ j, j < n → (setM S x j = true ↔ ∃ r ∈ (mdF m Q U).take (k + 1), bestT (enF n P V R K B) M r n = some j)) := Lib.hid (fun j hj => by
                  rw [← hHS j hj, setM_iff, Option.some.injEq])
                have hz9 : z = (x : Int) := hzb.symm
                subst hz9
                have hx0 : (0 : Int) ≤ (x : Int) := by omega
                have hxi : (x : Int) < (n : Int) := by omega
                have d0 := HRow2.out.cell hxn
                have df := HRow2.out.fz x
                have HRow3 := Lib.hid (HRow2.out.set x)
                have hB3 := hBW.setCell (p := ⟨g, x, none⟩) (Nat.le_refl _) (.bool true)
                clear hzb hHS hob hqe HZ hbl2 hlq HS
                go_wp2_with fail
                go_roundw
                case rel => exact ⟨k + 1, _, by omega, by go_num, HRow3, hB3, HS'⟩
                case measure => simp [intOf]; omega
        · have HSM : Hid (∀ j, j < n → (S j = true ↔ ∃ r ∈ roots, bestT (enF n P V R K B) M r n = some j)) := Lib.hid (fun j hj => by
            rw [HS.out j hj, List.take_of_length_le (by rw [mdF_length]; omega), HRE.out])
          have hnk : ¬ (k : Int) < (m : Int) := by omega
          clear hlt HS
          go_wp2_with fail
          clear hnk
          generalize wr = wp at *
          go_loopw [15, 16] (fun o x wr => ∃ (q : Nat) (L : List (ByteArray × ByteArray)), q ≤ n ∧ x = .int .i64 q ∧ Hid (wr.ownsRow wp.heap.size 29 2 o L.length (mdVs L)) ∧ L.length ≤ q ∧ Hid (mdTs L = outM (enF n P V R K B) S q) ∧ Below wp.heap.size wp wr) (fun _ x _ => n - (intOf x).toNat)
          case atStart => exact ⟨0, [], Nat.zero_le _, rfl, Lib.hid (World.ownsRow_nil _ _ _ _), Nat.le_refl _, Lib.hid (by simp [mdTs, outM]), Below.refl _ _⟩
          case round =>
            obtain ⟨q, L, hq, rfl, hO, hLk, hT, hBq⟩ := hrel
            obtain ⟨ao, no, co, rfl⟩ := own_form hO.out
            have hown := Lib.hid (fun q (e : (Value.slice ao no co).ownBlock = some q) => (hO.out.lt q e).1)
            have hBW := hBr.trans (hBq.mono (Nat.le_of_lt hgl))
            obtain ⟨hBk2, -, hzB⟩ := HFX.out _ hBW
            by_cases hlq : q < n
            · have hqn : (q : Int) < (n : Int) := by omega
              have g0 := (HRow.out.below hBq).cell hlq
              have hmd : (enAt (enF n P V R K B) q).md = ((P q).data.toList, (V q).data.toList) := by rw [enAt_enF hlq]
              have hot : outM (enF n P V R K B) S (q + 1) = outM (enF n P V R K B) S q ++ (if S q then [(enAt (enF n P V R K B) q).md] else []) := rfl
              rw [hmd] at hot
              cases hMv : S q with
              | false =>
                rw [hMv] at g0
                have HN : Hid (mdTs L = outM (enF n P V R K B) S (q + 1)) := Lib.hid (by
                  rw [hot, hMv, hT.out]; simp)
                have HLk := Lib.hid hLk
                clear hMv hmd hLk hT hot hzB hzk
                go_wp2_with fail
                go_roundw
                case rel => exact ⟨q + 1, L, by omega, by go_num, hO, by have := HLk.out; omega, HN, hBq⟩
                case measure => simp [intOf]; omega
              | true =>
                rw [hMv] at g0
                obtain ⟨b1, o1, ea, hcell⟩ := H.out.at_ q hlq
                have c0 := Below.cell_some hBk2 hcell.c0
                have c1 := Below.cell_some hBk2 hcell.c1
                subst ea
                have HN : Hid (mdTs (L ++ [(P q, V q)]) = outM (enF n P V R K B) S (q + 1)) := Lib.hid (by
                  rw [hot, hMv, mdTs_sn, hT.out]; simp)
                clear hMv hmd hT hcell hot hzB hzk
                go_wp2_with (at_builtin; refine wpList_append_own _ rfl _ _ 23 rfl wp.heap.size 29 i0 (.agg #[.string ⟨#[]⟩, .string ⟨#[]⟩]) 2 32 Tryz.underlying23 hi hz0 hz1 hz2 rfl (by decide) _ _ _ rfl (hO.out.alloc _) ⟨wr.heap.size, 0, none⟩ 1 1 [.string (P q), .string (V q)] rfl rfl (cell_two_new _ _ _ _) (by intro u hu; simp at hu; rcases hu with rfl | rfl <;> rfl) (by unfold maxLen; omega) (by omega) (by have := hBq.size; simp; omega) ?_; intro o' w7 hown4 hgrow4 _)
                go_roundw
                case rel =>
                  refine ⟨q + 1, L ++ [(P q, V q)], by omega, by go_num, Lib.hid ?_, by simp; omega, HN, ?_⟩
                  · rw [List.length_append, List.length_singleton, ← mdVs_snoc]
                    exact hown4
                  · exact (hBq.alloc hBq.size _).grown hgrow4 (by have := hBq.size; simp; omega) hown.out
                case measure => simp [intOf]; omega
            · have hqe : q = n := by omega
              have HL : Hid (mdTs L = outM (enF n P V R K B) S (enF n P V R K B).length) := Lib.hid (by
                rw [hT.out, hqe, enF_length])
              have hfi := fun W => refFine_calls W
              unfold fltV at hfi
              have hnk : ¬ (q : Int) < (n : Int) := by omega
              have hwp : w.heap.size < wp.heap.size := by omega
              replace hfi := Lib.hid hfi
              clear hlq hT hLk hq hqe hown hzk
              go_wp2_with fail
              refine (hfi.out _).mono ?_
              rintro e w8 ⟨rfl, hb⟩
              have hB8 := below_step hBk2 hb
              obtain ⟨z0, z1, zf⟩ := hzB.below hb
              have hO8 := ownsRow_kept hO.out hb
              have hne := own_ne (b := w.heap.size) hO8 hwp
              have HFIN : Hid (∀ u0 u1 : Value, ModsAt ((w8.setCell ⟨w.heap.size, 0, none⟩ u0).setCell ⟨w.heap.size, 1, none⟩ u1) (.slice ao no co) (outM (enF n P V R K B) S (enF n P V R K B).length)) := Lib.hid (fun u0 u1 => by
                have hM := modsAt_own (w := (w8.setCell ⟨w.heap.size, 0, none⟩ u0).setCell ⟨w.heap.size, 1, none⟩ u1) (ownsRow_set (ownsRow_set hO8 hne u0) hne u1)
                rw [HL.out] at hM
                exact hM)
              clear hb hfi hne hO8 hnk hzB hBk2
              go_wp2_with fail
              refine bodyPost_ret (v := .tuple #[(.slice ao no co), fltV (0, -1)]) (by simp [results, Tryz.results53, fltV, go_sem, *]) rfl ?_
              rw [toErr_at (by rw [HF.out])]
              exact ⟨⟨_, _, rfl, HFIN.out _ _, fun h => absurd rfl h, fun _ T' hT' => toP_out HG.out M HM.out (fun j hj => by rw [enF_length] at hj ⊢; exact HSM.out j hj) hT'⟩, (hB8.setCell (p := ⟨w.heap.size, 0, none⟩) (Nat.le_refl _) _).setCell (p := ⟨w.heap.size, 1, none⟩) (Nat.le_refl _) _⟩
    · have hc9 : (0 : Int) < (gc : Int) := by omega
      have hc8 : ((gc : Int) == 0) = false := beq_eq_false_iff_ne.2 (by omega)
      have HNE := Lib.hid h1
      have hx2 : Box2 ((w4.setCell ⟨bx, 0, none⟩ (.int .i64 (gc : Nat))).setCell ⟨bx, 1, none⟩ (.int .i64 ga)) bx (.int .i64 (gc : Nat)) (.int .i64 ga) := ⟨by rw [set_off _ (by decide)]; exact set_same _ x0, set_same _ (by rw [set_off _ (by decide)]; exact x1), fun j => by simp [xf j]⟩
      have hzB : Box2 ((w4.setCell ⟨bx, 0, none⟩ (.int .i64 (gc : Nat))).setCell ⟨bx, 1, none⟩ (.int .i64 ga)) w.heap.size (.int .i64 0) (.int .i64 0) := ⟨by rw [set_blk _ nx1, set_blk _ nx1]; exact hz.c0, by rw [set_blk _ nx1, set_blk _ nx1]; exact hz.c1, fun j => by simp [hz.fr j]⟩
      replace hB := (hB.setCell (p := ⟨bx, 0, none⟩) (by show w.heap.size ≤ bx; omega) (.int .i64 (gc : Nat))).setCell (p := ⟨bx, 1, none⟩) (by show w.heap.size ≤ bx; omega) (.int .i64 ga)
      clear h1 HSE hX
      go_wp2_with fail
      generalize (w4.setCell ⟨bx, 0, none⟩ (.int .i64 (gc : Nat))).setCell ⟨bx, 1, none⟩ (.int .i64 ga) = w5 at *
      clear x0 x1 xf hx hz
      obtain ⟨x0, x1, xf⟩ := id hx2
      obtain ⟨z0, z1, zf⟩ := id hzB
      go_region
      all_goals
        go_wp2_with fail
        refine bodyPost_ret (v := .tuple #[.slice none 0 0, fltV (gc, ga)]) (by simp [results, Tryz.results53, fltV, go_sem, *]) rfl ?_
        rw [HF.out]
        exact ⟨⟨_, [], rfl, ModsAt.nil _, fun _ => rfl, fun h => absurd h HNE.out⟩, (hB.drew.setCell (p := ⟨w.heap.size, 0, none⟩) (Nat.le_refl _) _).setCell (p := ⟨w.heap.size, 1, none⟩) (Nat.le_refl _) _⟩
  · have hc9 : (0 : Int) < (fc : Int) := by omega
    have hc8 : ((fc : Int) == 0) = false := beq_eq_false_iff_ne.2 (by omega)
    have HNE := Lib.hid h0
    have HF : Hid (toErr (enF n P V R K B) roots caps = (fc, fa)) := Lib.hid (by rw [HSE.out]; unfold orE; rw [if_pos h0])
    obtain ⟨z0, z1, zf⟩ := id hz
    clear h0 HSE hbl
    go_wp2_with fail
    generalize w2.alloc (.cells #[.int .i64 (fc : Nat), .int .i64 fa] 46) = w3 at *
    generalize w2.heap.size = bx at *
    go_region
    all_goals
      go_wp2_with fail
      refine bodyPost_ret (v := .tuple #[.slice none 0 0, fltV (fc, fa)]) (by simp [results, Tryz.results53, fltV, go_sem, *]) rfl ?_
      rw [HF.out]
      exact ⟨⟨_, [], rfl, ModsAt.nil _, fun _ => rfl, fun h => absurd h HNE.out⟩, (hB.drew.setCell (p := ⟨w.heap.size, 0, none⟩) (Nat.le_refl _) _).setCell (p := ⟨w.heap.size, 1, none⟩) (Nat.le_refl _) _⟩
end Go.Proofs.Pw

namespace Go.Proofs.Pw
open Go.RowKit
open Go.Lib hiding intOf
theorem firstE_le {g : Nat → Nat} (h : ∀ j, g j ≤ 10) : ∀ n, (firstE g n).1 ≤ 10
  | 0 => Nat.zero_le _
  | n + 1 => by
    rw [firstE]
    split
    · exact firstE_le h n
    · split
      · exact h n
      · exact Nat.zero_le _
theorem orE_le {a b : Nat × Int} (ha : a.1 ≤ 10) (hb : b.1 ≤ 10) : (orE a b).1 ≤ 10 := by
  unfold orE
  split
  · exact ha
  · exact hb
theorem mdErr_le (m : Md) : mdErr m ≤ 4 := modErr_le _ _
end Go.Proofs.Pw

namespace Go.Proofs.Pw
open Go.Lib hiding intOf
theorem reqE_le (p : Str) (l : List Md) (j : Nat) : reqE p l j ≤ 10 := by
  unfold reqE
  split
  · exact Nat.le_trans (mdErr_le _) (by decide)
  · split
    · decide
    · split <;> decide
theorem entErr_le (l : List En) (i : Nat) : entErr l i ≤ 10 := by
  unfold entErr
  split
  · exact Nat.le_trans (mdErr_le _) (by decide)
  · split
    · decide
    · split
      · unfold reqsErr
        split
        · decide
        · exact firstE_le (fun j => reqE_le _ _ j) _
      · unfold packsErr
        split
        · decide
        · split
          · refine firstE_le (fun j => ?_) _
            unfold packE
            split <;> decide
          · decide
theorem idxErr_le (l : List En) : (idxErr l).1 ≤ 10 := by
  unfold idxErr
  split
  · exact (by decide : 7 ≤ 10)
  · refine orE_le (firstE_le (fun j => entErr_le l j) _) (firstE_le (fun j => ?_) _)
    unfold lostE
    split <;> decide
theorem rootsErr_le (l : List En) (roots : List Md) : (rootsErr l roots).1 ≤ 10 := by
  unfold rootsErr
  refine firstE_le (fun j => ?_) _
  unfold rootE
  split <;> decide
end Go.Proofs.Pw

namespace Go.Proofs.Pw
open Go.RowKit Go.Extern.Stop Go.Stop Go.Extern
theorem Tryz.is_typeOf (v : Value) (w : World) : (Extern.ReflectliteType.typeOf #[.iface 317 v]).run Tryz.prog w = .ok (.iface 257 (.agg #[.pointer (some ⟨19, 317, none⟩)])) w := by kernel_rfl
theorem Tryz.is_comparable (w : World) : (Extern.ReflectliteType.method (fun t => do Rtype.noPackHeld "Comparable" t; pure (.bool (← typeInfo t).comparable)) #[.agg #[.pointer (some ⟨19, 317, none⟩)]]).run Tryz.prog w = .ok (.bool true) w := by kernel_rfl
theorem Tryz.is_callComparable (w : World) : (callFunc 336 #[.agg #[.pointer (some ⟨19, 317, none⟩)]]).run Tryz.prog w = .ok (.value (.bool true)) w := by
  have h := @run_callFunc_extern Tryz.prog 336 _ (Extern.ReflectliteType.method fun t => do Rtype.noPackHeld "Comparable" t; pure (.bool (← typeInfo t).comparable)) Tryz.func336 (by kernel_rfl) (by kernel_rfl) (by kernel_rfl) (by kernel_rfl)
  rw [h, Tryz.is_comparable]
  rfl
theorem Tryz.is_methodComparable (v : Value) (w : World) : (Go.method 453 257 v "Comparable").run Tryz.prog w = .ok (336, v) w := by kernel_rfl
theorem Tryz.is_comp : (Tryz.prog.info? 317).map (·.comparable) = some true := by kernel_rfl
theorem Tryz.is_size : (Tryz.prog.info? 319).map (·.size) = some 1 := by kernel_rfl
theorem Tryz.no_isE (v : Value) (xT : TypeId) (w : World) : (Instr.typeAssert (.iface 317 v) xT 268 true).run Tryz.prog w = .ok (.tuple #[.nilIface, .bool false]) w := run_typeAssert_lacksB Tryz.underlying268 (by kernel_rfl) (by kernel_rfl) v xT w
theorem Tryz.no_asE (v : Value) (xT : TypeId) (w : World) : (Instr.typeAssert (.iface 317 v) xT 261 true).run Tryz.prog w = .ok (.tuple #[.nilIface, .bool false]) w := run_typeAssert_lacksB Tryz.underlying261 (by kernel_rfl) (by kernel_rfl) v xT w
theorem Tryz.no_unwrapE (v : Value) (xT : TypeId) (w : World) : (Instr.typeAssert (.iface 317 v) xT 264 true).run Tryz.prog w = .ok (.tuple #[.nilIface, .bool false]) w := run_typeAssert_lacksB Tryz.underlying264 (by kernel_rfl) (by kernel_rfl) v xT w
theorem Tryz.no_unwrapsE (v : Value) (xT : TypeId) (w : World) : (Instr.typeAssert (.iface 317 v) xT 266 true).run Tryz.prog w = .ok (.tuple #[.nilIface, .bool false]) w := run_typeAssert_lacksB Tryz.underlying266 (by kernel_rfl) (by kernel_rfl) v xT w
theorem Tryz.no_isF (v : Value) (xT : TypeId) (w : World) : (Instr.typeAssert (.iface 118 v) xT 268 true).run Tryz.prog w = .ok (.tuple #[.nilIface, .bool false]) w := run_typeAssert_lacksB Tryz.underlying268 (by kernel_rfl) (by kernel_rfl) v xT w
theorem Tryz.has_unwrapF (v : Value) (xT : TypeId) (w : World) : (Instr.typeAssert (.iface 118 v) xT 264 true).run Tryz.prog w = .ok (.tuple #[.iface 118 v, .bool true]) w := run_typeAssert_hasB Tryz.underlying264 (by kernel_rfl) v xT w
theorem Tryz.method_unwrapF (v : Value) (w : World) : (Go.method 453 118 v "Unwrap").run Tryz.prog w = .ok (330, v) w := by kernel_rfl
theorem is_same (a : Addr) (w : World) :
    Calls Tryz.prog 148 #[.iface 317 (.pointer (some a)), .iface 317 (.pointer (some a))] w fun e w' => e = .returned (.bool true) ∧ w = w' := by
  obtain ⟨i, hi, hcmp⟩ := Option.map_eq_some_iff.1 Tryz.is_comp
  obtain ⟨j, hj, hjs⟩ := Option.map_eq_some_iff.1 Tryz.is_size
  have h8 := @run_callFunc_extern Tryz.prog 199 _ Extern.ReflectliteType.typeOf Tryz.func199 (by kernel_rfl) (by kernel_rfl) (by kernel_rfl) (by kernel_rfl)
  have h32 := Tryz.is_callComparable
  have tT := Tryz.is_typeOf
  have mR := Tryz.is_methodComparable
  have heq := run_eql_iface_ptr_same (P := Tryz.prog) w a Tryz.underlying41 Tryz.underlying317 hi hcmp hj
  go_enter Tryz.func148, Tryz.ntmps148
  go_wp2
  refine wp_loop_rounds 1 ?_
  rw [rounds_succ]
  go_wp2
  go_ret
  exact ⟨rfl, rfl⟩
theorem is_other (a b : Addr) (ca cb : Array Value) (ta tb : TypeId) (w : World) (hne : a ≠ b) (ha : w.heap[a.block]? = some (.cells ca ta (0, 0))) (hb : w.heap[b.block]? = some (.cells cb tb (0, 0))) :
    Calls Tryz.prog 148 #[.iface 317 (.pointer (some a)), .iface 317 (.pointer (some b))] w fun e w' => e = .returned (.bool false) ∧ w = w' := by
  obtain ⟨i, hi, hcmp⟩ := Option.map_eq_some_iff.1 Tryz.is_comp
  obtain ⟨j, hj, hjs⟩ := Option.map_eq_some_iff.1 Tryz.is_size
  have h8 := @run_callFunc_extern Tryz.prog 199 _ Extern.ReflectliteType.typeOf Tryz.func199 (by kernel_rfl) (by kernel_rfl) (by kernel_rfl) (by kernel_rfl)
  have h32 := Tryz.is_callComparable
  have tT := Tryz.is_typeOf
  have mR := Tryz.is_methodComparable
  have nE := Tryz.no_isE
  have uE := Tryz.no_unwrapE
  have vE := Tryz.no_unwrapsE
  have heq := run_eql_iface_ptr_other (P := Tryz.prog) w Tryz.underlying41 Tryz.underlying317 hi hcmp hj (by rw [hjs]; decide) hne ha hb
  go_enter Tryz.func148, Tryz.ntmps148
  go_wp2
  refine wp_loop_rounds 1 ?_
  rw [rounds_succ]
  go_wp2
  go_ret
  exact ⟨rfl, rfl⟩
theorem is_fault_same (pb : Nat) (b : Addr) (w : World) (h1 : w.cell? ⟨pb, 1, none⟩ = some (.iface 317 (.pointer (some b)))) :
    Calls Tryz.prog 148 #[.iface 118 (.pointer (some ⟨pb, 0, none⟩)), .iface 317 (.pointer (some b))] w fun e w' => e = .returned (.bool true) ∧ w = w' := by
  obtain ⟨i, hi, hcmp⟩ := Option.map_eq_some_iff.1 Tryz.is_comp
  obtain ⟨j, hj, hjs⟩ := Option.map_eq_some_iff.1 Tryz.is_size
  have h8 := @run_callFunc_extern Tryz.prog 199 _ Extern.ReflectliteType.typeOf Tryz.func199 (by kernel_rfl) (by kernel_rfl) (by kernel_rfl) (by kernel_rfl)
  have h32 := Tryz.is_callComparable
  have tT := Tryz.is_typeOf
  have mR := Tryz.is_methodComparable
  have nF := Tryz.no_isF
  have uF := Tryz.has_unwrapF
  have mU := Tryz.method_unwrapF
  have heq := run_eql_iface_ptr_same (P := Tryz.prog) w b Tryz.underlying41 Tryz.underlying317 hi hcmp hj
  have hty := run_eql_iface_types (P := Tryz.prog) 118 317 (.pointer (some ⟨pb, 0, none⟩)) (.pointer (some b)) Tryz.underlying41 (by decide) w
  go_enter Tryz.func148, Tryz.ntmps148
  go_wp2
  refine wp_loop_rounds 2 ?_
  rw [rounds_succ]
  go_wp2
  rw [rounds_succ]
  go_wp2
  go_ret
  exact ⟨rfl, rfl⟩
theorem is_fault_other (pb : Nat) (b a : Addr) (ca cb : Array Value) (ta tb : TypeId) (w : World) (h1 : w.cell? ⟨pb, 1, none⟩ = some (.iface 317 (.pointer (some a)))) (hne : a ≠ b) (ha : w.heap[a.block]? = some (.cells ca ta (0, 0))) (hb : w.heap[b.block]? = some (.cells cb tb (0, 0))) :
    Calls Tryz.prog 148 #[.iface 118 (.pointer (some ⟨pb, 0, none⟩)), .iface 317 (.pointer (some b))] w fun e w' => e = .returned (.bool false) ∧ w = w' := by
  obtain ⟨i, hi, hcmp⟩ := Option.map_eq_some_iff.1 Tryz.is_comp
  obtain ⟨j, hj, hjs⟩ := Option.map_eq_some_iff.1 Tryz.is_size
  have h8 := @run_callFunc_extern Tryz.prog 199 _ Extern.ReflectliteType.typeOf Tryz.func199 (by kernel_rfl) (by kernel_rfl) (by kernel_rfl) (by kernel_rfl)
  have h32 := Tryz.is_callComparable
  have tT := Tryz.is_typeOf
  have mR := Tryz.is_methodComparable
  have nE := Tryz.no_isE
  have uE := Tryz.no_unwrapE
  have vE := Tryz.no_unwrapsE
  have nF := Tryz.no_isF
  have uF := Tryz.has_unwrapF
  have mU := Tryz.method_unwrapF
  have heq := run_eql_iface_ptr_other (P := Tryz.prog) w Tryz.underlying41 Tryz.underlying317 hi hcmp hj (by rw [hjs]; decide) hne ha hb
  have hty := run_eql_iface_types (P := Tryz.prog) 118 317 (.pointer (some ⟨pb, 0, none⟩)) (.pointer (some b)) Tryz.underlying41 (by decide) w
  go_enter Tryz.func148, Tryz.ntmps148
  go_wp2
  refine wp_loop_rounds 2 ?_
  rw [rounds_succ]
  go_wp2
  rw [rounds_succ]
  go_wp2
  go_ret
  exact ⟨rfl, rfl⟩
end Go.Proofs.Pw
