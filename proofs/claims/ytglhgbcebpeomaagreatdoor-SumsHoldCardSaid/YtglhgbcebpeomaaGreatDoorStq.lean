/- St: walks and plain laws, joined: SumRead Bld RefP. Conditions: at each theorem. -/
import Derived.Test.YtglhgbcebpeomaaGreatDoorStp
import Derived.Test.YtglhgbcebpeomaaGreatDoorStc
import Derived.Test.YtglhgbcebpeomaaGreatDoorStj
import Derived.Test.YtglhgbcebpeomaaGreatDoorStk
import Derived.Stop.IfaceNil
import Derived.Test.YtglhgbcebpeomaaGreatDoorStl
import Derived.Test.YtglhgbcebpeomaaGreatDoorSth
import Derived.Test.YtglhgbcebpeomaaGreatDoorStf
import Derived.Test.YtglhgbcebpeomaaGreatDoorSta
import Derived.Lib.IndexLaws

namespace Go.Proofs.Pw
open Go.RowKit
open Go.Lib hiding intOf
theorem cut_fst_len (s : Str) : (cut s [10]).1.length ≤ s.length := by
  by_cases hm : (10 : UInt8) ∈ s
  · obtain ⟨a, b, rfl, ha⟩ := mem_at hm
    rw [cut_at ha]; simp
  · rw [cut_no hm]; exact Nat.le_refl _
theorem lineLn_32 {t : Str} (h : lineE t = 0) : (lineLn t).2 < 4294967296 := by
  unfold lineE at h
  simp only at h
  unfold lineLn
  split at h
  · cases h
  · split at h
    · cases h
    · show decVal _ < _
      omega
theorem readX_32 : ∀ (x : List Str) (out : List Ln) (i : Nat), (∀ y ∈ out, y.2 < 4294967296) → ∀ y ∈ (readX out i x).1, y.2 < 4294967296
  | [], out, i, h => by rw [readX]; exact h
  | [t], out, i, h => by
    rw [readX]
    split
    · intro y hy; cases hy
    · exact h
  | t :: u :: r, out, i, h => by
    rw [readX]
    split
    · intro y hy; cases hy
    · rename_i h1
      split
      · intro y hy; cases hy
      · refine readX_32 (u :: r) _ _ fun y hy => ?_
        rcases List.mem_append.1 hy with h2 | h2
        · exact h y h2
        · rw [List.mem_singleton.1 h2]
          exact lineLn_32 (by simpa using h1)
theorem readLs_32 (s : Str) : ∀ y ∈ (readLs s).1, y.2 < 4294967296 := readX_32 _ _ _ (fun y hy => by cases hy)
def ReadLnOut (A : Nat → Addr) (s : Str) (w : World) (e : Ending) (w' : World) : Prop :=
  (∃ v ev T, e = .returned (.tuple #[v, ev]) ∧ w'.ownsRow w.heap.size 64 3 v T.length (lnVs .u32 T) ∧ lnTs T = (readLs s).1 ∧ FaultAt A w' ev ((readLs s).2.1, (readLs s).2.2)) ∧ Below w.heap.size w w'
theorem readLn_bad {A : Nat → Addr} {s : Str} {w W : World} {c : Nat} {k : Nat} (hc : c ≠ 0) (h : readLs s = ([], c, (k : Int))) (hb : Below w.heap.size w W) (hl : w.heap.size ≤ W.heap.size) :
    ReadLnOut A s w (.returned (.tuple #[.slice none 0 0, .iface 106 (.pointer (some ⟨W.heap.size, 0, none⟩))])) (W.alloc (.cells #[.int .i64 k, .iface 371 (.pointer (some (A c)))] 108)) := by
  unfold ReadLnOut
  rw [h]
  refine ⟨⟨_, _, [], rfl, World.ownsRow_nil _ _ _ _, rfl, .inr (.inr ⟨hc, W.heap.size, rfl, by simp, ?_⟩)⟩, hb.alloc hl _⟩
  show _ = some (errV A c)
  rw [errV_pos A hc]
  simp
theorem lineLn_len (t : Str) : (lineLn t).1.2.length ≤ t.length := by
  unfold lineLn
  show ((split t [32]).getD 1 []).length ≤ _
  rw [List.getD_eq_getElem?_getD]
  cases h : (split t [32])[1]? with
  | none => simp
  | some x => exact split_mem_le [32] (by simp) _ _ (Nat.le_refl _) _ (List.mem_of_getElem? h)
theorem lnAt_G {T : List LnB} {i : Nat} (h : i < T.length) : lnAt (lnTs T) i = (((lnG T i).1.data.toList, (lnG T i).2.1.data.toList), (lnG T i).2.2) := by
  rw [lnTs_F, lnAt_lnF h]
theorem lnG_mem {T : List LnB} {i : Nat} (h : i < T.length) : lnG T i ∈ T := by
  unfold lnG
  rw [List.getD_eq_getElem?_getD, List.getElem?_eq_getElem h]
  exact List.getElem_mem h
set_option maxHeartbeats 8000000 in
set_option maxRecDepth 100000 in
theorem sumsRead_calls (ks : List Nat) (A : Nat → Addr) (hks : IdxKs ks) (s : ByteArray) (w : World) (hE : EnvP ks A w) (hs : s.size ≤ 1000000) :
    Calls Tryz.prog 23 #[.string s] w (ReadLnOut A s.data.toList w) := by
  obtain ⟨i0, hi, hz0, hz1, hz2⟩ := info_parts Tryz.infoLine
  have hli := fun t W hW h1 => sumLine_calls ks A hks t W hW h1
  have hah := fun p v q u W hW h1 h2 => modAhead_calls ks A p v q u W hW h1 h2
  replace hli := Lib.hid hli
  replace hah := Lib.hid hah
  go_enter Tryz.func23, Tryz.ntmps23
  go_wp2_with fail
  go_loopw [0, 4, 5] (fun sv o iv wr => ∃ (cur : ByteArray) (k : Nat) (T : List LnB), sv = .string cur ∧ iv = .int .i64 k ∧ T.length = k ∧ k + cur.size ≤ s.size ∧ OwnL w.heap.size wr o T ∧ Below w.heap.size w wr ∧ Hid (readX (lnTs T) k (split cur.data.toList [10]) = readLs s.data.toList) ∧ Hid (∀ y ∈ T, y.2.1.size ≤ 1000000)) (fun sv _ iv _ => s.size + 1 - (intOf iv).toNat)
  case atStart => exact ⟨s, 0, [], rfl, rfl, rfl, by omega, ⟨World.ownsRow_nil _ _ _ _⟩, Below.refl _ _, Lib.hid rfl, Lib.hid (fun y hy => by cases hy)⟩
  case round =>
    obtain ⟨cur, k, T, rfl, rfl, hTk, hk, hO, hBr, HR, HVT⟩ := hrel
    obtain ⟨ao, no, co, rfl⟩ := own_form hO.out
    by_cases hend : cur.data.toList = []
    · have e1 : (cur.toList != []) = false := by rw [toList_data, hend]; rfl
      have e2 : cur.toList.isEmpty = true := by rw [toList_data, hend]; rfl
      have HF : Hid (readLs s.data.toList = (lnTs T, 0, -1)) := Lib.hid (by rw [← HR.out, hend, readX_end])
      clear hend HR
      go_wp2_with fail
      go_ret2
      unfold ReadLnOut
      rw [HF.out]
      exact ⟨⟨_, _, T, rfl, hO.out, rfl, .inl ⟨rfl, rfl, rfl⟩⟩, hBr⟩
    · have e1 : (cur.toList != []) = true := by rw [toList_data, bne_iff_ne]; exact hend
      have e2 : cur.toList.isEmpty = false := by
        rw [toList_data]
        cases h : cur.data.toList with
        | nil => exact absurd h hend
        | cons => rfl
      have hEr := hE.below hBr
      have hcut := cut_calls cur ⟨#[10]⟩ wr hEr.m (by omega)
      rw [show (⟨#[10]⟩ : ByteArray).data.toList = [10] from rfl] at hcut
      have hX := readX_cut (out := lnTs T) (i := k) hend
      rw [HR.out] at hX
      have hfl := cut_fst_len cur.data.toList
      have hrl := fun h => cut_rest (s := cur.data.toList) h
      obtain ⟨x1, x2, is, hC⟩ : ∃ x1 x2 is, Lib.cut cur.data.toList [10] = (x1, x2, is) := ⟨_, _, _, rfl⟩
      rw [hC] at hcut hX hfl hrl
      simp only at hcut hX hfl hrl
      rw [← size_eq] at hfl hrl
      have hl1 := fun W hW => hli.out ⟨x1.toArray⟩ W hW (by rw [size_eq]; simp only; omega)
      simp only at hl1
      have HX := Lib.hid hX
      have HRL := Lib.hid hrl
      replace hcut := Lib.hid hcut
      replace hl1 := Lib.hid hl1
      clear hC hX HR hrl hend
      go_wp2_with fail
      refine hcut.out.mono ?_
      rintro e w3 ⟨rfl, hb⟩
      have hB3 := below_step hBr hb
      have hO3 := hO.below hb
      clear hb hcut
      go_wp2_with fail
      refine (hl1.out w3 (hE.below hB3)).mono ?_
      rintro e w4 ⟨⟨p, v, n, rfl, hline⟩, hb⟩
      have hB4a := below_step hB3 hb
      have hO4a := hO3.below hb
      have HLN := Lib.hid hline
      have hba := below_alloc w4 (.cells #[.string p, .string v, .int .u32 n] 64)
      have hx5 : LnC .u32 (w4.alloc (.cells #[.string p, .string v, .int .u32 n] 64)) w4.heap.size 0 p v n := ⟨by simp, by simp, by simp⟩
      have hB5 := below_step hB4a hba
      have hO5 := hO4a.below hba
      have HVX : Hid (lineE x1 = 0 → v.size ≤ 1000000) := Lib.hid (fun h => by
        have h1 := congrArg (fun z : Ln => z.1.2.length) (hline h).1
        have h2 := lineLn_len x1
        simp only at h1
        rw [← size_eq] at h1
        omega)
      clear hb hl1 hline hO3 hO4a hO hBr hEr
      obtain ⟨w5, hW⟩ : ∃ W, w4.alloc (.cells #[.string p, .string v, .int .u32 n] 64) = W := ⟨_, rfl⟩
      rw [hW] at hx5 hB5 hO5
      clear hba
      cases is with
      | false =>
        have HF : Hid (readLs s.data.toList = ([], 1, (k : Int))) := Lib.hid (by rw [HX.out]; rfl)
        have g1 := (hE.below hB5).errs.var 1 hE.has.1
        simp only [errG] at g1
        clear HX hx5
        go_wp2_with fail
        clear hW
        go_ret2
        exact readLn_bad (by decide) HF.out hB5 hB5.size
      | true =>
        have hr2 := HRL.out rfl
        obtain ⟨E, hEE⟩ : ∃ E, lineE x1 = E := ⟨_, rfl⟩
        rw [hEE] at HX HLN HVX ⊢
        obtain ⟨x0, x1', x2'⟩ := id hx5
        by_cases h0 : E = 0
        · subst h0
          rw [errV_zero]
          obtain ⟨hl3, hl4⟩ := HLN.out rfl
          obtain ⟨Y, hY⟩ : ∃ Y, lineLn x1 = Y := ⟨_, rfl⟩
          rw [hY] at HX hl3
          subst hl3
          have HVN : Hid (∀ y ∈ T ++ [(p, v, n)], y.2.1.size ≤ 1000000) := Lib.hid (fun y hy => by
            rcases List.mem_append.1 hy with h | h
            · exact HVT.out y h
            · rw [List.mem_singleton.1 h]; exact HVX.out rfl)
          by_cases hk0 : k = 0
          · have hkz : ¬ (0 : Int) < (k : Int) := by omega
            have HN : Hid (readX (lnTs (T ++ [(p, v, n)])) (k + 1) (split (⟨x2.toArray⟩ : ByteArray).data.toList [10]) = readLs s.data.toList) := Lib.hid (by rw [HX.out, lnTs_snoc]; simp [hk0])
            clear HX hEE hY x0 x1' x2' hk0
            go_wp2_with fail
            clear hW
            have hd1 : decide ((0 : Int) < (k : Int)) = false := decide_eq_false (by omega)
            have hd2 : decide (0 < k) = false := decide_eq_false (by omega)
            refine wp_region_quiet_patch (by kernel_rfl) (by kernel_rfl) ?_
            repeat (go_big_quiet_step (fail))
            refine wpQuiet_nil ?_
            intro _ hw'
            obtain ⟨⟨dq, osq⟩, hw''⟩ := hw'
            subst hw''
            have hb := below_patch w5 dq osq
            replace hB5 := below_step hB5 hb
            replace hx5 := hx5.below hb
            replace hO5 := hO5.below hb
            clear hb
            generalize patch w5 dq osq = w6 at hB5 hx5 hO5 ⊢
            have hB6 := hB5
            have hx6 := hx5
            have hO6 := hO5
            clear hx5
            obtain ⟨x0, x1', x2'⟩ := id hx6
            simp only [Nat.zero_add] at x1' x2'
            go_wp2_with (at_builtin; refine wpList_append_own _ rfl _ _ 39 rfl w.heap.size 64 i0 (.agg #[.string ⟨#[]⟩, .string ⟨#[]⟩, .int .u32 0]) 3 40 Tryz.underlying39 hi hz0 hz1 hz2 rfl (by decide) _ _ _ rfl (hO6.out.alloc _) ⟨w6.heap.size, 0, none⟩ 1 1 [.string p, .string v, .int .u32 n] rfl rfl (cell_ln_new w6 _ _ _ _ _) (by intro u hu; simp at hu; rcases hu with rfl | rfl | rfl <;> rfl) (by unfold maxLen; omega) (by omega) (by have := hB6.size; simp; omega) ?_; intro o' w8 hown8 hgrow8 _)
            go_roundw
            case rel =>
              refine ⟨⟨x2.toArray⟩, k + 1, T ++ [(p, v, n)], rfl, by go_num, by simp; omega, by rw [size_eq]; simp only; omega, ⟨?_⟩, ?_, HN, HVN⟩
              · rw [List.length_append, List.length_singleton, ← lnVs_snoc]; exact hown8
              · exact (hB6.alloc hB6.size _).grown hgrow8 (by have := hB6.size; simp; omega) (fun q hq => (hO6.out.lt q hq).1)
            case measure => simp [intOf]; omega
          · obtain ⟨i, hki⟩ : ∃ i, k = i + 1 := ⟨k - 1, by omega⟩
            have hiT : i < T.length := by omega
            obtain ⟨b2, o2, eb, hcd⟩ := lnG_cells hO5.out i hiT
            obtain ⟨d0, d1, d2⟩ := hcd
            have hLA := lnAt_G hiT
            have hvs := HVT.out _ (lnG_mem hiT)
            have hvx := HVX.out rfl
            have hno := ownL_len hO5.out
            subst eb
            rw [show k - 1 = i by omega, hLA] at HX
            generalize (lnG T i).1 = P0 at *
            generalize (lnG T i).2.1 = V0 at *
            generalize (lnG T i).2.2 = S0 at *
            have hk0' : (0 : Int) < (k : Int) := by omega
            have hkw : IntKind.i64.wrap ((k : Int) - 1) = (i : Int) := by rw [show (k : Int) - 1 = (i : Int) by omega]; exact wrap_nat i (by omega)
            have hin : (i : Int) < (no : Int) := by omega
            clear hno
            have hah1 := fun W hW => hah.out P0 V0 p v W hW (by omega) (by omega)
            have HK0 : Hid (0 < k) := Lib.hid (by omega)
            have hE5 := hE.below hB5
            have kE := Lib.hid (fun d os => hE5.below (below_patch w5 d os))
            clear hLA hki hk0 hvs hvx hE5
            cases hX : modAhead (P0.data.toList, V0.data.toList) (p.data.toList, v.data.toList) with
            | true =>
              rw [hX] at hah1
              have HN : Hid (readX (lnTs (T ++ [(p, v, n)])) (k + 1) (split (⟨x2.toArray⟩ : ByteArray).data.toList [10]) = readLs s.data.toList) := Lib.hid (by rw [HX.out, lnTs_snoc]; simp [hX])
              replace hah1 := Lib.hid hah1
              clear HX hEE hY hX
              go_wp2_with fail
              clear hW
              have hd1 : decide ((0 : Int) < (k : Int)) = true := decide_eq_true (by omega)
              have hd2 : decide (0 < k) = true := decide_eq_true (by omega)
              have kqx0 := fun d os => cell_patch (d := d) (os := os) x0
              have kqx1' := fun d os => cell_patch (d := d) (os := os) x1'
              have kqd0 := fun d os => cell_patch (d := d) (os := os) d0
              have kqd1 := fun d os => cell_patch (d := d) (os := os) d1
              refine wp_region_quiet_patch (by kernel_rfl) (by kernel_rfl) ?_
              repeat (go_big_quiet_step ((go_at_call 63; with_reducible exact Calls.patch_of (hah1.out _ (kE.out _ _)))))
              refine wpQuiet_nil ?_
              intro _ hw'
              obtain ⟨⟨dq, osq⟩, hw''⟩ := hw'
              subst hw''
              clear kqx0 kqx1' kqd0 kqd1
              have hb := below_patch w5 dq osq
              replace hB5 := below_step hB5 hb
              replace hx5 := hx5.below hb
              replace hO5 := hO5.below hb
              clear hb
              generalize patch w5 dq osq = w6 at hB5 hx5 hO5 ⊢
              clear x0 x1' x2' d0 d1 d2
              have hB6 := hB5
              have hx6 := hx5
              have hO6 := hO5
              clear hx5
              obtain ⟨x0, x1', x2'⟩ := id hx6
              simp only [Nat.zero_add] at x1' x2'
              go_wp2_with (at_builtin; refine wpList_append_own _ rfl _ _ 39 rfl w.heap.size 64 i0 (.agg #[.string ⟨#[]⟩, .string ⟨#[]⟩, .int .u32 0]) 3 40 Tryz.underlying39 hi hz0 hz1 hz2 rfl (by decide) _ _ _ rfl (hO6.out.alloc _) ⟨w6.heap.size, 0, none⟩ 1 1 [.string p, .string v, .int .u32 n] rfl rfl (cell_ln_new w6 _ _ _ _ _) (by intro u hu; simp at hu; rcases hu with rfl | rfl | rfl <;> rfl) (by unfold maxLen; omega) (by omega) (by have := hB6.size; simp; omega) ?_; intro o' w8 hown8 hgrow8 _)
              go_roundw
              case rel =>
                refine ⟨⟨x2.toArray⟩, k + 1, T ++ [(p, v, n)], rfl, by go_num, by simp; omega, by rw [size_eq]; simp only; omega, ⟨?_⟩, ?_, HN, HVN⟩
                · rw [List.length_append, List.length_singleton, ← lnVs_snoc]; exact hown8
                · exact (hB6.alloc hB6.size _).grown hgrow8 (by have := hB6.size; simp; omega) (fun q hq => (hO6.out.lt q hq).1)
              case measure => simp [intOf]; omega
            | false =>
              rw [hX] at hah1
              have HF : Hid (readLs s.data.toList = ([], 8, (k : Int))) := Lib.hid (by rw [HX.out]; have := HK0.out; simp [hX, this])
              replace hah1 := Lib.hid hah1
              clear HX hEE hY hX hx5
              go_wp2_with fail
              clear hW
              have hd1 : decide ((0 : Int) < (k : Int)) = true := decide_eq_true (by omega)
              have hd2 : decide (0 < k) = true := decide_eq_true (by omega)
              have kqx0 := fun d os => cell_patch (d := d) (os := os) x0
              have kqx1' := fun d os => cell_patch (d := d) (os := os) x1'
              have kqd0 := fun d os => cell_patch (d := d) (os := os) d0
              have kqd1 := fun d os => cell_patch (d := d) (os := os) d1
              refine wp_region_quiet_patch (by kernel_rfl) (by kernel_rfl) ?_
              repeat (go_big_quiet_step ((go_at_call 63; with_reducible exact Calls.patch_of (hah1.out _ (kE.out _ _)))))
              refine wpQuiet_nil ?_
              intro _ hw'
              obtain ⟨⟨dq, osq⟩, hw''⟩ := hw'
              subst hw''
              clear kqx0 kqx1' kqd0 kqd1
              have hb := below_patch w5 dq osq
              replace hB5 := below_step hB5 hb
              clear hb
              generalize patch w5 dq osq = w6 at hB5 ⊢
              clear x0 x1' x2' d0 d1 d2
              have g8 := (hE.below hB5).errs.var 8 hks.2.2.2.2
              simp only [errG] at g8
              go_wp2_with fail
              go_ret2
              exact readLn_bad (by decide) HF.out hB5 hB5.size
        · rw [errV_pos A h0]
          have HF : Hid (readLs s.data.toList = ([], E, (k : Int))) := Lib.hid (by rw [HX.out]; simp [h0])
          have H0 := Lib.hid h0
          clear HX hEE h0 HLN HVX hx5 x0 x1' x2'
          go_wp2_with fail
          clear hW
          refine wp_region_quiet_patch (by kernel_rfl) (by kernel_rfl) ?_
          repeat (go_big_quiet_step (fail))
          refine wpQuiet_nil ?_
          intro _ hw'
          obtain ⟨⟨dq, osq⟩, hw''⟩ := hw'
          subst hw''
          have hb := below_patch w5 dq osq
          replace hB5 := below_step hB5 hb
          clear hb
          generalize patch w5 dq osq = w6 at hB5 ⊢
          go_wp2_with fail
          go_ret2
          exact readLn_bad H0.out HF.out hB5 hB5.size
end Go.Proofs.Pw

namespace Go.Proofs.Pw
open Go.RowKit
open Go.Lib hiding intOf
def BAt (B b : Nat) (l : Str) (w : World) : Prop := IsBuilder 100 5 B b (Lib.byteCells l) w
theorem builderAt_below {B b : Nat} {p : Value} {bs : List Value} {w w' : World} (h : BuilderAt 100 5 B b p bs w) (hb : Below w.heap.size w w') : BuilderAt 100 5 B b p bs w' := by
  obtain ⟨h1, v, h2, h3, h4⟩ := h
  exact ⟨h1, v, (hb.block b (Array.getElem?_eq_some_iff.1 h2).1).trans h2, ownsRow_kept h3 hb, h4⟩
theorem BAt.below {B b : Nat} {l : Str} {w w' : World} (h : BAt B b l w) (hb : Below w.heap.size w w') : BAt B b l w' := by
  rcases h with h | h
  · exact .inl (builderAt_below h hb)
  · exact .inr (builderAt_below h hb)
theorem bAt_new (w : World) : BAt w.heap.size w.heap.size [] (w.alloc (.cells #[.pointer none, .slice none 0 0] 100)) := by
  refine .inl ⟨Nat.le_refl _, .slice none 0 0, Go.Deep.blk_alloc_new w _, World.ownsRow_nil _ _ _ _, ?_⟩
  intro h; cases h
theorem writeS_calls (B b : Nat) (l : Str) (s : ByteArray) (w : World) (h : BAt B b l w) (hl : l.length + s.size ≤ 100000000000) (hB : B ≤ w.heap.size) :
    Calls Tryz.prog 52 #[.pointer (some ⟨b, 0, none⟩), .string s] w fun e w' => e = .returned (.tuple #[.int .i64 s.size, .nilIface]) ∧ BAt B b (l ++ s.data.toList) w' ∧ Below B w w' := by
  refine (Any.Builder_WriteString laysWS extraB B b (Lib.byteCells l) s w h (by rw [Lib.byteCells_length]; omega) hB).mono ?_
  rintro e w' ⟨rfl, h1, h2⟩
  refine ⟨rfl, .inr ?_, h2⟩
  rw [strCells_eq, ← Lib.byteCells_append] at h1
  exact h1
theorem stringB_calls (B b : Nat) (l : Str) (w : World) (h : BAt B b l w) (h0 : l ≠ []) :
    Calls Tryz.prog 54 #[.pointer (some ⟨b, 0, none⟩)] w fun e w' => e = .returned (.string ⟨l.toArray⟩) ∧ Below B w w' := Tryz.Builder_String B b l w h h0
def BF (B b : Nat) (l : Str) (w : World) : Prop := IsBuilderF 100 5 B b (Lib.byteCells l) w
theorem builderAtF_below {B b : Nat} {p : Value} {bs : List Value} {w w' : World} (h : BuilderAtF 100 5 B b p bs w) (hb : Below w.heap.size w w') : BuilderAtF 100 5 B b p bs w' := by
  obtain ⟨h1, v, h2, h3, h4⟩ := h
  exact ⟨h1, v, (hb.block b (Array.getElem?_eq_some_iff.1 h2).1).trans h2, h3.kept (row := none) ⟨hb.os, hb.tape, hb.output, hb.size, fun k hk _ => hb.block k hk⟩ (Classical.em _), h4⟩
theorem BF.below {B b : Nat} {l : Str} {w w' : World} (h : BF B b l w) (hb : Below w.heap.size w w') : BF B b l w' := by
  rcases h with h | h
  · exact .inl (builderAtF_below h hb)
  · exact .inr (builderAtF_below h hb)
theorem BF.lt {B b : Nat} {l : Str} {w : World} (h : BF B b l w) : b < w.heap.size := by
  rcases h with ⟨_, v, h2, _⟩ | ⟨_, v, h2, _⟩
  · exact (Array.getElem?_eq_some_iff.1 h2).1
  · exact (Array.getElem?_eq_some_iff.1 h2).1
theorem bF_new (w : World) : BF w.heap.size w.heap.size [] (w.alloc (.cells #[.pointer none, .slice none 0 0] 100)) := IsBuilderF.of (bAt_new w)
theorem writeK_calls (B b : Nat) (l : Str) (s : ByteArray) (w : World) (h : BF B b l w) (hl : l.length + s.size ≤ 100000000000) (hB : B ≤ w.heap.size) :
    Calls Tryz.prog 52 #[.pointer (some ⟨b, 0, none⟩), .string s] w fun e w' => e = .returned (.tuple #[.int .i64 s.size, .nilIface]) ∧ BF B b (l ++ s.data.toList) w' ∧ Below B w w' ∧ Lib.OthersKept 5 (some b) w w' := by
  refine (Any.Builder_WriteString_k laysWS extraB B b (Lib.byteCells l) s w h (by rw [Lib.byteCells_length]; omega) hB).mono ?_
  rintro e w' ⟨rfl, h1, h2, h3⟩
  refine ⟨rfl, .inr ?_, h2, h3⟩
  rw [strCells_eq, ← Lib.byteCells_append] at h1
  exact h1
theorem stringF_calls (B b : Nat) (l : Str) (w : World) (h : BF B b l w) (hB : B ≤ w.heap.size) :
    Calls Tryz.prog 54 #[.pointer (some ⟨b, 0, none⟩)] w fun e w' => e = .returned (.string ⟨l.toArray⟩) ∧ Below B w w' := (Tryz.Builder_String_any_f B b l w h hB).mono fun _ _ h => ⟨h.1, h.2.2⟩
theorem app_by (a b : ByteArray) : (a ++ b).data.toList = a.data.toList ++ b.data.toList := by rw [ByteArray.data_append, Array.toList_append]
theorem app_size (a b : ByteArray) : (a ++ b).size = a.size + b.size := ByteArray.size_append
end Go.Proofs.Pw

namespace Go.Proofs.Pw
open Go.RowKit
open Go.Lib hiding intOf
def refSuf (s : Str) : Int := if looksSuf s then (if isSuf s then (sufNum s : Int) else -1) else 0
theorem looks_short {s : ByteArray} (h : s.size < 2) : looksSuf s.data.toList = false := by
  unfold looksSuf
  cases hp : hasPrefix s.data.toList [118] with
  | false => rfl
  | true =>
    have h0 := trimPrefix_byte s hp
    rw [sufD, h0, Bool.true_and]
    have : s.data.toList.drop 1 = [] := List.drop_eq_nil_of_le (by rw [← size_eq]; omega)
    rw [this]; rfl
theorem looks_byte {s : ByteArray} (h : 0 < s.size) (hb : s[0] ≠ 118) : looksSuf s.data.toList = false := by
  unfold looksSuf
  rw [hasPrefix_byte s h, decide_eq_false hb, Bool.false_and]
theorem looks_is {s : ByteArray} (h : 0 < s.size) (hb : s[0] = 118) : looksSuf s.data.toList = areDigits (s.extract 1 s.size).data.toList ∧ sufD s.data.toList = (s.extract 1 s.size).data.toList := by
  have hp : hasPrefix s.data.toList [118] = true := by rw [hasPrefix_byte s h, decide_eq_true hb]
  have h0 := trimPrefix_byte s hp
  unfold looksSuf
  rw [sufD, h0, hp, Bool.true_and, extract_to_end]
  exact ⟨rfl, rfl⟩
set_option maxHeartbeats 400000 in
theorem refSuffix_calls (s : ByteArray) (w : World) (hs : s.size ≤ 1000000000) :
    Calls Tryz.prog 202 #[.string s] w fun e w' => e = .returned (.int .i64 (refSuf s.data.toList)) ∧ w = w' := by
  by_cases h2 : s.size < 2
  · have HF : Hid (refSuf s.data.toList = 0) := Lib.hid (by unfold refSuf; rw [looks_short h2]; rfl)
    go_enter Tryz.func202, Tryz.ntmps202
    go_wp2_with fail
    go_ret
    rw [HF.out]
    exact ⟨rfl, rfl⟩
  · have h0 : 0 < s.size := by omega
    by_cases hb : s[0] = 118
    · have hb' : (s[0].toNat : Int) = 118 := by rw [hb]; rfl
      obtain ⟨hl, hd⟩ := looks_is h0 hb
      have hx : (s.extract 1 s.size).size ≤ 4000000000 := Nat.le_trans (extract_size_le s _ _) (by omega)
      have hR : refSuf s.data.toList = if areDigits (s.extract 1 s.size).data.toList then (if (numberOf (s.extract 1 s.size).data.toList).2 = 0 ∧ 2 ≤ (numberOf (s.extract 1 s.size).data.toList).1 then ((numberOf (s.extract 1 s.size).data.toList).1 : Int) else -1) else 0 := by
        unfold refSuf isSuf sufNum
        rw [hl, hd]
        cases areDigits (s.extract 1 s.size).data.toList with
        | false => rfl
        | true => simp only [Bool.true_and, decide_eq_true_eq, if_true]
      have HR := Lib.hid hR
      have hda := refDigits_calls (s.extract 1 s.size) w hx
      have hnu := refNumber_calls (s.extract 1 s.size) w hx
      clear hl hd hR hb
      generalize areDigits (s.extract 1 s.size).data.toList = D at HR hda
      generalize (numberOf (s.extract 1 s.size).data.toList).2 = E at HR hnu
      generalize (numberOf (s.extract 1 s.size).data.toList).1 = M at HR hnu
      cases D with
      | false =>
        go_enter Tryz.func202, Tryz.ntmps202
        go_wp2_with fail
        refine hda.mono ?_
        rintro e w' ⟨rfl, rfl⟩
        go_wp2_with fail
        go_ret
        rw [HR.out]
        exact ⟨rfl, rfl⟩
      | true =>
        by_cases hE : 0 < E
        · have hE' : (0 : Int) < (E : Int) := by omega
          have HF : Hid (refSuf s.data.toList = -1) := Lib.hid (by rw [HR.out, if_pos rfl, if_neg (by omega)])
          go_enter Tryz.func202, Tryz.ntmps202
          go_wp2_with fail
          refine hda.mono ?_
          rintro e w' ⟨rfl, rfl⟩
          go_wp2_with fail
          refine hnu.mono ?_
          rintro e w' ⟨rfl, rfl⟩
          go_wp2_with fail
          go_ret
          rw [HF.out]
          exact ⟨rfl, rfl⟩
        · obtain rfl : E = 0 := by omega
          by_cases hM : M < 2
          · have hM' : (M : Int) < 2 := by omega
            have HF : Hid (refSuf s.data.toList = -1) := Lib.hid (by rw [HR.out, if_pos rfl, if_neg (by omega)])
            go_enter Tryz.func202, Tryz.ntmps202
            go_wp2_with fail
            refine hda.mono ?_
            rintro e w' ⟨rfl, rfl⟩
            go_wp2_with fail
            refine hnu.mono ?_
            rintro e w' ⟨rfl, rfl⟩
            go_wp2_with fail
            go_ret
            rw [HF.out]
            exact ⟨rfl, rfl⟩
          · have hM' : ¬ (M : Int) < 2 := by omega
            have HF : Hid (refSuf s.data.toList = M) := Lib.hid (by rw [HR.out, if_pos rfl, if_pos (by omega)])
            go_enter Tryz.func202, Tryz.ntmps202
            go_wp2_with fail
            refine hda.mono ?_
            rintro e w' ⟨rfl, rfl⟩
            go_wp2_with fail
            refine hnu.mono ?_
            rintro e w' ⟨rfl, rfl⟩
            go_wp2_with fail
            go_ret
            rw [HF.out]
            exact ⟨rfl, rfl⟩
    · have HF : Hid (refSuf s.data.toList = 0) := Lib.hid (by unfold refSuf; rw [looks_byte h0 hb]; rfl)
      have hb' : ((s[0].toNat : Int) == 118) = false := byte_ne_int (c := 118) rfl hb
      clear hb
      go_enter Tryz.func202, Tryz.ntmps202
      go_wp2_with fail
      go_ret
      rw [HF.out]
      exact ⟨rfl, rfl⟩
theorem isElemByte_iff (c : UInt8) : isElemByte c = true ↔ (97 ≤ (c.toNat : Int) ∧ (c.toNat : Int) ≤ 122) ∨ (48 ≤ (c.toNat : Int) ∧ (c.toNat : Int) ≤ 57) ∨ (c.toNat : Int) = 46 ∨ (c.toNat : Int) = 45 ∨ (c.toNat : Int) = 95 := by
  unfold isElemByte isDig
  have e : ∀ d : UInt8, (c == d) = decide (c.toNat = d.toNat) := fun d => by
    rw [Bool.eq_iff_iff, beq_iff_eq, decide_eq_true_eq]
    exact ⟨fun h => by rw [h], fun h => UInt8.toNat_inj.1 h⟩
  rw [e, e, e]
  simp only [Bool.or_eq_true, decide_eq_true_eq, show (46 : UInt8).toNat = 46 from rfl, show (45 : UInt8).toNat = 45 from rfl, show (95 : UInt8).toNat = 95 from rfl]
  omega
theorem elem_classes (c : Int) :
    ((97 ≤ c ∧ c ≤ 122 ∧ 48 ≤ c ∧ ¬ c ≤ 57 ∧ (c == 46) = false) ∨ (¬ 97 ≤ c ∧ c ≤ 122 ∧ 48 ≤ c ∧ c ≤ 57 ∧ (c == 46) = false) ∨ c = 45 ∨ c = 95 ∨ c = 46) ∨
    (((c == 46) = false ∧ (c == 45) = false ∧ (c == 95) = false) ∧ ¬ ((97 ≤ c ∧ c ≤ 122) ∨ (48 ≤ c ∧ c ≤ 57)) ∧
      ((¬ 97 ≤ c ∧ c ≤ 122 ∧ ¬ 48 ≤ c ∧ c ≤ 57) ∨ (¬ 97 ≤ c ∧ c ≤ 122 ∧ 48 ≤ c ∧ ¬ c ≤ 57) ∨ (97 ≤ c ∧ ¬ c ≤ 122 ∧ 48 ≤ c ∧ ¬ c ≤ 57))) := by
  have e : ∀ d : Int, (c == d) = false ↔ c ≠ d := fun d => beq_eq_false_iff_ne
  simp only [e]
  omega
theorem elem_byte {s : ByteArray} {k : Nat} (h : k < s.size) (hb : isElemByte s[k] = false) : elemOk s.data.toList = false := by
  have : s.data.toList.all isElemByte = false := by
    rw [Bool.eq_false_iff]
    intro e
    have := List.all_eq_true.1 e _ (byte_mem s k h)
    rw [hb] at this
    cases this
  unfold elemOk
  rw [this]
  simp
theorem occ_dots {s : ByteArray} {k : Nat} : occAt s.data.toList dots k = true ↔ (s.extract k (k + 3)).data.toList = dots := by
  unfold occAt
  have e : (s.extract k (k + 3)).data.toList = (s.data.toList.drop k).take 3 := by rw [extract_data, Nat.add_sub_cancel_left]
  rw [List.isPrefixOf_iff_prefix, e]
  constructor
  · rintro ⟨t, ht⟩
    rw [← ht]; rfl
  · intro h
    exact ⟨(s.data.toList.drop k).drop 3, by rw [← h]; exact List.take_append_drop 3 _⟩
theorem elem_occ {s : ByteArray} {k : Nat} (hk : k ≤ s.size) (h : occAt s.data.toList dots k = true) : elemOk s.data.toList = false := by
  have : contains s.data.toList dots = true := by
    unfold contains
    apply decide_eq_true
    rcases Go.Lib.index_spec s.data.toList dots with ⟨_, h2⟩ | ⟨i, h1, _⟩
    · have := h2 k (by rw [← size_eq]; exact hk)
      rw [h] at this; cases this
    · omega
  unfold elemOk
  rw [this]
  simp
theorem elem_dot {s : Str} (h : s.all (· == 46) = true) : elemOk s = false := by unfold elemOk; rw [h]; simp
theorem elem_yes {s : Str} (h1 : s.all isElemByte = true) (h2 : s.all (· == 46) = false) (h3 : NoOcc s dots (s.length - 2)) : elemOk s = true := by
  have hc : contains s dots = false := by
    unfold contains
    apply decide_eq_false
    rw [index_past (by decide) h3 (by show s.length < s.length - 2 + 3; omega)]
    decide
  have he : s.isEmpty = false := by cases s with | nil => cases h2 | cons => rfl
  unfold elemOk
  rw [he, h1, h2, hc]
  rfl
theorem noOcc_step {s : ByteArray} {m : Nat} (h : NoOcc s.data.toList dots (m - 2)) (hno : 2 ≤ m → occAt s.data.toList dots (m - 2) = false) : NoOcc s.data.toList dots (m + 1 - 2) := by
  intro j hj
  by_cases e : j = m - 2
  · subst e
    exact hno (by omega)
  · exact h j (by omega)
end Go.Proofs.Pw
