/- Pk: walks and plain laws, joined: PathsOf GrMath MvsMath MvsMath2 UpMath. Conditions: at each theorem. -/
import Derived.Test.YtkfnhchlfojomaaGreatDoorPfa
import Derived.Test.YtkfnhchlfojomaaGreatDoorPfb
import Derived.Test.YtkfnhchlfojomaaGreatDoorPfc
import Derived.Test.YtkfnhchlfojomaaGreatDoorPfd
import Derived.Test.YtkfnhchlfojomaaGreatDoorPfe
import Derived.Test.YtkfnhchlfojomaaGreatDoorPff
import Derived.Test.YtkfnhchlfojomaaGreatDoorPfg
import Derived.Test.YtkfnhchlfojomaaGreatDoorPfh
import Derived.Test.YtkfnhchlfojomaaGreatDoorPfi
import Derived.Test.YtkfnhchlfojomaaGreatDoorPfj
import Derived.Test.YtkfnhchlfojomaaGreatDoorPfk
import Derived.Test.YtkfnhchlfojomaaGreatDoorPfl
import Derived.Test.YtkfnhchlfojomaaGreatDoorPfm
import Derived.Test.YtkfnhchlfojomaaGreatDoorPfn
import Derived.Test.YtkfnhchlfojomaaGreatDoorPfo
import Derived.Test.YtkfnhchlfojomaaGreatDoorPfp
import Derived.Test.YtkfnhchlfojomaaGreatDoorPfq
import Derived.Test.YtkfnhchlfojomaaGreatDoorPfr
import Derived.Test.YtkfnhchlfojomaaGreatDoorPfs
import Derived.Test.YtkfnhchlfojomaaGreatDoorPft
import Derived.Test.YtkfnhchlfojomaaGreatDoorPfu
import Derived.Test.YtkfnhchlfojomaaGreatDoorPfv
import Derived.Test.YtkfnhchlfojomaaGreatDoorPfw
import Derived.Test.YtkfnhchlfojomaaGreatDoorPfx
import Derived.Test.YtkfnhchlfojomaaGreatDoorPfy
import Derived.Test.YtkfnhchlfojomaaGreatDoorPfz
import Derived.Test.YtkfnhchlfojomaaGreatDoorPfza
import Derived.Test.YtkfnhchlfojomaaGreatDoorPfzb
import Derived.Test.YtkfnhchlfojomaaGreatDoorPfzc
import Derived.Test.YtkfnhchlfojomaaGreatDoorPfze
import Derived.Test.YtkfnhchlfojomaaGreatDoorPka
import Derived.Test.YtkfnhchlfojomaaGreatDoorPkb

namespace Go.Proofs.Pw
open Go.RowKit
open Go.Lib hiding intOf
def pathsL (l : List Str) : List Str := insAll compareBytes l
theorem pathsL_snoc (l : List Str) (s : Str) : pathsL (l ++ [s]) = insU compareBytes s (pathsL l) := insAll_snoc _ _ _
theorem pathsL_mem (l : List Str) (x : Str) : x ∈ pathsL l ↔ x ∈ l := insAll_mem _ _ _
theorem pathsL_rises (l : List Str) : Rises compareBytes (pathsL l) := insAll_rises compareBytes_ord (fun _ => True) (fun _ _ _ _ e => compareBytes_zero e) _ (fun _ _ => trivial)
theorem insAt_lessF {f : Str → Str → Int} {s : Str} : ∀ {l : List Str} {j : Nat} {x : Str}, j < insAt f s l → l[j]? = some x → f x s < 0
  | [], j, x, h, _ => absurd h (Nat.not_lt_zero _)
  | a :: r, j, x, h, hx => by
    unfold insAt at h
    split at h
    · rename_i hlt
      cases j with
      | zero => simp at hx; subst hx; exact hlt
      | succ j => exact insAt_lessF (l := r) (j := j) (by omega) (by simpa using hx)
    · exact absurd h (Nat.not_lt_zero _)
theorem insAt_stopF {f : Str → Str → Int} {s : Str} : ∀ {l : List Str} {x : Str}, l[insAt f s l]? = some x → ¬ f x s < 0
  | [], x, h => by simp at h
  | a :: r, x, h => by
    unfold insAt at h
    split at h
    · exact insAt_stopF (l := r) (by simpa using h)
    · rename_i hn
      simp at h; subst h; exact hn
theorem enF_paths (n : Nat) (PE VE : Nat → ByteArray) (R : Nat → List Md) (K : Nat → List Str) (B : Nat → Bool) : (enF n PE VE R K B).map (·.md.1) = lstF n PE := by
  apply List.ext_getElem?
  intro i
  by_cases hi : i < n
  · rw [List.getElem?_map, enF_get _ _ _ _ _ _ i hi, lstF_get _ _ i hi]; rfl
  · rw [List.getElem?_eq_none (by rw [List.length_map, enF_length]; omega), List.getElem?_eq_none (by rw [lstF_length]; omega)]
set_option maxHeartbeats 2000000 in
set_option maxRecDepth 100000 in
theorem pathsOf_in (a : Option Addr) (n cap : Nat) (PE VE : Nat → ByteArray) (R : Nat → List Md) (K : Nat → List Str) (B : Nat → Bool) (Rv Kv : Nat → Value) (w : World) (h : EntsIn w a n cap PE VE R K B Rv Kv) (hs : ShortI (enF n PE VE R K B)) :
    Calls Tryz.prog 122 #[.slice a n cap] w fun e w' => (∃ v', e = .returned v' ∧ StrsAt w' v' (pathsL ((enF n PE VE R K B).map (·.md.1)))) ∧ Below w.heap.size w w' := by
  obtain ⟨i0, hi, hz0, hz1, hz2⟩ := info_parts Tryz.infoString
  rw [enF_paths]
  have hn : n ≤ 1000000 := by have := hs.len; rwa [enF_length] at this
  have hLs : ∀ j, j < n → (PE j).size ≤ 1000000000 := fun j hj => by have := (hs.at_ hj).2.1; omega
  have HC := Lib.hid (fun j hj => by obtain ⟨b, o, e, c⟩ := h.at_ j hj; exact (⟨b, o, e, c.c0⟩ : ∃ b o, a = some ⟨b, o, none⟩ ∧ w.cell? ⟨b, o + j * 5, none⟩ = some (.string (PE j))))
  clear h hs
  go_enter Tryz.func122, Tryz.ntmps122
  go_wp2_with fail
  go_loopw [3, 4] (fun o i wr => ∃ (k : Nat) (P : List ByteArray), k ≤ n ∧ i = .int .i64 k ∧ AccAt wr w.heap.size o P ∧ P.length ≤ k ∧ (∀ x ∈ P, x.size ≤ 1000000000) ∧ Below w.heap.size w wr ∧ Hid (pathsL ((lstF n PE).take k) = strTs P)) (fun _ i _ => n - (intOf i).toNat)
  case atStart => exact ⟨0, [], Nat.zero_le _, rfl, .inl ⟨rfl, rfl⟩, Nat.le_refl _, by simp, Below.refl _ _, Lib.hid rfl⟩
  case round =>
    obtain ⟨k, P, hk, rfl, hacc, hPk, hPs, hB, HV⟩ := hrel
    by_cases hlt : k < n
    · obtain ⟨b1, o1, rfl, hck⟩ := HC.out k hlt
      have c1 := Below.cell_some hB hck
      clear hck
      have hsk := hLs k hlt
      have hkn : (k : Int) < (n : Int) := by omega
      have hstep : pathsL ((lstF n PE).take (k + 1)) = insU compareBytes (PE k).data.toList (strTs P) := by
        rw [List.take_add_one, lstF_get n PE k hlt, ← HV.out]
        exact pathsL_snoc _ _
      have hle := insAt_le compareBytes (PE k).data.toList (strTs P)
      rw [strTs_length] at hle
      have hless : ∀ j x, j < insAt compareBytes (PE k).data.toList (strTs P) → (strTs P)[j]? = some x → compareBytes x (PE k).data.toList < 0 := fun j x h1 h2 => insAt_lessF h1 h2
      have hstop : ∀ x, (strTs P)[insAt compareBytes (PE k).data.toList (strTs P)]? = some x → ¬ compareBytes x (PE k).data.toList < 0 := fun x h => insAt_stopF h
      have hins := insU_at compareBytes (PE k).data.toList (strTs P)
      rw [← hstep] at hins
      generalize insAt compareBytes (PE k).data.toList (strTs P) = q at hle hless hstop hins
      replace hless := Lib.hid hless
      replace hstop := Lib.hid hstop
      replace hins := Lib.hid hins
      have HPS := Lib.hid hPs
      clear hstep hPs
      generalize PE k = s at c1 hsk hless hstop hins ⊢
      go_wp2_with fail
      generalize hwq : wr = w1 at *
      clear hwq
      go_loopw [5] (fun a w2 => ∃ j : Nat, j ≤ q ∧ a = .int .i64 j ∧ Below w1.heap.size w1 w2) (fun a _ => P.length + 1 - (intOf a).toNat)
      case atStart => exact ⟨0, Nat.zero_le _, rfl, Below.refl _ _⟩
      case round =>
        obtain ⟨j, hj, rfl, hb⟩ := hrel
        have hB1 := hb
        replace hB := below_step hB hb
        replace hacc := hacc.below hb
        replace c1 := Below.cell_some hb c1
        clear hb
        by_cases hjl : j < P.length
        · have hjl' : (j : Int) < (P.length : Int) := by omega
          have hget := strTs_get hjl
          obtain ⟨g, c, hg1, rfl, hg3, hg4, hg5, hg6, hg7⟩ := id (hacc.resolve_left (fun h => by rw [h.1] at hjl; exact absurd hjl (Nat.not_lt_zero _)))
          have c2 := hg7 j hjl
          by_cases hlo : j < q
          · have hneg := hless.out _ _ hlo hget
            have hbl : Op.bytesLess (P.getD j ByteArray.empty).toList s.toList = true := by rw [toList_data, toList_data, bytesLess_iff]; exact decide_eq_true hneg
            clear hneg hget hg7
            generalize P.getD j ByteArray.empty = x at c2 hbl
            go_wp2_with fail
            have kqc1 := fun d os => cell_patch (d := d) (os := os) c1
            have kqc2 := fun d os => cell_patch (d := d) (os := os) c2
            refine wp_region_quiet_patch (by kernel_rfl) (by kernel_rfl) ?_
            repeat (go_big_quiet_step (fail))
            refine wpQuiet_nil ?_
            intro _ hw'
            obtain ⟨⟨dq, osq⟩, hw''⟩ := hw'
            subst hw''
            clear kqc1 kqc2
            have hb := below_patch wr dq osq
            replace hB := below_step hB hb
            replace hacc := hacc.below hb
            replace c1 := Below.cell_some hb c1
            replace hB1 := below_step hB1 hb
            clear hb
            generalize patch wr dq osq = w2 at hB hacc c1 hB1 ⊢
            clear c2
            go_wp2_with fail
            go_roundw
            case rel => exact ⟨j + 1, by omega, by go_num, hB1⟩
            case measure => simp [intOf]; omega
          · obtain rfl : j = q := by omega
            have hnn := hstop.out _ hget
            generalize hxd : P.getD j ByteArray.empty = x at c2 hnn hget
            have hbl : Op.bytesLess x.toList s.toList = false := by rw [toList_data, toList_data, bytesLess_iff]; exact decide_eq_false (by omega)
            replace hget := Lib.hid hget
            replace hxd := Lib.hid hxd
            clear hnn
            go_wp2_with fail
            have kqc1 := fun d os => cell_patch (d := d) (os := os) c1
            have kqc2 := fun d os => cell_patch (d := d) (os := os) c2
            refine wp_region_quiet_patch (by kernel_rfl) (by kernel_rfl) ?_
            repeat (go_big_quiet_step (fail))
            refine wpQuiet_nil ?_
            intro _ hw'
            obtain ⟨⟨dq, osq⟩, hw''⟩ := hw'
            subst hw''
            clear kqc1 kqc2
            have hb := below_patch wr dq osq
            replace hB := below_step hB hb
            replace hacc := hacc.below hb
            replace c1 := Below.cell_some hb c1
            replace c2 := Below.cell_some hb c2
            replace hB1 := below_step hB1 hb
            clear hb
            generalize patch wr dq osq = w2 at hB hacc c1 c2 hB1 ⊢
            by_cases hxs : x = s
            · subst hxs
              have HN : Hid (pathsL ((lstF n PE).take (k + 1)) = strTs P) := Lib.hid (by rw [hins.out, if_pos hget.out])
              go_wp2_with fail
              go_region
              all_goals
                go_wp2_with fail
                go_roundw
                case rel => exact ⟨k + 1, P, by omega, by go_num, hacc.below ((Below.refl _ _).drew), by omega, HPS.out, hB.drew, HN⟩
                case measure => simp [intOf]; omega
            · have hbe : (x.toList == s.toList) = false := by rw [toList_data, toList_data]; exact beq_eq_false_iff_ne.2 (fun e => hxs (bytes_ext.1 e))
              have HN : Hid (pathsL ((lstF n PE).take (k + 1)) = strTs (P.take j ++ [s] ++ P.drop j)) := Lib.hid (ins_list (by rw [hget.out]; exact fun e => hxs (bytes_ext.1 (Option.some.inj e))) hins.out)
              obtain ⟨_, _, _, e1, _, _, _, _, hg7⟩ := id (hacc.resolve_left (fun h => by rw [h.1] at hjl; exact absurd hjl (Nat.not_lt_zero _)))
              injection e1 with e1 e2 e3
              injection e1 with e1
              injection e1 with e1
              subst e1 e3
              go_wp2_with fail
              go_region
              all_goals
                have hbd := hB.drew
                have HPS' := hB
                have hget' := hB
                have cD : w2.drew.cell? ⟨b1, o1 + k * 5, none⟩ = some (.string s) := c1
                have gD : ∀ j, j < P.length → w2.drew.cell? ⟨g, j, none⟩ = some (.string (P.getD j ByteArray.empty)) := hg7
                have BD : Below w.heap.size w w2.drew := hbd
                generalize w2.drew = wz at cD gD BD ⊢
                clear hB hB1 hacc c1 hg7 HPS' hget'
                have hH := BD.size
                have GD := Lib.hid gD
                clear gD
                go_wp2_with (at_builtin; first
                  | (refine wpList_append_own _ rfl _ _ 35 rfl wz.heap.size 9 i0 (.string ⟨#[]⟩) 1 16 Tryz.underlying35 hi hz0 hz1 hz2 rfl (by decide) _ _ _ rfl (World.ownsRow_nil _ _ _ _) ⟨g, 0, none⟩ j c (strVs ((P.drop 0).take j)) rfl (by rw [strVs_length]; simp; omega) (acc_cells GD.out 0 j (by omega)) strVs_one (by unfold maxLen; omega) (by omega) (Nat.le_refl _) ?_; intro v3 w3 hown3 hgrow3 hnil3; have hb3 := (Below.refl wz.heap.size wz).grown hgrow3 (Nat.le_refl _) (fun k h => by cases h); replace cD := Below.cell_some hb3 cD)
                  | (refine wpList_append_own _ rfl _ _ 35 rfl wz.heap.size 9 i0 (.string ⟨#[]⟩) 1 16 Tryz.underlying35 hi hz0 hz1 hz2 rfl (by decide) _ _ _ rfl (hown3.alloc _) ⟨w3.heap.size, 0, none⟩ 1 1 [.string s] rfl rfl (cell_one_new _ _ _) (fun x hx => by simp at hx; subst hx; rfl) (by unfold maxLen; omega) (by omega) (by have := hb3.size; simp; omega) ?_; intro v4 w4 hown4 hgrow4 hnil4; have hb4 := (hb3.alloc hb3.size _).grown hgrow4 (by have := hb3.size; simp; omega) (fun q hq => (hown3.lt q hq).1))
                  | (refine wpList_append_own _ rfl _ _ 35 rfl wz.heap.size 9 i0 (.string ⟨#[]⟩) 1 16 Tryz.underlying35 hi hz0 hz1 hz2 rfl (by decide) _ _ _ rfl hown4 ⟨g, j, none⟩ (P.length - j) (c - j) (strVs ((P.drop j).take (P.length - j))) rfl (by rw [strVs_length, List.length_take, List.length_drop]; omega) (acc_cells (fun i hi => Below.cell_some hb4 (GD.out i hi)) j (P.length - j) (by omega)) strVs_one (by unfold maxLen; omega) (by omega) hb4.size ?_; intro v5 w5 hown5 hgrow5 hnil5; have hb5 := hb4.grown hgrow5 hb4.size (fun q hq => (hown4.lt q hq).1)))
                have hBw := BD.trans (hb5.mono hH)
                have e1 : 0 + j + 1 + (P.length - j) = (P.take j ++ [s] ++ P.drop j).length := by simp; omega
                have e2 : [] ++ strVs ((P.drop 0).take j) ++ [.string s] ++ strVs ((P.drop j).take (P.length - j)) = strVs (P.take j ++ [s] ++ P.drop j) := by
                  rw [List.take_of_length_le (l := P.drop j) (by rw [List.length_drop]; exact Nat.le_refl _)]
                  simp [strVs]
                rw [e1, e2] at hown5
                have hacc5 := (accAt_own hown5 (by simp)).mono hH
                go_roundw
                case rel => exact ⟨k + 1, P.take j ++ [s] ++ P.drop j, by omega, by go_num, hacc5, by simp; omega, fun y hy => by
                  simp only [List.mem_append, List.mem_singleton] at hy
                  rcases hy with (hy | rfl) | hy
                  · exact HPS.out y (List.mem_of_mem_take hy)
                  · exact hsk
                  · exact HPS.out y (List.mem_of_mem_drop hy), hBw, HN⟩
                case measure => simp [intOf]; omega
        · have hjP : j = P.length := by omega
          obtain rfl : j = q := by omega
          have hjl' : ¬ (j : Int) < (P.length : Int) := by omega
          have hnone : (strTs P)[j]? ≠ some s.data.toList := by rw [List.getElem?_eq_none (by rw [strTs_length]; omega)]; intro h; cases h
          have HN : Hid (pathsL ((lstF n PE).take (k + 1)) = strTs (P.take j ++ [s] ++ P.drop j)) := Lib.hid (ins_list hnone hins.out)
          clear hnone
          rcases id hacc with ⟨rfl, rfl⟩ | ⟨g, c, hg1, rfl, hg3, hg4, hg5, hg6, hg7⟩
          · obtain rfl : j = 0 := hjP
            have hn0 : ∀ W ty, (Builtin.append_ #[35, 35] ty #[.slice none 0 0, .slice none 0 0]).run Tryz.prog W = .ok (.slice none 0 0) W := fun W ty => run_append_owned_none W 0 35 ty 9 i0 1 Tryz.underlying35 hi (.slice none 0 0) 0 [] (World.ownsRow_nil _ _ _ _)
            have HN1 : Hid (pathsL ((lstF n PE).take (k + 1)) = strTs [s]) := HN
            clear hjl hjl' hj HN hle hins hless hstop hPk
            go_wp2_with fail
            go_region
            all_goals
              have cD : wr.drew.cell? ⟨b1, o1 + k * 5, none⟩ = some (.string s) := c1
              have BD : Below w.heap.size w wr.drew := hB.drew
              generalize wr.drew = wz at cD BD ⊢
              clear hB hB1 hacc c1
              have hH := BD.size
              go_wp2_with (at_builtin; first
                | (refine wpList_append_own _ rfl _ _ 35 rfl wz.heap.size 9 i0 (.string ⟨#[]⟩) 1 16 Tryz.underlying35 hi hz0 hz1 hz2 rfl (by decide) _ _ _ rfl ((World.ownsRow_nil wz wz.heap.size 9 1).alloc _) ⟨wz.heap.size, 0, none⟩ 1 1 [.string s] rfl rfl (cell_one_new _ _ _) (fun x hx => by simp at hx; subst hx; rfl) (by unfold maxLen; omega) (by omega) (by simp) ?_; intro v4 w4 hown4 hgrow4 hnil4; have hb4 := ((Below.refl wz.heap.size wz).alloc (Nat.le_refl _) _).grown hgrow4 (by simp) (fun k h => by cases h); have hn4 := fun ty => run_append_owned_none w4 wz.heap.size 35 ty 9 i0 1 Tryz.underlying35 hi v4 _ _ hown4; replace hn4 := Lib.hid hn4)
                | (refine Lib.wpList_append_run _ rfl _ _ _ _ rfl v4 (.slice none 0 0) rfl rfl v4 w4 (hn4.out _) ?_))
              have hBw := BD.trans (hb4.mono hH)
              have hacc5 := (accAt_own (l := [s]) hown4 (by simp)).mono hH
              go_roundw
              case rel => exact ⟨k + 1, [s], by omega, by go_num, hacc5, by simp, fun y hy => (by rw [List.mem_singleton.1 hy]; exact hsk), hBw, HN1⟩
              case measure => simp [intOf]; omega
          · clear hg7
            replace hjP := Lib.hid hjP
            go_wp2_with fail
            go_region
            all_goals
              obtain ⟨_, _, _, e1, _, _, _, _, hg7⟩ := id (hacc.resolve_left (fun h => hg1 h.1))
              injection e1 with e1 e2 e3
              injection e1 with e1
              injection e1 with e1
              subst e1 e3
              have hbd := hB.drew
              have HPS' := hB
              have hget' := hB
              by_cases hcq : j = c
              · subst hcq
                have cD : wr.drew.cell? ⟨b1, o1 + k * 5, none⟩ = some (.string s) := c1
                have gD : ∀ j, j < P.length → wr.drew.cell? ⟨g, j, none⟩ = some (.string (P.getD j ByteArray.empty)) := hg7
                have BD : Below w.heap.size w wr.drew := hbd
                generalize wr.drew = wz at cD gD BD ⊢
                clear hB hB1 hacc c1 hg7 HPS' hget'
                have hH := BD.size
                have GD := Lib.hid gD
                clear gD
                go_wp2_with (at_builtin; first
                  | (refine wpList_append_own _ rfl _ _ 35 rfl wz.heap.size 9 i0 (.string ⟨#[]⟩) 1 16 Tryz.underlying35 hi hz0 hz1 hz2 rfl (by decide) _ _ _ rfl (World.ownsRow_nil _ _ _ _) ⟨g, 0, none⟩ j j (strVs ((P.drop 0).take j)) rfl (by rw [strVs_length]; simp; omega) (acc_cells GD.out 0 j (by omega)) strVs_one (by unfold maxLen; omega) (by omega) (Nat.le_refl _) ?_; intro v3 w3 hown3 hgrow3 hnil3; have hb3 := (Below.refl wz.heap.size wz).grown hgrow3 (Nat.le_refl _) (fun k h => by cases h); replace cD := Below.cell_some hb3 cD)
                  | (refine wpList_append_own _ rfl _ _ 35 rfl wz.heap.size 9 i0 (.string ⟨#[]⟩) 1 16 Tryz.underlying35 hi hz0 hz1 hz2 rfl (by decide) _ _ _ rfl (hown3.alloc _) ⟨w3.heap.size, 0, none⟩ 1 1 [.string s] rfl rfl (cell_one_new _ _ _) (fun x hx => by simp at hx; subst hx; rfl) (by unfold maxLen; omega) (by omega) (by have := hb3.size; simp; omega) ?_; intro v4 w4 hown4 hgrow4 hnil4; have hb4 := (hb3.alloc hb3.size _).grown hgrow4 (by have := hb3.size; simp; omega) (fun q hq => (hown3.lt q hq).1))
                  | (refine wpList_append_own _ rfl _ _ 35 rfl wz.heap.size 9 i0 (.string ⟨#[]⟩) 1 16 Tryz.underlying35 hi hz0 hz1 hz2 rfl (by decide) _ _ _ rfl hown4 ⟨g, 0, none⟩ 0 0 (strVs ((P.drop j).take (P.length - j))) rfl (by rw [strVs_length, List.length_take, List.length_drop]; omega) ((fun i u h => by have hl := (strVs_get h).1; have hj0 := hjP.out; rw [List.length_take, List.length_drop] at hl; omega)) strVs_one (by unfold maxLen; omega) (by omega) hb4.size ?_; intro v5 w5 hown5 hgrow5 hnil5; have hb5 := hb4.grown hgrow5 hb4.size (fun q hq => (hown4.lt q hq).1)))
                have hBw := BD.trans (hb5.mono hH)
                have e1 : 0 + j + 1 + 0 = (P.take j ++ [s] ++ P.drop j).length := by simp; omega
                have e2 : [] ++ strVs ((P.drop 0).take j) ++ [.string s] ++ strVs ((P.drop j).take (P.length - j)) = strVs (P.take j ++ [s] ++ P.drop j) := by
                  rw [List.take_of_length_le (l := P.drop j) (by rw [List.length_drop]; exact Nat.le_refl _)]
                  simp [strVs]
                rw [e1, e2] at hown5
                have hacc5 := (accAt_own hown5 (by simp)).mono hH
                go_roundw
                case rel => exact ⟨k + 1, P.take j ++ [s] ++ P.drop j, by omega, by go_num, hacc5, by simp; omega, fun y hy => by
                  simp only [List.mem_append, List.mem_singleton] at hy
                  rcases hy with (hy | rfl) | hy
                  · exact HPS.out y (List.mem_of_mem_take hy)
                  · exact hsk
                  · exact HPS.out y (List.mem_of_mem_drop hy), hBw, HN⟩
                case measure => simp [intOf]; omega
              · have hcq2 : ¬ c = j := fun e => hcq e.symm
                have cD : wr.drew.cell? ⟨b1, o1 + k * 5, none⟩ = some (.string s) := c1
                have gD : ∀ j, j < P.length → wr.drew.cell? ⟨g, j, none⟩ = some (.string (P.getD j ByteArray.empty)) := hg7
                have BD : Below w.heap.size w wr.drew := hbd
                generalize wr.drew = wz at cD gD BD ⊢
                clear hB hB1 hacc c1 hg7 HPS' hget'
                have hH := BD.size
                have GD := Lib.hid gD
                clear gD
                go_wp2_with (at_builtin; first
                  | (refine wpList_append_own _ rfl _ _ 35 rfl wz.heap.size 9 i0 (.string ⟨#[]⟩) 1 16 Tryz.underlying35 hi hz0 hz1 hz2 rfl (by decide) _ _ _ rfl (World.ownsRow_nil _ _ _ _) ⟨g, 0, none⟩ j c (strVs ((P.drop 0).take j)) rfl (by rw [strVs_length]; simp; omega) (acc_cells GD.out 0 j (by omega)) strVs_one (by unfold maxLen; omega) (by omega) (Nat.le_refl _) ?_; intro v3 w3 hown3 hgrow3 hnil3; have hb3 := (Below.refl wz.heap.size wz).grown hgrow3 (Nat.le_refl _) (fun k h => by cases h); replace cD := Below.cell_some hb3 cD)
                  | (refine wpList_append_own _ rfl _ _ 35 rfl wz.heap.size 9 i0 (.string ⟨#[]⟩) 1 16 Tryz.underlying35 hi hz0 hz1 hz2 rfl (by decide) _ _ _ rfl (hown3.alloc _) ⟨w3.heap.size, 0, none⟩ 1 1 [.string s] rfl rfl (cell_one_new _ _ _) (fun x hx => by simp at hx; subst hx; rfl) (by unfold maxLen; omega) (by omega) (by have := hb3.size; simp; omega) ?_; intro v4 w4 hown4 hgrow4 hnil4; have hb4 := (hb3.alloc hb3.size _).grown hgrow4 (by have := hb3.size; simp; omega) (fun q hq => (hown3.lt q hq).1))
                  | (refine wpList_append_own _ rfl _ _ 35 rfl wz.heap.size 9 i0 (.string ⟨#[]⟩) 1 16 Tryz.underlying35 hi hz0 hz1 hz2 rfl (by decide) _ _ _ rfl hown4 ⟨g, j, none⟩ (P.length - j) (c - j) (strVs ((P.drop j).take (P.length - j))) rfl (by rw [strVs_length, List.length_take, List.length_drop]; omega) (acc_cells (fun i hi => Below.cell_some hb4 (GD.out i hi)) j (P.length - j) (by omega)) strVs_one (by unfold maxLen; omega) (by omega) hb4.size ?_; intro v5 w5 hown5 hgrow5 hnil5; have hb5 := hb4.grown hgrow5 hb4.size (fun q hq => (hown4.lt q hq).1)))
                have hBw := BD.trans (hb5.mono hH)
                have e1 : 0 + j + 1 + (P.length - j) = (P.take j ++ [s] ++ P.drop j).length := by simp; omega
                have e2 : [] ++ strVs ((P.drop 0).take j) ++ [.string s] ++ strVs ((P.drop j).take (P.length - j)) = strVs (P.take j ++ [s] ++ P.drop j) := by
                  rw [List.take_of_length_le (l := P.drop j) (by rw [List.length_drop]; exact Nat.le_refl _)]
                  simp [strVs]
                rw [e1, e2] at hown5
                have hacc5 := (accAt_own hown5 (by simp)).mono hH
                go_roundw
                case rel => exact ⟨k + 1, P.take j ++ [s] ++ P.drop j, by omega, by go_num, hacc5, by simp; omega, fun y hy => by
                  simp only [List.mem_append, List.mem_singleton] at hy
                  rcases hy with (hy | rfl) | hy
                  · exact HPS.out y (List.mem_of_mem_take hy)
                  · exact hsk
                  · exact HPS.out y (List.mem_of_mem_drop hy), hBw, HN⟩
                case measure => simp [intOf]; omega
    · obtain rfl : k = n := by omega
      have HV2 : Hid (pathsL (lstF k PE) = strTs P) := Lib.hid (by rw [← HV.out, List.take_of_length_le (by rw [lstF_length]; exact Nat.le_refl _)])
      have hSo := hacc.strs
      clear HV
      go_wp2_with fail
      go_ret
      rw [HV2.out]
      exact ⟨⟨_, rfl, hSo⟩, hB⟩
end Go.Proofs.Pw

namespace Go.Proofs.Pw
open Go.Lib hiding intOf
def rootE (l : List En) (roots : List Md) (i : Nat) : Nat := if findE l (mdAt roots i) < 0 then 5 else 0
def rootsErr (l : List En) (roots : List Md) : Nat × Int := firstE (rootE l roots) roots.length
def startErr (l : List En) (roots : List Md) : Nat × Int := orE (idxErr l) (rootsErr l roots)
theorem rootsErr_zero {l : List En} {roots : List Md} : (rootsErr l roots).1 = 0 ↔ ∀ m ∈ roots, ∃ e ∈ l, e.md = m := by
  constructor
  · intro h m hm
    obtain ⟨i, hi⟩ := List.getElem?_of_mem hm
    have hl := (List.getElem?_eq_some_iff.1 hi).1
    have h1 := firstE_zero h i hl
    unfold rootE at h1
    rw [mdAt_get hl] at hi
    rw [Option.some.inj hi] at h1
    by_cases h2 : findE l m < 0
    · rw [if_pos h2] at h1; cases h1
    · obtain ⟨k, _, hk, e⟩ := findE_nat h2
      exact ⟨_, enAt_mem hk, e⟩
  · intro h
    unfold rootsErr
    rw [firstE_none fun i hi => ?_]
    unfold rootE
    rw [if_neg]
    rw [findE_lt]
    obtain ⟨e, he, h1⟩ := h _ (mdAt_mem hi)
    exact fun h2 => h2 e he h1
theorem startErr_at {l : List En} {roots : List Md} (h : (startErr l roots).1 = 0) : startErr l roots = (0, -1) := by
  unfold startErr at h ⊢
  rw [orE_zero] at h
  unfold orE
  rw [if_neg (by simp [h.1])]
  unfold rootsErr at h ⊢
  exact firstE_none (firstE_zero h.2)
end Go.Proofs.Pw

namespace Go.Proofs.Pw
open Go.Lib hiding intOf
def grow1 (out : List Md) (m : Md) : List Md := if out.getLast?.map (·.1) = some m.1 then out.dropLast ++ [m] else out ++ [m]
def greatest (l : List Md) : List Md := l.foldl grow1 []
def Climbs (l : List Md) : Prop := l.Pairwise fun a b => modCmp a b ≤ 0
theorem climbs_of_rises {l : List Md} (h : Rises modCmp l) : Climbs l := h.imp fun {a b} h => by omega
theorem modCmp_path {a b : Md} (h : modCmp a b ≤ 0) : compareBytes a.1 b.1 < 0 ∨ (a.1 = b.1 ∧ verCmp a.2 b.2 ≤ 0) := by
  unfold modCmp at h
  rw [orI_le] at h
  rcases h with h | ⟨h1, h2⟩
  · exact .inl h
  · exact .inr ⟨compareBytes_zero h1, h2⟩
theorem path_self (p : Str) : ¬ compareBytes p p < 0 := by rw [compareBytes_self]; decide
theorem last_some {α : Type} {l : List α} {y : α} (h : l.getLast? = some y) : ∃ hne : l ≠ [], l.getLast hne = y := by
  have hne : l ≠ [] := fun e => by rw [e] at h; cases h
  rw [List.getLast?_eq_some_getLast hne] at h
  exact ⟨hne, Option.some.inj h⟩
structure Great (l out : List Md) : Prop where
  rise : out.Pairwise fun a b => compareBytes a.1 b.1 < 0
  sub : ∀ m ∈ out, m ∈ l
  over : ∀ m ∈ l, ∃ x ∈ out, x.1 = m.1 ∧ verCmp m.2 x.2 ≤ 0
theorem great_nil : Great [] [] := ⟨by simp, by simp, by simp⟩
theorem great_snoc {l out : List Md} {m : Md} (h : Great l out) (hc : Climbs (l ++ [m])) : Great (l ++ [m]) (grow1 out m) := by
  have hle : ∀ x ∈ l, modCmp x m ≤ 0 := fun x hx => (List.pairwise_append.1 hc).2.2 x hx m (by simp)
  have hself : verCmp m.2 m.2 ≤ 0 := by rw [verCmp_ord.self]; decide
  unfold grow1
  by_cases hl : out.getLast?.map (·.1) = some m.1
  · rw [if_pos hl]
    obtain ⟨y, hy, e⟩ : ∃ y, out.getLast? = some y ∧ y.1 = m.1 := by
      cases h1 : out.getLast? with
      | none => rw [h1] at hl; cases hl
      | some y => rw [h1] at hl; exact ⟨y, rfl, by simpa using hl⟩
    obtain ⟨hne, hlast⟩ := last_some hy
    have hout : out = out.dropLast ++ [y] := by rw [← hlast]; exact (List.dropLast_concat_getLast hne).symm
    have hp := h.rise
    rw [hout, List.pairwise_append] at hp
    refine ⟨?_, fun x hx => ?_, fun x hx => ?_⟩
    · rw [List.pairwise_append]
      refine ⟨hp.1, by simp, fun a ha b hb => ?_⟩
      simp at hb
      subst hb
      rw [← e]
      exact hp.2.2 a ha y (by simp)
    · rcases List.mem_append.1 hx with h1 | h1
      · exact List.mem_append.2 (.inl (h.sub x (List.dropLast_subset _ h1)))
      · exact List.mem_append.2 (.inr h1)
    · rcases List.mem_append.1 hx with h1 | h1
      · obtain ⟨z, hz, e1, e2⟩ := h.over x h1
        rw [hout] at hz
        rcases List.mem_append.1 hz with h2 | h2
        · exact ⟨z, List.mem_append.2 (.inl h2), e1, e2⟩
        · simp at h2
          subst h2
          refine ⟨m, by simp, by rw [← e, e1], ?_⟩
          rcases modCmp_path (hle x h1) with h3 | h3
          · rw [← e1, e] at h3
            exact absurd h3 (path_self _)
          · exact h3.2
      · simp at h1
        subst h1
        exact ⟨x, by simp, rfl, hself⟩
  · rw [if_neg hl]
    have hlt : ∀ a ∈ out, compareBytes a.1 m.1 < 0 := by
      intro a ha
      rcases modCmp_path (hle a (h.sub a ha)) with h1 | ⟨h1, _⟩
      · exact h1
      · exfalso
        obtain ⟨y, hy⟩ : ∃ y, out.getLast? = some y := by
          cases h2 : out.getLast? with
          | none => rw [List.getLast?_eq_none_iff] at h2; subst h2; simp at ha
          | some y => exact ⟨y, rfl⟩
        obtain ⟨hne, hlast⟩ := last_some hy
        have hout : out = out.dropLast ++ [y] := by rw [← hlast]; exact (List.dropLast_concat_getLast hne).symm
        have hym : y.1 ≠ m.1 := fun e => hl (by rw [hy]; simp [e])
        have hyl : y ∈ l := h.sub y (by rw [hout]; simp)
        rw [hout] at ha
        rcases List.mem_append.1 ha with h2 | h2
        · have hp := h.rise
          rw [hout, List.pairwise_append] at hp
          have h3 := hp.2.2 a h2 y (by simp)
          rcases modCmp_path (hle y hyl) with h4 | h4
          · rw [h1] at h3
            have := (compareBytes_ord.anti _ _).1 h3
            omega
          · exact hym h4.1
        · simp at h2
          subst h2
          exact hym h1
    refine ⟨?_, fun x hx => ?_, fun x hx => ?_⟩
    · rw [List.pairwise_append]
      exact ⟨h.rise, by simp, fun a ha b hb => by simp at hb; subst hb; exact hlt a ha⟩
    · rcases List.mem_append.1 hx with h1 | h1
      · exact List.mem_append.2 (.inl (h.sub x h1))
      · exact List.mem_append.2 (.inr h1)
    · rcases List.mem_append.1 hx with h1 | h1
      · obtain ⟨z, hz, e1, e2⟩ := h.over x h1
        exact ⟨z, List.mem_append.2 (.inl hz), e1, e2⟩
      · simp at h1
        subst h1
        exact ⟨x, by simp, rfl, hself⟩
theorem great_fold : ∀ (r l out : List Md), Great l out → Climbs (l ++ r) → Great (l ++ r) (r.foldl grow1 out)
  | [], l, out, h, _ => by simpa using h
  | m :: r, l, out, h, hc => by
    have e : l ++ m :: r = (l ++ [m]) ++ r := by simp
    rw [e] at hc ⊢
    exact great_fold r (l ++ [m]) (grow1 out m) (great_snoc h (List.pairwise_append.1 hc).1) hc
theorem great_of {l : List Md} (h : Climbs l) : Great l (greatest l) := great_fold l [] [] great_nil (by simpa using h)
theorem Great.one {l out : List Md} (h : Great l out) {a b : Md} (ha : a ∈ out) (hb : b ∈ out) (e : a.1 = b.1) : a = b := RiseP.unique h.rise ha hb e
theorem Great.mem {l out : List Md} (h : Great l out) (hr : ∀ m ∈ l, mdErr m = 0) (m : Md) : m ∈ out ↔ m ∈ l ∧ ∀ x ∈ l, x.1 = m.1 → verCmp x.2 m.2 ≤ 0 := by
  constructor
  · intro hm
    refine ⟨h.sub m hm, fun x hx e => ?_⟩
    obtain ⟨z, hz, e1, e2⟩ := h.over x hx
    rw [h.one hz hm (e1.trans e)] at e2
    exact e2
  · rintro ⟨hm, h1⟩
    obtain ⟨z, hz, e1, e2⟩ := h.over m hm
    have h2 := h1 z (h.sub z hz) e1
    have h3 : verCmp m.2 z.2 = 0 := by
      have := verCmp_ord.anti z.2 m.2
      have := verCmp_ord.anti m.2 z.2
      omega
    have : m = z := modCmp_zero (hr m hm) (hr z (h.sub z hz)) (by unfold modCmp; rw [orI_eq, e1, compareBytes_self]; exact ⟨rfl, h3⟩)
    rw [this]; exact hz
noncomputable def buildL (l : List En) (roots : List Md) : List Md := greatest (reachL l roots)
theorem RightG.great {l : List En} {roots : List Md} (h : RightG l roots) : Great (reachL l roots) (buildL l roots) := great_of (climbs_of_rises (reachL_rises h.idx roots))
def hasB (sel : List Md) (m : Md) : Bool := decide (0 ≤ findI (hasP m.1) sel) && !verLess (mdAt sel (findI (hasP m.1) sel).toNat).2 m.2
def underB (a b : List Md) : Bool := a.all (hasB b)
theorem hasB_iff {sel : List Md} {m : Md} : hasB sel m = true ↔ ∃ k : Nat, findI (hasP m.1) sel = k ∧ verLess (mdAt sel k).2 m.2 = false := by
  unfold hasB
  rw [Bool.and_eq_true, decide_eq_true_iff]
  constructor
  · rintro ⟨h1, h2⟩
    exact ⟨(findI (hasP m.1) sel).toNat, by omega, by simpa using h2⟩
  · rintro ⟨k, h1, h2⟩
    rw [h1]
    exact ⟨by omega, by simpa using h2⟩
theorem hasB_rise {sel : List Md} (h : RiseP sel) {m : Md} : hasB sel m = true ↔ ∃ x ∈ sel, x.1 = m.1 ∧ verLess x.2 m.2 = false := by
  rw [hasB_iff]
  constructor
  · rintro ⟨k, h1, h2⟩
    obtain ⟨x, hx, hp⟩ := findI_spec h1
    have hl := (List.getElem?_eq_some_iff.1 hx).1
    rw [mdAt_get hl] at hx
    rw [Option.some.inj hx] at h2
    exact ⟨x, by rw [← Option.some.inj hx]; exact mdAt_mem hl, of_decide_eq_true hp, h2⟩
  · rintro ⟨x, hx, e, h2⟩
    have h0 : ¬ findI (hasP m.1) sel < 0 := fun hn => by
      have := findI_eq_none.1 hn x hx
      unfold hasP at this
      rw [decide_eq_false_iff_not] at this
      exact this e
    refine ⟨(findI (hasP m.1) sel).toNat, by omega, ?_⟩
    obtain ⟨y, hy, hp⟩ := findI_spec (show findI (hasP m.1) sel = ((findI (hasP m.1) sel).toNat : Nat) by omega)
    have hl := (List.getElem?_eq_some_iff.1 hy).1
    have hym := List.mem_of_getElem? hy
    rw [mdAt_get hl] at hy
    rw [Option.some.inj hy, h.unique hym hx ((of_decide_eq_true hp).trans e.symm)]
    exact h2
end Go.Proofs.Pw

namespace Go.Proofs.Pw
open Go.Lib hiding intOf
theorem verLess_of_le {a b : Str} (h : verCmp b a ≤ 0) : verLess a b = false := by
  unfold verLess
  refine decide_eq_false (fun h1 => ?_)
  have := (verCmp_ord.anti a b).1 h1.2.2
  omega
theorem Great.under {l out : List Md} (h : Great l out) : underB l out = true := by
  unfold underB
  rw [List.all_eq_true]
  intro m hm
  obtain ⟨x, hx, e1, e2⟩ := h.over m hm
  rw [hasB_rise h.rise]
  exact ⟨x, hx, e1, verLess_of_le e2⟩
theorem le_trans3 {a b c : Str} (h1 : verCmp a b ≤ 0) (h2 : verCmp b c ≤ 0) : verCmp a c ≤ 0 := verCmp_ord.tr a b c h1 h2
theorem build_over {l : List En} {roots : List Md} (h : RightG l roots) {m : Md} (hm : Reached l roots m) : ∃ x ∈ buildL l roots, x.1 = m.1 ∧ verCmp m.2 x.2 ≤ 0 := h.great.over m (h.mem.2 hm)
theorem RightG.sub {l : List En} {A B : List Md} (hB : RightG l B) (h : ∀ m ∈ A, Reached l B m) : RightG l A := ⟨hB.idx, fun m hm => hB.entry (h m hm)⟩
end Go.Proofs.Pw

namespace Go.Proofs.Pw
open Go.Lib hiding intOf
def latestM (l : List En) (sel : List Md) : List Md := sel.map fun m => (m.1, latestL l m.1)
theorem latest_in {l : List En} (h : RightI l) {m : Md} {e : En} (he : e ∈ l) (hm : e.md = m) : ∃ e ∈ l, e.md = (m.1, latestL l m.1) := by
  have h1 : m.2 ∈ versL l m.1 := versL_mem.2 ⟨e, he, hm⟩
  have h2 : m.2 ∈ vsort (versL l m.1) := (vsort_mem _ _).2 ⟨h1, by rw [← hm]; exact (modErr_zero (h.mds e he)).2⟩
  have h3 : vsort (versL l m.1) ≠ [] := fun e => by rw [e] at h2; cases h2
  have h4 := likedL_sub (lastS_mem (likedL_ne (l := l) (p := m.1) h3))
  exact versL_mem.1 ((vsort_mem _ _).1 h4).1
def newsB (l : List En) (m : Md) : Bool := verLess m.2 (latestL l m.1)
def newsL (l : List En) (sel : List Md) : List Md := latestM l (sel.filter (newsB l))
noncomputable def nextL (l : List En) (sel : List Md) : List Md := buildL l (sel ++ latestM l sel)
structure SelOk (l : List En) (x : List Md) : Prop where
  right : RightG l x
  rise : RiseP x
def OverM (x y : List Md) : Prop := ∀ m ∈ x, ∃ z ∈ y, z.1 = m.1 ∧ verCmp m.2 z.2 ≤ 0
theorem OverM.trans {x y z : List Md} (h1 : OverM x y) (h2 : OverM y z) : OverM x z := fun m hm => by
  obtain ⟨a, ha, e1, h3⟩ := h1 m hm
  obtain ⟨b, hb, e2, h4⟩ := h2 a ha
  exact ⟨b, hb, e2.trans e1, le_trans3 h3 h4⟩
theorem SelOk.md {l : List En} {x : List Md} (h : SelOk l x) {m : Md} (hm : m ∈ x) : mdErr m = 0 := h.right.right (.root hm)
theorem next_right {l : List En} {x : List Md} (hx : RightG l x) : RightG l (x ++ latestM l x) := ⟨hx.idx, fun m hm => by
  rcases List.mem_append.1 hm with h | h
  · exact hx.at_ m h
  · unfold latestM at h
    obtain ⟨y, hy, rfl⟩ := List.mem_map.1 h
    obtain ⟨e, he, e1⟩ := hx.at_ y hy
    exact latest_in hx.idx he e1⟩
structure AllOk (l : List En) (x y : List Md) : Prop where
  ok : SelOk l y
  over : OverM x y
  stop : nextL l y = y
theorem AllOk.none {l : List En} {x y : List Md} (h : AllOk l x y) : newsL l y = [] := by
  unfold newsL
  have : y.filter (newsB l) = [] := by
    rw [List.filter_eq_nil_iff]
    intro m hm hn
    have h1 := next_right h.ok.right
    have h2 : (m.1, latestL l m.1) ∈ y ++ latestM l y := List.mem_append.2 (.inr (List.mem_map.2 ⟨m, hm, rfl⟩))
    obtain ⟨z, hz, e1, h3⟩ := build_over h1 (.root h2)
    have hz2 : z ∈ nextL l y := hz
    rw [h.stop] at hz2
    have e2 : z = m := h.ok.rise.unique hz2 hm e1
    subst e2
    unfold newsB at hn
    rw [verLess_of_le h3] at hn
    cases hn
  rw [this]; rfl
end Go.Proofs.Pw
