/- Ia: walks and plain laws, joined: PathsOf IdxPaths. Conditions: at each theorem. -/
import Derived.Test.YtnanklfbmmionaaGreatDoorIaq
import Derived.Test.YtnanklfbmmionaaGreatDoorIag
import Derived.Test.YtnanklfbmmionaaGreatDoorIaf
import Derived.Test.YtnanklfbmmionaaGreatDoorIar
import Derived.Sort.Walk0

namespace Go.Proofs.Pw
open Go.RowKit
open Go.Lib hiding intOf
def pathsL (l : List Str) : List Str := insAll compareBytes l
theorem pathsL_snoc (l : List Str) (s : Str) : pathsL (l ++ [s]) = insU compareBytes s (pathsL l) := insAll_snoc _ _ _
theorem pathsL_mem (l : List Str) (x : Str) : x ∈ pathsL l ↔ x ∈ l := insAll_mem _ _ _
theorem pathsL_rises (l : List Str) : Rises compareBytes (pathsL l) := insAll_rises compareBytes_ord (fun _ => True) (fun _ _ _ _ e => compareBytes_zero e) _ (fun _ _ => trivial)
theorem insAt_lessF {f : Str → Str → Int} {s : Str} : ∀ {l : List Str} {j : Nat} {x : Str}, j < insAt f s l → l[j]? = some x → f x s < 0
  | [], j, x, h, _ => absurd h (Nat.not_lt_zero _)
  | a :: r, j, x, h, hx => by
    unfold insAt at h
    split at h
    · rename_i hlt
      cases j with
      | zero => simp at hx; subst hx; exact hlt
      | succ j => exact insAt_lessF (l := r) (j := j) (by omega) (by simpa using hx)
    · exact absurd h (Nat.not_lt_zero _)
theorem insAt_stopF {f : Str → Str → Int} {s : Str} : ∀ {l : List Str} {x : Str}, l[insAt f s l]? = some x → ¬ f x s < 0
  | [], x, h => by simp at h
  | a :: r, x, h => by
    unfold insAt at h
    split at h
    · exact insAt_stopF (l := r) (by simpa using h)
    · rename_i hn
      simp at h; subst h; exact hn
theorem enF_paths (n : Nat) (PE VE : Nat → ByteArray) (R : Nat → List Md) (K : Nat → List Str) (B : Nat → Bool) : (enF n PE VE R K B).map (·.md.1) = lstF n PE := by
  apply List.ext_getElem?
  intro i
  by_cases hi : i < n
  · rw [List.getElem?_map, enF_get _ _ _ _ _ _ i hi, lstF_get _ _ i hi]; rfl
  · rw [List.getElem?_eq_none (by rw [List.length_map, enF_length]; omega), List.getElem?_eq_none (by rw [lstF_length]; omega)]
set_option maxHeartbeats 2000000 in
set_option maxRecDepth 100000 in
theorem pathsOf_in (a : Option Addr) (n cap : Nat) (PE VE : Nat → ByteArray) (R : Nat → List Md) (K : Nat → List Str) (B : Nat → Bool) (Rv Kv : Nat → Value) (w : World) (h : EntsIn w a n cap PE VE R K B Rv Kv) (hs : ShortI (enF n PE VE R K B)) :
    Calls Tryz.prog 67 #[.slice a n cap] w fun e w' => (∃ v', e = .returned v' ∧ StrsAt w' v' (pathsL ((enF n PE VE R K B).map (·.md.1)))) ∧ Below w.heap.size w w' := by
  obtain ⟨i0, hi, hz0, hz1, hz2⟩ := info_parts Tryz.infoString
  rw [enF_paths]
  have hn : n ≤ 1000000 := by have := hs.len; rwa [enF_length] at this
  have hLs : ∀ j, j < n → (PE j).size ≤ 1000000000 := fun j hj => by have := (hs.at_ hj).2.1; omega
  have HC := Lib.hid (fun j hj => by obtain ⟨b, o, e, c⟩ := h.at_ j hj; exact (⟨b, o, e, c.c0⟩ : ∃ b o, a = some ⟨b, o, none⟩ ∧ w.cell? ⟨b, o + j * 5, none⟩ = some (.string (PE j))))
  clear h hs
  go_enter Tryz.func67, Tryz.ntmps67
  go_wp2_with fail
  go_loopw [3, 4] (fun o i wr => ∃ (k : Nat) (P : List ByteArray), k ≤ n ∧ i = .int .i64 k ∧ AccAt wr w.heap.size o P ∧ P.length ≤ k ∧ (∀ x ∈ P, x.size ≤ 1000000000) ∧ Below w.heap.size w wr ∧ Hid (pathsL ((lstF n PE).take k) = strTs P)) (fun _ i _ => n - (intOf i).toNat)
  case atStart => exact ⟨0, [], Nat.zero_le _, rfl, .inl ⟨rfl, rfl⟩, Nat.le_refl _, by simp, Below.refl _ _, Lib.hid rfl⟩
  case round =>
    obtain ⟨k, P, hk, rfl, hacc, hPk, hPs, hB, HV⟩ := hrel
    by_cases hlt : k < n
    · obtain ⟨b1, o1, rfl, hck⟩ := HC.out k hlt
      have c1 := Below.cell_some hB hck
      clear hck
      have hsk := hLs k hlt
      have hkn : (k : Int) < (n : Int) := by omega
      have hstep : pathsL ((lstF n PE).take (k + 1)) = insU compareBytes (PE k).data.toList (strTs P) := by
        rw [List.take_add_one, lstF_get n PE k hlt, ← HV.out]
        exact pathsL_snoc _ _
      have hle := insAt_le compareBytes (PE k).data.toList (strTs P)
      rw [strTs_length] at hle
      have hless : ∀ j x, j < insAt compareBytes (PE k).data.toList (strTs P) → (strTs P)[j]? = some x → compareBytes x (PE k).data.toList < 0 := fun j x h1 h2 => insAt_lessF h1 h2
      have hstop : ∀ x, (strTs P)[insAt compareBytes (PE k).data.toList (strTs P)]? = some x → ¬ compareBytes x (PE k).data.toList < 0 := fun x h => insAt_stopF h
      have hins := insU_at compareBytes (PE k).data.toList (strTs P)
      rw [← hstep] at hins
      generalize insAt compareBytes (PE k).data.toList (strTs P) = q at hle hless hstop hins
      replace hless := Lib.hid hless
      replace hstop := Lib.hid hstop
      replace hins := Lib.hid hins
      have HPS := Lib.hid hPs
      clear hstep hPs
      generalize PE k = s at c1 hsk hless hstop hins ⊢
      go_wp2_with fail
      generalize hwq : wr = w1 at *
      clear hwq
      go_loopw [5] (fun a w2 => ∃ j : Nat, j ≤ q ∧ a = .int .i64 j ∧ Below w1.heap.size w1 w2) (fun a _ => P.length + 1 - (intOf a).toNat)
      case atStart => exact ⟨0, Nat.zero_le _, rfl, Below.refl _ _⟩
      case round =>
        obtain ⟨j, hj, rfl, hb⟩ := hrel
        have hB1 := hb
        replace hB := below_step hB hb
        replace hacc := hacc.below hb
        replace c1 := Below.cell_some hb c1
        clear hb
        by_cases hjl : j < P.length
        · have hjl' : (j : Int) < (P.length : Int) := by omega
          have hget := strTs_get hjl
          obtain ⟨g, c, hg1, rfl, hg3, hg4, hg5, hg6, hg7⟩ := id (hacc.resolve_left (fun h => by rw [h.1] at hjl; exact absurd hjl (Nat.not_lt_zero _)))
          have c2 := hg7 j hjl
          by_cases hlo : j < q
          · have hneg := hless.out _ _ hlo hget
            have hbl : Op.bytesLess (P.getD j ByteArray.empty).toList s.toList = true := by rw [toList_data, toList_data, bytesLess_iff]; exact decide_eq_true hneg
            clear hneg hget hg7
            generalize P.getD j ByteArray.empty = x at c2 hbl
            go_wp2_with fail
            have kqc1 := fun d os => cell_patch (d := d) (os := os) c1
            have kqc2 := fun d os => cell_patch (d := d) (os := os) c2
            refine wp_region_quiet_patch (by kernel_rfl) (by kernel_rfl) ?_
            repeat (go_big_quiet_step (fail))
            refine wpQuiet_nil ?_
            intro _ hw'
            obtain ⟨⟨dq, osq⟩, hw''⟩ := hw'
            subst hw''
            clear kqc1 kqc2
            have hb := below_patch wr dq osq
            replace hB := below_step hB hb
            replace hacc := hacc.below hb
            replace c1 := Below.cell_some hb c1
            replace hB1 := below_step hB1 hb
            clear hb
            generalize patch wr dq osq = w2 at hB hacc c1 hB1 ⊢
            clear c2
            go_wp2_with fail
            go_roundw
            case rel => exact ⟨j + 1, by omega, by go_num, hB1⟩
            case measure => simp [intOf]; omega
          · obtain rfl : j = q := by omega
            have hnn := hstop.out _ hget
            generalize hxd : P.getD j ByteArray.empty = x at c2 hnn hget
            have hbl : Op.bytesLess x.toList s.toList = false := by rw [toList_data, toList_data, bytesLess_iff]; exact decide_eq_false (by omega)
            replace hget := Lib.hid hget
            replace hxd := Lib.hid hxd
            clear hnn
            go_wp2_with fail
            have kqc1 := fun d os => cell_patch (d := d) (os := os) c1
            have kqc2 := fun d os => cell_patch (d := d) (os := os) c2
            refine wp_region_quiet_patch (by kernel_rfl) (by kernel_rfl) ?_
            repeat (go_big_quiet_step (fail))
            refine wpQuiet_nil ?_
            intro _ hw'
            obtain ⟨⟨dq, osq⟩, hw''⟩ := hw'
            subst hw''
            clear kqc1 kqc2
            have hb := below_patch wr dq osq
            replace hB := below_step hB hb
            replace hacc := hacc.below hb
            replace c1 := Below.cell_some hb c1
            replace c2 := Below.cell_some hb c2
            replace hB1 := below_step hB1 hb
            clear hb
            generalize patch wr dq osq = w2 at hB hacc c1 c2 hB1 ⊢
            by_cases hxs : x = s
            · subst hxs
              have HN : Hid (pathsL ((lstF n PE).take (k + 1)) = strTs P) := Lib.hid (by rw [hins.out, if_pos hget.out])
              go_wp2_with fail
              go_region
              all_goals
                go_wp2_with fail
                go_roundw
                case rel => exact ⟨k + 1, P, by omega, by go_num, hacc.below ((Below.refl _ _).drew), by omega, HPS.out, hB.drew, HN⟩
                case measure => simp [intOf]; omega
            · have hbe : (x.toList == s.toList) = false := by rw [toList_data, toList_data]; exact beq_eq_false_iff_ne.2 (fun e => hxs (bytes_ext.1 e))
              have HN : Hid (pathsL ((lstF n PE).take (k + 1)) = strTs (P.take j ++ [s] ++ P.drop j)) := Lib.hid (ins_list (by rw [hget.out]; exact fun e => hxs (bytes_ext.1 (Option.some.inj e))) hins.out)
              obtain ⟨_, _, _, e1, _, _, _, _, hg7⟩ := id (hacc.resolve_left (fun h => by rw [h.1] at hjl; exact absurd hjl (Nat.not_lt_zero _)))
              injection e1 with e1 e2 e3
              injection e1 with e1
              injection e1 with e1
              subst e1 e3
              go_wp2_with fail
              go_region
              all_goals
                have hbd := hB.drew
                have HPS' := hB
                have hget' := hB
                have cD : w2.drew.cell? ⟨b1, o1 + k * 5, none⟩ = some (.string s) := c1
                have gD : ∀ j, j < P.length → w2.drew.cell? ⟨g, j, none⟩ = some (.string (P.getD j ByteArray.empty)) := hg7
                have BD : Below w.heap.size w w2.drew := hbd
                generalize w2.drew = wz at cD gD BD ⊢
                clear hB hB1 hacc c1 hg7 HPS' hget'
                have hH := BD.size
                have GD := Lib.hid gD
                clear gD
                go_wp2_with (at_builtin; first
                  | (refine wpList_append_own _ rfl _ _ 35 rfl wz.heap.size 9 i0 (.string ⟨#[]⟩) 1 16 Tryz.underlying35 hi hz0 hz1 hz2 rfl (by decide) _ _ _ rfl (World.ownsRow_nil _ _ _ _) ⟨g, 0, none⟩ j c (strVs ((P.drop 0).take j)) rfl (by rw [strVs_length]; simp; omega) (acc_cells GD.out 0 j (by omega)) strVs_one (by unfold maxLen; omega) (by omega) (Nat.le_refl _) ?_; intro v3 w3 hown3 hgrow3 hnil3; have hb3 := (Below.refl wz.heap.size wz).grown hgrow3 (Nat.le_refl _) (fun k h => by cases h); replace cD := Below.cell_some hb3 cD)
                  | (refine wpList_append_own _ rfl _ _ 35 rfl wz.heap.size 9 i0 (.string ⟨#[]⟩) 1 16 Tryz.underlying35 hi hz0 hz1 hz2 rfl (by decide) _ _ _ rfl (hown3.alloc _) ⟨w3.heap.size, 0, none⟩ 1 1 [.string s] rfl rfl (cell_one_new _ _ _) (fun x hx => by simp at hx; subst hx; rfl) (by unfold maxLen; omega) (by omega) (by have := hb3.size; simp; omega) ?_; intro v4 w4 hown4 hgrow4 hnil4; have hb4 := (hb3.alloc hb3.size _).grown hgrow4 (by have := hb3.size; simp; omega) (fun q hq => (hown3.lt q hq).1))
                  | (refine wpList_append_own _ rfl _ _ 35 rfl wz.heap.size 9 i0 (.string ⟨#[]⟩) 1 16 Tryz.underlying35 hi hz0 hz1 hz2 rfl (by decide) _ _ _ rfl hown4 ⟨g, j, none⟩ (P.length - j) (c - j) (strVs ((P.drop j).take (P.length - j))) rfl (by rw [strVs_length, List.length_take, List.length_drop]; omega) (acc_cells (fun i hi => Below.cell_some hb4 (GD.out i hi)) j (P.length - j) (by omega)) strVs_one (by unfold maxLen; omega) (by omega) hb4.size ?_; intro v5 w5 hown5 hgrow5 hnil5; have hb5 := hb4.grown hgrow5 hb4.size (fun q hq => (hown4.lt q hq).1)))
                have hBw := BD.trans (hb5.mono hH)
                have e1 : 0 + j + 1 + (P.length - j) = (P.take j ++ [s] ++ P.drop j).length := by simp; omega
                have e2 : [] ++ strVs ((P.drop 0).take j) ++ [.string s] ++ strVs ((P.drop j).take (P.length - j)) = strVs (P.take j ++ [s] ++ P.drop j) := by
                  rw [List.take_of_length_le (l := P.drop j) (by rw [List.length_drop]; exact Nat.le_refl _)]
                  simp [strVs]
                rw [e1, e2] at hown5
                have hacc5 := (accAt_own hown5 (by simp)).mono hH
                go_roundw
                case rel => exact ⟨k + 1, P.take j ++ [s] ++ P.drop j, by omega, by go_num, hacc5, by simp; omega, fun y hy => by
                  simp only [List.mem_append, List.mem_singleton] at hy
                  rcases hy with (hy | rfl) | hy
                  · exact HPS.out y (List.mem_of_mem_take hy)
                  · exact hsk
                  · exact HPS.out y (List.mem_of_mem_drop hy), hBw, HN⟩
                case measure => simp [intOf]; omega
        · have hjP : j = P.length := by omega
          obtain rfl : j = q := by omega
          have hjl' : ¬ (j : Int) < (P.length : Int) := by omega
          have hnone : (strTs P)[j]? ≠ some s.data.toList := by rw [List.getElem?_eq_none (by rw [strTs_length]; omega)]; intro h; cases h
          have HN : Hid (pathsL ((lstF n PE).take (k + 1)) = strTs (P.take j ++ [s] ++ P.drop j)) := Lib.hid (ins_list hnone hins.out)
          clear hnone
          rcases id hacc with ⟨rfl, rfl⟩ | ⟨g, c, hg1, rfl, hg3, hg4, hg5, hg6, hg7⟩
          · obtain rfl : j = 0 := hjP
            have hn0 : ∀ W ty, (Builtin.append_ #[35, 35] ty #[.slice none 0 0, .slice none 0 0]).run Tryz.prog W = .ok (.slice none 0 0) W := fun W ty => run_append_owned_none W 0 35 ty 9 i0 1 Tryz.underlying35 hi (.slice none 0 0) 0 [] (World.ownsRow_nil _ _ _ _)
            have HN1 : Hid (pathsL ((lstF n PE).take (k + 1)) = strTs [s]) := HN
            clear hjl hjl' hj HN hle hins hless hstop hPk
            go_wp2_with fail
            go_region
            all_goals
              have cD : wr.drew.cell? ⟨b1, o1 + k * 5, none⟩ = some (.string s) := c1
              have BD : Below w.heap.size w wr.drew := hB.drew
              generalize wr.drew = wz at cD BD ⊢
              clear hB hB1 hacc c1
              have hH := BD.size
              go_wp2_with (at_builtin; first
                | (refine wpList_append_own _ rfl _ _ 35 rfl wz.heap.size 9 i0 (.string ⟨#[]⟩) 1 16 Tryz.underlying35 hi hz0 hz1 hz2 rfl (by decide) _ _ _ rfl ((World.ownsRow_nil wz wz.heap.size 9 1).alloc _) ⟨wz.heap.size, 0, none⟩ 1 1 [.string s] rfl rfl (cell_one_new _ _ _) (fun x hx => by simp at hx; subst hx; rfl) (by unfold maxLen; omega) (by omega) (by simp) ?_; intro v4 w4 hown4 hgrow4 hnil4; have hb4 := ((Below.refl wz.heap.size wz).alloc (Nat.le_refl _) _).grown hgrow4 (by simp) (fun k h => by cases h); have hn4 := fun ty => run_append_owned_none w4 wz.heap.size 35 ty 9 i0 1 Tryz.underlying35 hi v4 _ _ hown4; replace hn4 := Lib.hid hn4)
                | (refine Lib.wpList_append_run _ rfl _ _ _ _ rfl v4 (.slice none 0 0) rfl rfl v4 w4 (hn4.out _) ?_))
              have hBw := BD.trans (hb4.mono hH)
              have hacc5 := (accAt_own (l := [s]) hown4 (by simp)).mono hH
              go_roundw
              case rel => exact ⟨k + 1, [s], by omega, by go_num, hacc5, by simp, fun y hy => (by rw [List.mem_singleton.1 hy]; exact hsk), hBw, HN1⟩
              case measure => simp [intOf]; omega
          · clear hg7
            replace hjP := Lib.hid hjP
            go_wp2_with fail
            go_region
            all_goals
              obtain ⟨_, _, _, e1, _, _, _, _, hg7⟩ := id (hacc.resolve_left (fun h => hg1 h.1))
              injection e1 with e1 e2 e3
              injection e1 with e1
              injection e1 with e1
              subst e1 e3
              have hbd := hB.drew
              have HPS' := hB
              have hget' := hB
              by_cases hcq : j = c
              · subst hcq
                have cD : wr.drew.cell? ⟨b1, o1 + k * 5, none⟩ = some (.string s) := c1
                have gD : ∀ j, j < P.length → wr.drew.cell? ⟨g, j, none⟩ = some (.string (P.getD j ByteArray.empty)) := hg7
                have BD : Below w.heap.size w wr.drew := hbd
                generalize wr.drew = wz at cD gD BD ⊢
                clear hB hB1 hacc c1 hg7 HPS' hget'
                have hH := BD.size
                have GD := Lib.hid gD
                clear gD
                go_wp2_with (at_builtin; first
                  | (refine wpList_append_own _ rfl _ _ 35 rfl wz.heap.size 9 i0 (.string ⟨#[]⟩) 1 16 Tryz.underlying35 hi hz0 hz1 hz2 rfl (by decide) _ _ _ rfl (World.ownsRow_nil _ _ _ _) ⟨g, 0, none⟩ j j (strVs ((P.drop 0).take j)) rfl (by rw [strVs_length]; simp; omega) (acc_cells GD.out 0 j (by omega)) strVs_one (by unfold maxLen; omega) (by omega) (Nat.le_refl _) ?_; intro v3 w3 hown3 hgrow3 hnil3; have hb3 := (Below.refl wz.heap.size wz).grown hgrow3 (Nat.le_refl _) (fun k h => by cases h); replace cD := Below.cell_some hb3 cD)
                  | (refine wpList_append_own _ rfl _ _ 35 rfl wz.heap.size 9 i0 (.string ⟨#[]⟩) 1 16 Tryz.underlying35 hi hz0 hz1 hz2 rfl (by decide) _ _ _ rfl (hown3.alloc _) ⟨w3.heap.size, 0, none⟩ 1 1 [.string s] rfl rfl (cell_one_new _ _ _) (fun x hx => by simp at hx; subst hx; rfl) (by unfold maxLen; omega) (by omega) (by have := hb3.size; simp; omega) ?_; intro v4 w4 hown4 hgrow4 hnil4; have hb4 := (hb3.alloc hb3.size _).grown hgrow4 (by have := hb3.size; simp; omega) (fun q hq => (hown3.lt q hq).1))
                  | (refine wpList_append_own _ rfl _ _ 35 rfl wz.heap.size 9 i0 (.string ⟨#[]⟩) 1 16 Tryz.underlying35 hi hz0 hz1 hz2 rfl (by decide) _ _ _ rfl hown4 ⟨g, 0, none⟩ 0 0 (strVs ((P.drop j).take (P.length - j))) rfl (by rw [strVs_length, List.length_take, List.length_drop]; omega) ((fun i u h => by have hl := (strVs_get h).1; have hj0 := hjP.out; rw [List.length_take, List.length_drop] at hl; omega)) strVs_one (by unfold maxLen; omega) (by omega) hb4.size ?_; intro v5 w5 hown5 hgrow5 hnil5; have hb5 := hb4.grown hgrow5 hb4.size (fun q hq => (hown4.lt q hq).1)))
                have hBw := BD.trans (hb5.mono hH)
                have e1 : 0 + j + 1 + 0 = (P.take j ++ [s] ++ P.drop j).length := by simp; omega
                have e2 : [] ++ strVs ((P.drop 0).take j) ++ [.string s] ++ strVs ((P.drop j).take (P.length - j)) = strVs (P.take j ++ [s] ++ P.drop j) := by
                  rw [List.take_of_length_le (l := P.drop j) (by rw [List.length_drop]; exact Nat.le_refl _)]
                  simp [strVs]
                rw [e1, e2] at hown5
                have hacc5 := (accAt_own hown5 (by simp)).mono hH
                go_roundw
                case rel => exact ⟨k + 1, P.take j ++ [s] ++ P.drop j, by omega, by go_num, hacc5, by simp; omega, fun y hy => by
                  simp only [List.mem_append, List.mem_singleton] at hy
                  rcases hy with (hy | rfl) | hy
                  · exact HPS.out y (List.mem_of_mem_take hy)
                  · exact hsk
                  · exact HPS.out y (List.mem_of_mem_drop hy), hBw, HN⟩
                case measure => simp [intOf]; omega
              · have hcq2 : ¬ c = j := fun e => hcq e.symm
                have cD : wr.drew.cell? ⟨b1, o1 + k * 5, none⟩ = some (.string s) := c1
                have gD : ∀ j, j < P.length → wr.drew.cell? ⟨g, j, none⟩ = some (.string (P.getD j ByteArray.empty)) := hg7
                have BD : Below w.heap.size w wr.drew := hbd
                generalize wr.drew = wz at cD gD BD ⊢
                clear hB hB1 hacc c1 hg7 HPS' hget'
                have hH := BD.size
                have GD := Lib.hid gD
                clear gD
                go_wp2_with (at_builtin; first
                  | (refine wpList_append_own _ rfl _ _ 35 rfl wz.heap.size 9 i0 (.string ⟨#[]⟩) 1 16 Tryz.underlying35 hi hz0 hz1 hz2 rfl (by decide) _ _ _ rfl (World.ownsRow_nil _ _ _ _) ⟨g, 0, none⟩ j c (strVs ((P.drop 0).take j)) rfl (by rw [strVs_length]; simp; omega) (acc_cells GD.out 0 j (by omega)) strVs_one (by unfold maxLen; omega) (by omega) (Nat.le_refl _) ?_; intro v3 w3 hown3 hgrow3 hnil3; have hb3 := (Below.refl wz.heap.size wz).grown hgrow3 (Nat.le_refl _) (fun k h => by cases h); replace cD := Below.cell_some hb3 cD)
                  | (refine wpList_append_own _ rfl _ _ 35 rfl wz.heap.size 9 i0 (.string ⟨#[]⟩) 1 16 Tryz.underlying35 hi hz0 hz1 hz2 rfl (by decide) _ _ _ rfl (hown3.alloc _) ⟨w3.heap.size, 0, none⟩ 1 1 [.string s] rfl rfl (cell_one_new _ _ _) (fun x hx => by simp at hx; subst hx; rfl) (by unfold maxLen; omega) (by omega) (by have := hb3.size; simp; omega) ?_; intro v4 w4 hown4 hgrow4 hnil4; have hb4 := (hb3.alloc hb3.size _).grown hgrow4 (by have := hb3.size; simp; omega) (fun q hq => (hown3.lt q hq).1))
                  | (refine wpList_append_own _ rfl _ _ 35 rfl wz.heap.size 9 i0 (.string ⟨#[]⟩) 1 16 Tryz.underlying35 hi hz0 hz1 hz2 rfl (by decide) _ _ _ rfl hown4 ⟨g, j, none⟩ (P.length - j) (c - j) (strVs ((P.drop j).take (P.length - j))) rfl (by rw [strVs_length, List.length_take, List.length_drop]; omega) (acc_cells (fun i hi => Below.cell_some hb4 (GD.out i hi)) j (P.length - j) (by omega)) strVs_one (by unfold maxLen; omega) (by omega) hb4.size ?_; intro v5 w5 hown5 hgrow5 hnil5; have hb5 := hb4.grown hgrow5 hb4.size (fun q hq => (hown4.lt q hq).1)))
                have hBw := BD.trans (hb5.mono hH)
                have e1 : 0 + j + 1 + (P.length - j) = (P.take j ++ [s] ++ P.drop j).length := by simp; omega
                have e2 : [] ++ strVs ((P.drop 0).take j) ++ [.string s] ++ strVs ((P.drop j).take (P.length - j)) = strVs (P.take j ++ [s] ++ P.drop j) := by
                  rw [List.take_of_length_le (l := P.drop j) (by rw [List.length_drop]; exact Nat.le_refl _)]
                  simp [strVs]
                rw [e1, e2] at hown5
                have hacc5 := (accAt_own hown5 (by simp)).mono hH
                go_roundw
                case rel => exact ⟨k + 1, P.take j ++ [s] ++ P.drop j, by omega, by go_num, hacc5, by simp; omega, fun y hy => by
                  simp only [List.mem_append, List.mem_singleton] at hy
                  rcases hy with (hy | rfl) | hy
                  · exact HPS.out y (List.mem_of_mem_take hy)
                  · exact hsk
                  · exact HPS.out y (List.mem_of_mem_drop hy), hBw, HN⟩
                case measure => simp [intOf]; omega
    · obtain rfl : k = n := by omega
      have HV2 : Hid (pathsL (lstF k PE) = strTs P) := Lib.hid (by rw [← HV.out, List.take_of_length_le (by rw [lstF_length]; exact Nat.le_refl _)])
      have hSo := hacc.strs
      clear HV
      go_wp2_with fail
      go_ret
      rw [HV2.out]
      exact ⟨⟨_, rfl, hSo⟩, hB⟩
end Go.Proofs.Pw

namespace Go.Proofs.Pw
open Go.RowKit Go.Sort
open Go.Lib hiding intOf
theorem str_le {a b : Str} : a ≤ b ↔ compareBytes a b ≤ 0 := by
  have h1 : b < a ↔ compareBytes b a < 0 := by
    have h2 := bytesLess_eq b a
    rw [bytesLess_iff] at h2
    exact ⟨fun h => of_decide_eq_true (by rw [h2]; exact decide_eq_true h), fun h => of_decide_eq_true (by rw [← h2]; exact decide_eq_true h)⟩
  have h3 := compareBytes_ord.anti b a
  show ¬ b < a ↔ _
  rw [h1]
  omega
theorem sorted_paths (l : List Str) : compactUpTo (l.mergeSort fun x y => decide (x ≤ y)).toArray (l.mergeSort fun x y => decide (x ≤ y)).toArray.size = pathsL l := by
  have hp := List.pairwise_mergeSort (le := fun x y : Str => decide (x ≤ y)) (fun a b c h1 h2 => decide_eq_true (str_le.2 (compareBytes_ord.tr a b c (str_le.1 (of_decide_eq_true h1)) (str_le.1 (of_decide_eq_true h2))))) (fun a b => by
    rw [Bool.or_eq_true, decide_eq_true_iff, decide_eq_true_iff, str_le, str_le]
    have := compareBytes_ord.anti a b
    omega) l
  have hm := fun x => List.mem_mergeSort (le := fun x y : Str => decide (x ≤ y)) (l := l) (a := x)
  generalize (l.mergeSort fun x y => decide (x ≤ y)) = m at hp hm ⊢
  have hg : ∀ i (h : i < m.length), m.toArray[i]! = m[i] := fun i h => by
    rw [getElem!_pos _ i (by simpa using h)]; simp
  refine rises_ext compareBytes_ord (compact_rises compareBytes_ord _ (fun i j hij hj => ?_) (fun i j _ _ e => compareBytes_zero e)) (pathsL_rises l) fun x => ?_
  · have hj' : j < m.length := by simpa using hj
    rw [hg i (by omega), hg j hj']
    exact str_le.1 (of_decide_eq_true (List.pairwise_iff_getElem.1 hp i j (by omega) hj' hij))
  · rw [compact_mem, pathsL_mem, ← hm]
    constructor
    · rintro ⟨i, hi, rfl⟩
      have hi' : i < m.length := by simpa using hi
      rw [hg i hi']
      exact List.getElem_mem hi'
    · intro hx
      obtain ⟨i, hi, e⟩ := List.mem_iff_getElem.1 hx
      exact ⟨i, by simpa using hi, by rw [hg i hi]; exact e⟩
theorem own_holds {w : World} {base e : Nat} {v : Value} {L : List ByteArray} (h : w.ownsRow base e 1 v L.length (strVs L)) : (v = .slice none 0 0 ∧ L = []) ∨ ∃ g c, v = .slice (some ⟨g, 0, none⟩) L.length c ∧ base ≤ g ∧ g < w.heap.size ∧ L.length ≤ c ∧ c ≤ 9223372036854775807 ∧ Holds encStr w g 0 (strTs L).toArray := by
  rcases h.2 with ⟨rfl, h0⟩ | ⟨g, cap, cur, rfl, hb, hg, hn, hm, hs, ht⟩
  · exact .inl ⟨rfl, List.eq_nil_of_length_eq_zero h0⟩
  · refine .inr ⟨g, cap, rfl, hb, (Array.getElem?_eq_some_iff.1 hg).1, hn, by unfold maxLen at hm; exact hm, fun j hj => ?_⟩
    have hj' : j < L.length := by simpa [strTs_length] using hj
    rw [Nat.zero_add]
    have he : (strTs L).toArray[j]! = (L.getD j ByteArray.empty).data.toList := by
      rw [getElem!_pos _ j hj]
      have := strTs_get hj'
      rw [List.getElem?_eq_getElem (by rw [strTs_length]; exact hj')] at this
      simpa using this
    rw [he]
    show _ = some (Value.string ⟨(L.getD j ByteArray.empty).data.toList.toArray⟩) ∧ _
    rw [bytes_back]
    constructor
    · rw [cell_of_row w g j cur e (0, 0) hg]
      have h1 : (strVs L)[j]? = some (.string (L.getD j ByteArray.empty)) := by
        simp [strVs, List.getD_eq_getElem?_getD, List.getElem?_eq_getElem hj']
      rw [← ht, List.getElem?_take, if_pos (by omega)] at h1
      simpa using h1
    · simp [World.frozen?, hg]
theorem below_sortS {B : Nat} {w0 w : World} (h : Below B w0 w) (hB : B ≤ w0.heap.size) {blk : Nat} (hb : B ≤ blk) (off m : Nat) (d : Array Str) (os : Array Obj) : Below B w0 (grow (putRow encStr (Sort.ahead w m) blk off d) os) := by
  have hBs := h.size
  refine h.trans ⟨rfl, rfl, rfl, ?_, fun k hk => ?_⟩
  · simp [grow, putRow, mapBlock, Sort.ahead]
  · simp only [grow, putRow, mapBlock, Sort.ahead]
    by_cases hk2 : k < w.heap.size
    · rw [Array.getElem?_append_left (by simpa using hk2), Array.getElem?_modify, if_neg (by omega)]
    · exact absurd (Nat.lt_of_lt_of_le hk (Nat.le_trans hB hBs)) hk2
set_option maxHeartbeats 4000000 in
set_option maxRecDepth 100000 in
theorem idxPaths_in (a : Option Addr) (n cap : Nat) (P V : Nat → ByteArray) (R : Nat → List Md) (K : Nat → List Str) (Bk : Nat → Bool) (Rv Kv : Nat → Value) (w : World) (h : EntsIn w a n cap P V R K Bk Rv Kv) (hs : ShortI (enF n P V R K Bk)) :
    Calls Tryz.prog 59 #[.slice a n cap] w fun e w' => (∃ v, e = .returned v ∧ StrsAt w' v (pathsL ((enF n P V R K Bk).map (·.md.1)))) ∧ Below w.heap.size w w' := by
  obtain ⟨i0, hi, hz0, hz1, hz2⟩ := info_parts Tryz.infoString
  have hn : n ≤ 1000000 := by have := hs.len; rwa [enF_length] at this
  rw [enF_paths]
  have H := Lib.hid h
  have hsn := Tryz.slices_Sort_string_none
  have hce := Tryz.slices_Compact_string_empty
  replace hsn := Lib.hid hsn
  replace hce := Lib.hid hce
  clear h hs
  go_enter Tryz.func59, Tryz.ntmps59
  go_wp2_with fail
  go_loopw [3, 8] (fun o i wr => ∃ (k : Nat) (L : List ByteArray), k ≤ n ∧ i = .int .i64 k ∧ Hid (wr.ownsRow w.heap.size 9 1 o L.length (strVs L)) ∧ L.length ≤ k ∧ Hid (strTs L = (lstF n P).take k) ∧ Below w.heap.size w wr) (fun _ i _ => n - (intOf i).toNat)
  case atStart => exact ⟨0, [], Nat.zero_le _, rfl, Lib.hid (World.ownsRow_nil _ _ _ _), Nat.le_refl _, Lib.hid rfl, Below.refl _ _⟩
  case round =>
    obtain ⟨k, L, hk, rfl, hO, hLk, hT, hBr⟩ := hrel
    by_cases hlt : k < n
    · obtain ⟨ao, no, co, rfl⟩ := own_form hO.out
      have hkn : (k : Int) < (n : Int) := by omega
      obtain ⟨b1, o1, ea, hcell⟩ := H.out.at_ k hlt
      obtain ⟨c0, c1, c2, c3, c4⟩ := hcell.below hBr
      obtain ⟨a1, n1, s1, a2, n2, s2, e1, e2⟩ := H.out.forms hlt
      rw [e1] at c2
      rw [e2] at c3
      subst ea
      have hba := below_alloc wr (.cells #[.string (P k), .string (V k), .slice a1 n1 s1, .slice a2 n2 s2, .bool (Bk k)] 37)
      have y0 : (wr.alloc (.cells #[.string (P k), .string (V k), .slice a1 n1 s1, .slice a2 n2 s2, .bool (Bk k)] 37)).cell? ⟨wr.heap.size, 0, none⟩ = some (.string (P k)) := by simp
      have hO2 := hO.out.below hba
      have hB2 := below_step hBr hba
      obtain ⟨w2, hW⟩ : ∃ W, wr.alloc (.cells #[.string (P k), .string (V k), .slice a1 n1 s1, .slice a2 n2 s2, .bool (Bk k)] 37) = W := ⟨_, rfl⟩
      rw [hW] at y0 hO2 hB2
      replace hO2 := Lib.hid hO2
      have HN : Hid (strTs (L ++ [P k]) = (lstF n P).take (k + 1)) := Lib.hid (by
        rw [List.take_add_one, lstF_get n P k hlt, strTs_snoc, hT.out]; rfl)
      clear hba hcell e1 e2 hT hO
      go_wp2_with (at_builtin; refine wpList_append_own _ rfl _ _ 35 rfl w.heap.size 9 i0 (.string ⟨#[]⟩) 1 16 Tryz.underlying35 hi hz0 hz1 hz2 rfl (by decide) _ _ _ rfl (hO2.out.alloc _) ⟨w2.heap.size, 0, none⟩ 1 1 [.string (P k)] rfl rfl (cell_one_new _ _ _) (fun x hx => by simp at hx; subst hx; rfl) (by unfold maxLen; omega) (by omega) (by have := hB2.size; simp; omega) ?_; intro o' w4 hown4 hgrow4 _)
      go_roundw
      case rel =>
        refine ⟨k + 1, L ++ [P k], by omega, by go_num, Lib.hid ?_, by simp; omega, HN, ?_⟩
        · rw [List.length_append, List.length_singleton, ← strVs_snoc]; exact hown4
        · exact (hB2.alloc hB2.size _).grown hgrow4 (by have := hB2.size; simp; omega) (fun q hq => (hO2.out.lt q hq).1)
      case measure => simp [intOf]; omega
    · have hkn : ¬ (k : Int) < (n : Int) := by omega
      have hTL : strTs L = lstF n P := by rw [hT.out, List.take_of_length_le (by rw [lstF_length]; omega)]
      have HTL := Lib.hid hTL
      rcases own_holds hO.out with ⟨rfl, rfl⟩ | ⟨g, c, rfl, hg0, hgl, hnc, hcm, hH⟩
      · clear hT hTL hO hlt
        go_wp2_with fail
        refine (hsn.out none 0 _).mono ?_
        rintro e w' ⟨rfl, rfl⟩
        go_wp2_with fail
        refine (hce.out none 0 _).mono ?_
        rintro e w' ⟨rfl, rfl⟩
        go_wp2_with fail
        go_ret
        rw [← HTL.out]
        exact ⟨⟨_, rfl, StrsAt.nil _⟩, hBr⟩
      · have hso := Tryz.slices_Sort_string g 0 c (strTs L) wr hH hgl (by rw [strTs_length]; omega)
        rw [strTs_length] at hso
        have hd := sorted_paths (strTs L)
        have hdl : ((strTs L).mergeSort fun x y => decide (x ≤ y)).toArray.size = L.length := by rw [List.size_toArray, List.length_mergeSort, strTs_length]
        generalize ((strTs L).mergeSort fun x y => decide (x ≤ y)).toArray = d at hso hd hdl
        have HD := Lib.hid hd
        have HH := Lib.hid hH
        replace hso := Lib.hid hso
        clear hT hTL hO hlt hd hH
        go_wp2_with fail
        refine hso.out.mono ?_
        rintro e w5 ⟨rfl, q, os, hw5⟩
        have hH2 : Holds encStr (putRow encStr (Sort.ahead wr q) g 0 d) g 0 d := holds_putRow encStr _ g 0 (strTs L).toArray d (fun j hj => HH.out j hj) (by rw [hdl, List.size_toArray, strTs_length])
        have hH5 : Holds encStr w5 g 0 d := by
          rw [hw5]
          exact holds_grow encStr _ os g 0 d (by simpa [putRow, mapBlock, Sort.ahead] using hgl) hH2
        have hB5 : Below w.heap.size w w5 := by
          rw [hw5]
          exact below_sortS hBr (Nat.le_refl _) hg0 0 q d os
        have hco := Tryz.slices_Compact_string_arr g 0 c d w5 hH5 (by omega) (by omega)
        rw [HD.out, hdl] at hco
        have hvl : (pathsL (strTs L)).length ≤ L.length := by
          rw [← HD.out, ← hdl]
          exact compactUpTo_length_le _
        replace hco := Lib.hid hco
        clear hso hw5 hH2
        go_wp2_with fail
        refine hco.out.mono ?_
        rintro e w6 ⟨rfl, q6, rfl⟩
        go_wp2_with fail
        go_ret
        rw [← HTL.out]
        refine ⟨⟨_, rfl, ?_⟩, below_putRow (below_drewN hB5 q6) hg0 0 _⟩
        refine strsAt_holds (l := pathsL (strTs L)) (holds_take (m := List.replicate (L.length - (pathsL (strTs L)).length) []) ?_) (by omega) hcm
        have hH6 : Holds encStr (Sort.ahead w5 q6) g 0 d := fun j hj => hH5 j hj
        exact holds_putRow encStr (Sort.ahead w5 q6) g 0 _ _ hH6 (by simp [hdl]; omega)
end Go.Proofs.Pw
