/- Pf: walks and plain laws, joined: RefSort IdxVers. Conditions: at each theorem. -/
import Derived.Test.YtkfnhchlfojomaaGreatDoorPfh
import Derived.Test.YtkfnhchlfojomaaGreatDoorPfe
import Derived.Test.YtkfnhchlfojomaaGreatDoorPfb
import Derived.Test.YtkfnhchlfojomaaGreatDoorPfr
import Derived.Test.YtkfnhchlfojomaaGreatDoorPfk
import Derived.Lib.AppendZeros
import Derived.Deep.Upon
import Derived.Deep.Onto
import Derived.Test.YtkfnhchlfojomaaGreatDoorPfc
import Derived.Test.YtkfnhchlfojomaaGreatDoorPfl
import Derived.Test.YtkfnhchlfojomaaGreatDoorPfn

namespace Go.Proofs.Pw
open Go.RowKit
open Go.Lib hiding intOf
theorem vsort_snoc (l : List Str) (s : Str) : vsort (l ++ [s]) = if verErr s = 0 then insU verCmp s (vsort l) else vsort l := by
  unfold vsort
  rw [List.filter_append]
  by_cases h : verErr s = 0
  · rw [if_pos h]
    have : [s].filter (fun s => decide (verErr s = 0)) = [s] := by simp [h]
    rw [this, insAll_snoc]
  · rw [if_neg h]
    have : [s].filter (fun s => decide (verErr s = 0)) = [] := by simp [h]
    rw [this, List.append_nil]
theorem insAt_less {s : Str} : ∀ {l : List Str} {j : Nat} {x : Str}, j < insAt verCmp s l → l[j]? = some x → verCmp x s < 0
  | [], j, x, h, _ => absurd h (Nat.not_lt_zero _)
  | a :: r, j, x, h, hx => by
    unfold insAt at h
    split at h
    · rename_i hlt
      cases j with
      | zero => simp at hx; subst hx; exact hlt
      | succ j => exact insAt_less (l := r) (j := j) (by omega) (by simpa using hx)
    · exact absurd h (Nat.not_lt_zero _)
theorem insAt_stop {s : Str} : ∀ {l : List Str} {x : Str}, l[insAt verCmp s l]? = some x → ¬ verCmp x s < 0
  | [], x, h => by simp at h
  | a :: r, x, h => by
    unfold insAt at h
    split at h
    · exact insAt_stop (l := r) (by simpa using h)
    · rename_i hn
      simp at h; subst h; exact hn
theorem strTs_get {l : List ByteArray} {j : Nat} (h : j < l.length) : (strTs l)[j]? = some (l.getD j ByteArray.empty).data.toList := by
  simp [strTs, List.getD_eq_getElem?_getD, List.getElem?_eq_getElem h]
theorem strTs_append (a b : List ByteArray) : strTs (a ++ b) = strTs a ++ strTs b := List.map_append ..
theorem strTs_take (l : List ByteArray) (k : Nat) : strTs (l.take k) = (strTs l).take k := List.map_take ..
theorem strTs_drop (l : List ByteArray) (k : Nat) : strTs (l.drop k) = (strTs l).drop k := List.map_drop ..
theorem strVs_get {l : List ByteArray} {j : Nat} {u : Value} (h : (strVs l)[j]? = some u) : j < l.length ∧ u = .string (l.getD j ByteArray.empty) := by
  unfold strVs at h
  rw [List.getElem?_map] at h
  have hl : j < l.length := by
    rcases Nat.lt_or_ge j l.length with h' | h'
    · exact h'
    · rw [List.getElem?_eq_none h'] at h; cases h
  rw [List.getElem?_eq_getElem hl] at h
  exact ⟨hl, by rw [List.getD_eq_getElem?_getD, List.getElem?_eq_getElem hl]; cases h; rfl⟩
theorem strVs_one {l : List ByteArray} : ∀ u ∈ strVs l, u.oneCell' = true := by
  intro u hu
  obtain ⟨x, _, rfl⟩ := List.mem_map.1 hu
  rfl
def AccAt (w : World) (base : Nat) (o : Value) (P : List ByteArray) : Prop :=
  (P = [] ∧ o = .slice none 0 0) ∨ ∃ g c, P ≠ [] ∧ o = .slice (some ⟨g, 0, none⟩) P.length c ∧ base ≤ g ∧ g < w.heap.size ∧ P.length ≤ c ∧ c ≤ 9223372036854775807 ∧ ∀ j, j < P.length → w.cell? ⟨g, j, none⟩ = some (.string (P.getD j ByteArray.empty))
theorem AccAt.below {w w' : World} {base : Nat} {o : Value} {P : List ByteArray} (h : AccAt w base o P) (hb : Below w.heap.size w w') : AccAt w' base o P := by
  rcases h with h | ⟨g, c, h1, h2, h3, h4, h5, h6, h7⟩
  · exact .inl h
  · exact .inr ⟨g, c, h1, h2, h3, Nat.lt_of_lt_of_le h4 hb.size, h5, h6, fun j hj => Below.cell_some hb (h7 j hj)⟩
theorem AccAt.mono {w : World} {base base' : Nat} {o : Value} {P : List ByteArray} (h : AccAt w base o P) (hb : base' ≤ base) : AccAt w base' o P := by
  rcases h with h | ⟨g, c, h1, h2, h3, r⟩
  · exact .inl h
  · exact .inr ⟨g, c, h1, h2, by omega, r⟩
theorem accAt_own {w : World} {base e : Nat} {v : Value} {l : List ByteArray} (h : w.ownsRow base e 1 v l.length (strVs l)) (hl : l ≠ []) : AccAt w base v l := by
  rcases h.2 with ⟨rfl, h0⟩ | ⟨g, cap, cur, rfl, hb, hg, hn, hm, hs, ht⟩
  · exact absurd (List.eq_nil_of_length_eq_zero h0) hl
  · refine .inr ⟨g, cap, hl, rfl, hb, (Array.getElem?_eq_some_iff.1 hg).1, hn, by unfold maxLen at hm; exact hm, fun j hj => ?_⟩
    rw [cell_of_row w g j cur e (0, 0) hg]
    have h1 : (strVs l)[j]? = some (.string (l.getD j ByteArray.empty)) := by
      simp [strVs, List.getD_eq_getElem?_getD, List.getElem?_eq_getElem hj]
    rw [← ht, List.getElem?_take, if_pos (by omega)] at h1
    simpa using h1
theorem AccAt.strs {w : World} {base : Nat} {o : Value} {P : List ByteArray} (h : AccAt w base o P) : StrsAt w o (strTs P) := by
  rcases h with ⟨rfl, rfl⟩ | ⟨g, c, h1, rfl, h3, h4, h5, h6, h7⟩
  · exact StrsAt.nil w
  · exact ⟨_, P.length, c, fun j => P.getD j ByteArray.empty, rfl, (lstF_list P).symm, h5, h6, fun j hj => ⟨g, 0, rfl, by rw [Nat.zero_add]; exact h7 j hj⟩⟩
theorem acc_cells {w : World} {g : Nat} {P : List ByteArray} (h : ∀ j, j < P.length → w.cell? ⟨g, j, none⟩ = some (.string (P.getD j ByteArray.empty))) (o m : Nat) (hm : o + m ≤ P.length) :
    ∀ j u, (strVs ((P.drop o).take m))[j]? = some u → w.cell? ((⟨g, o, none⟩ : Addr).add j) = some u := by
  intro j u hu
  obtain ⟨hj, rfl⟩ := strVs_get hu
  rw [List.length_take, List.length_drop] at hj
  rw [show (⟨g, o, none⟩ : Addr).add j = ⟨g, o + j, none⟩ from by unfold Addr.add; split <;> simp_all]
  rw [h (o + j) (by omega)]
  simp [List.getD_eq_getElem?_getD, List.getElem?_drop, show j < m by omega]
theorem ins_list {X : List Str} {P : List ByteArray} {q : Nat} {s : ByteArray} (h : (strTs P)[q]? ≠ some s.data.toList) (hins : X = if (strTs P)[q]? = some s.data.toList then strTs P else (strTs P).take q ++ s.data.toList :: (strTs P).drop q) : X = strTs (P.take q ++ [s] ++ P.drop q) := by
  rw [hins, if_neg h, strTs_append, strTs_append, strTs_take, strTs_drop]
  simp [strTs]
set_option maxHeartbeats 2000000 in
set_option maxRecDepth 100000 in
theorem sortVers_calls (v : Value) (l : List Str) (w : World) (hS : StrsAt w v l) (hn : l.length ≤ 1000000) (hl : ∀ x ∈ l, x.length ≤ 1000000000) :
    Calls Tryz.prog 161 #[v] w fun e w' => (∃ v', e = .returned v' ∧ StrsAt w' v' (vsort l)) ∧ Below w.heap.size w w' := by
  obtain ⟨i0, hi, hz0, hz1, hz2⟩ := info_parts Tryz.infoString
  obtain ⟨p, n, cap, L, rfl, rfl, hnc, hcap, hcl⟩ := hS
  rw [lstF_length] at hn
  have hLs : ∀ j, j < n → (L j).size ≤ 1000000000 := fun j hj => by
    have := hl (L j).data.toList (lstF_mem.2 ⟨j, hj, rfl⟩)
    rw [size_eq]; exact this
  have HC := Lib.hid hcl
  clear hcl hl
  go_enter Tryz.func161, Tryz.ntmps161
  go_wp2_with fail
  go_loopw [3, 4] (fun o i wr => ∃ (k : Nat) (P : List ByteArray), k ≤ n ∧ i = .int .i64 k ∧ AccAt wr w.heap.size o P ∧ P.length ≤ k ∧ (∀ x ∈ P, x.size ≤ 1000000000) ∧ Below w.heap.size w wr ∧ Hid (vsort ((lstF n L).take k) = strTs P)) (fun _ i _ => n - (intOf i).toNat)
  case atStart => exact ⟨0, [], Nat.zero_le _, rfl, .inl ⟨rfl, rfl⟩, Nat.le_refl _, by simp, Below.refl _ _, Lib.hid rfl⟩
  case round =>
    obtain ⟨k, P, hk, rfl, hacc, hPk, hPs, hb, HV⟩ := hrel
    by_cases hlt : k < n
    · obtain ⟨b1, o1, rfl, hck⟩ := HC.out k hlt
      replace hck := Below.cell_some hb hck
      have hsk := hLs k hlt
      have hiv := fun W => isVer_calls (L k) W hsk
      have hstep : vsort ((lstF n L).take (k + 1)) = if verErr (L k).data.toList = 0 then insU verCmp (L k).data.toList (strTs P) else strTs P := by
        rw [List.take_add_one, lstF_get n L k hlt, ← HV.out]
        exact vsort_snoc _ _
      by_cases h0 : verErr (L k).data.toList = 0
      · rw [if_pos h0] at hstep
        rw [decide_eq_true h0] at hiv
        replace hiv := Lib.hid hiv
        replace hstep := Lib.hid hstep
        go_wp2_with fail
        refine (hiv.out wr).mono ?_
        rintro e w1 ⟨rfl, hb1⟩
        replace hck := Below.cell_some hb1 hck
        replace hacc := hacc.below hb1
        replace hb := below_step hb hb1
        clear hb1
        have hB := hb
        have c1 := hck
        clear hb hck hiv
        have hle := insAt_le verCmp (L k).data.toList (strTs P)
        rw [strTs_length] at hle
        have hless : ∀ j x, j < insAt verCmp (L k).data.toList (strTs P) → (strTs P)[j]? = some x → verCmp x (L k).data.toList < 0 := fun j x h1 h2 => insAt_less h1 h2
        have hstop : ∀ x, (strTs P)[insAt verCmp (L k).data.toList (strTs P)]? = some x → ¬ verCmp x (L k).data.toList < 0 := fun x h => insAt_stop h
        have hins := insU_at verCmp (L k).data.toList (strTs P)
        rw [← hstep.out] at hins
        generalize insAt verCmp (L k).data.toList (strTs P) = q at hle hless hstop hins
        replace hless := Lib.hid hless
        replace hstop := Lib.hid hstop
        replace hins := Lib.hid hins
        have HPS := Lib.hid hPs
        clear hstep hPs
        generalize L k = s at c1 hsk hless hstop hins ⊢
        go_wp2_with fail
        go_loopw [6] (fun a w2 => ∃ j : Nat, j ≤ q ∧ a = .int .i64 j ∧ Below w1.heap.size w1 w2) (fun a _ => P.length + 1 - (intOf a).toNat)
        case atStart => exact ⟨0, Nat.zero_le _, rfl, Below.refl _ _⟩
        case round =>
          obtain ⟨j, hj, rfl, hb⟩ := hrel
          have hB1 := hb
          replace hB := below_step hB hb
          replace hacc := hacc.below hb
          replace c1 := Below.cell_some hb c1
          clear hb
          by_cases hjl : j < P.length
          · have hjl' : (j : Int) < (P.length : Int) := by omega
            have hget := strTs_get hjl
            have hPj : (P.getD j ByteArray.empty).size ≤ 1000000000 := HPS.out _ (by rw [List.getD_eq_getElem?_getD, List.getElem?_eq_getElem hjl]; simp)
            obtain ⟨g, c, hg1, rfl, hg3, hg4, hg5, hg6, hg7⟩ := id (hacc.resolve_left (fun h => by rw [h.1] at hjl; exact absurd hjl (Nat.not_lt_zero _)))
            have c2 := hg7 j hjl
            have hov := fun W => orderVer_calls (P.getD j ByteArray.empty) s W hPj hsk
            by_cases hlo : j < q
            · have hneg := hless.out _ _ hlo hget
              rw [sgn_neg hneg] at hov
              replace hov := Lib.hid hov
              clear hneg hget hg7
              generalize P.getD j ByteArray.empty = x at c2 hov
              go_wp2_with fail
              have k1 := fun d os => cell_patch (d := d) (os := os) c1
              have k2 := fun d os => cell_patch (d := d) (os := os) c2
              clear c2
              refine wp_region_quiet_patch (by kernel_rfl) (by kernel_rfl) ?_
              repeat (quiet_step ((go_at_call 163; with_reducible exact Calls.patch_of (hov.out _))))
              refine wpQuiet_nil ?_
              intro _ hw'
              obtain ⟨⟨dq, osq⟩, hw''⟩ := hw'
              subst hw''
              have hb := below_patch wr dq osq
              replace hB := below_step hB hb
              replace hacc := hacc.below hb
              replace c1 := Below.cell_some hb c1
              replace hB1 := below_step hB1 hb
              clear hb
              generalize patch wr dq osq = w2 at hB hacc c1 hB1 ⊢
              go_wp2_with fail
              go_roundw
              case rel => exact ⟨j + 1, by omega, by go_num, hB1⟩
              case measure => simp [intOf]; omega
            · obtain rfl : j = q := by omega
              have hnn := hstop.out _ hget
              generalize hxd : P.getD j ByteArray.empty = x at c2 hov hnn hget
              have hsn : ¬ sgn (verCmp x.data.toList s.data.toList) < 0 := fun h => absurd (sgn_lt.1 h) (by omega)
              generalize sgn (verCmp x.data.toList s.data.toList) = e0 at hov hsn
              replace hov := Lib.hid hov
              replace hget := Lib.hid hget
              replace hxd := Lib.hid hxd
              clear hnn
              go_wp2_with fail
              have k1 := fun d os => cell_patch (d := d) (os := os) c1
              have k2 := fun d os => cell_patch (d := d) (os := os) c2
              refine wp_region_quiet_patch (by kernel_rfl) (by kernel_rfl) ?_
              repeat (quiet_step ((go_at_call 163; with_reducible exact Calls.patch_of (hov.out _))))
              refine wpQuiet_nil ?_
              intro _ hw'
              obtain ⟨⟨dq, osq⟩, hw''⟩ := hw'
              subst hw''
              have hb := below_patch wr dq osq
              replace hB := below_step hB hb
              replace hacc := hacc.below hb
              replace c1 := Below.cell_some hb c1
              replace c2 := Below.cell_some hb c2
              replace hB1 := below_step hB1 hb
              clear hb
              generalize patch wr dq osq = w2 at hB hacc c1 c2 hB1 ⊢
              clear k1 k2
              by_cases hxs : x = s
              · subst hxs
                have HN : Hid (vsort ((lstF n L).take (k + 1)) = strTs P) := Lib.hid (by rw [hins.out, if_pos hget.out])
                go_wp2_with fail
                go_region
                all_goals
                  go_wp2_with fail
                  go_roundw
                  case rel => exact ⟨k + 1, P, by omega, by go_num, hacc.below ((Below.refl _ _).drew), by omega, HPS.out, hB.drew, HN⟩
                  case measure => simp [intOf]; omega
              · have hbe : (x.toList == s.toList) = false := by rw [toList_data, toList_data]; exact beq_eq_false_iff_ne.2 (fun e => hxs (bytes_ext.1 e))
                have HN : Hid (vsort ((lstF n L).take (k + 1)) = strTs (P.take j ++ [s] ++ P.drop j)) := Lib.hid (ins_list (by rw [hget.out]; exact fun e => hxs (bytes_ext.1 (Option.some.inj e))) hins.out)
                obtain ⟨_, _, _, e1, _, _, _, _, hg7⟩ := id (hacc.resolve_left (fun h => by rw [h.1] at hjl; exact absurd hjl (Nat.not_lt_zero _)))
                injection e1 with e1 e2 e3
                injection e1 with e1
                injection e1 with e1
                subst e1 e3
                go_wp2_with fail
                go_region
                all_goals
                  have hbd := hB.drew
                  have HPS' := hB
                  have hget' := hB
                  have cD : w2.drew.cell? ⟨b1, o1 + k, none⟩ = some (.string s) := c1
                  have gD : ∀ j, j < P.length → w2.drew.cell? ⟨g, j, none⟩ = some (.string (P.getD j ByteArray.empty)) := hg7
                  have BD : Below w.heap.size w w2.drew := hbd
                  generalize w2.drew = wz at cD gD BD ⊢
                  clear hB hB1 hacc c1 hg7 HPS' hget'
                  have hH := BD.size
                  have GD := Lib.hid gD
                  clear gD
                  go_wp2_with (at_builtin; first
                    | (refine wpList_append_own _ rfl _ _ 35 rfl wz.heap.size 9 i0 (.string ⟨#[]⟩) 1 16 Tryz.underlying35 hi hz0 hz1 hz2 rfl (by decide) _ _ _ rfl (World.ownsRow_nil _ _ _ _) ⟨g, 0, none⟩ j c (strVs ((P.drop 0).take j)) rfl (by rw [strVs_length]; simp; omega) (acc_cells GD.out 0 j (by omega)) strVs_one (by unfold maxLen; omega) (by omega) (Nat.le_refl _) ?_; intro v3 w3 hown3 hgrow3 hnil3; have hb3 := (Below.refl wz.heap.size wz).grown hgrow3 (Nat.le_refl _) (fun k h => by cases h); replace cD := Below.cell_some hb3 cD)
                    | (refine wpList_append_own _ rfl _ _ 35 rfl wz.heap.size 9 i0 (.string ⟨#[]⟩) 1 16 Tryz.underlying35 hi hz0 hz1 hz2 rfl (by decide) _ _ _ rfl (hown3.alloc _) ⟨w3.heap.size, 0, none⟩ 1 1 [.string s] rfl rfl (cell_one_new _ _ _) (fun x hx => by simp at hx; subst hx; rfl) (by unfold maxLen; omega) (by omega) (by have := hb3.size; simp; omega) ?_; intro v4 w4 hown4 hgrow4 hnil4; have hb4 := (hb3.alloc hb3.size _).grown hgrow4 (by have := hb3.size; simp; omega) (fun q hq => (hown3.lt q hq).1))
                    | (refine wpList_append_own _ rfl _ _ 35 rfl wz.heap.size 9 i0 (.string ⟨#[]⟩) 1 16 Tryz.underlying35 hi hz0 hz1 hz2 rfl (by decide) _ _ _ rfl hown4 ⟨g, j, none⟩ (P.length - j) (c - j) (strVs ((P.drop j).take (P.length - j))) rfl (by rw [strVs_length, List.length_take, List.length_drop]; omega) (acc_cells (fun i hi => Below.cell_some hb4 (GD.out i hi)) j (P.length - j) (by omega)) strVs_one (by unfold maxLen; omega) (by omega) hb4.size ?_; intro v5 w5 hown5 hgrow5 hnil5; have hb5 := hb4.grown hgrow5 hb4.size (fun q hq => (hown4.lt q hq).1)))
                  have hBw := BD.trans (hb5.mono hH)
                  have e1 : 0 + j + 1 + (P.length - j) = (P.take j ++ [s] ++ P.drop j).length := by simp; omega
                  have e2 : [] ++ strVs ((P.drop 0).take j) ++ [.string s] ++ strVs ((P.drop j).take (P.length - j)) = strVs (P.take j ++ [s] ++ P.drop j) := by
                    rw [List.take_of_length_le (l := P.drop j) (by rw [List.length_drop]; exact Nat.le_refl _)]
                    simp [strVs]
                  rw [e1, e2] at hown5
                  have hacc5 := (accAt_own hown5 (by simp)).mono hH
                  go_roundw
                  case rel => exact ⟨k + 1, P.take j ++ [s] ++ P.drop j, by omega, by go_num, hacc5, by simp; omega, fun y hy => by
                    simp only [List.mem_append, List.mem_singleton] at hy
                    rcases hy with (hy | rfl) | hy
                    · exact HPS.out y (List.mem_of_mem_take hy)
                    · exact hsk
                    · exact HPS.out y (List.mem_of_mem_drop hy), hBw, HN⟩
                  case measure => simp [intOf]; omega
          · have hjP : j = P.length := by omega
            obtain rfl : j = q := by omega
            have hjl' : ¬ (j : Int) < (P.length : Int) := by omega
            have hnone : (strTs P)[j]? ≠ some s.data.toList := by rw [List.getElem?_eq_none (by rw [strTs_length]; omega)]; intro h; cases h
            have HN : Hid (vsort ((lstF n L).take (k + 1)) = strTs (P.take j ++ [s] ++ P.drop j)) := Lib.hid (ins_list hnone hins.out)
            clear hnone
            rcases id hacc with ⟨rfl, rfl⟩ | ⟨g, c, hg1, rfl, hg3, hg4, hg5, hg6, hg7⟩
            · obtain rfl : j = 0 := hjP
              have hn0 : ∀ W ty, (Builtin.append_ #[35, 35] ty #[.slice none 0 0, .slice none 0 0]).run Tryz.prog W = .ok (.slice none 0 0) W := fun W ty => run_append_owned_none W 0 35 ty 9 i0 1 Tryz.underlying35 hi (.slice none 0 0) 0 [] (World.ownsRow_nil _ _ _ _)
              have HN1 : Hid (vsort ((lstF n L).take (k + 1)) = strTs [s]) := HN
              clear hjl hjl' hj HN hle hins hless hstop hPk
              go_wp2_with fail
              go_region
              all_goals
                have cD : wr.drew.cell? ⟨b1, o1 + k, none⟩ = some (.string s) := c1
                have BD : Below w.heap.size w wr.drew := hB.drew
                generalize wr.drew = wz at cD BD ⊢
                clear hB hB1 hacc c1
                have hH := BD.size
                go_wp2_with (at_builtin; first
                  | (refine wpList_append_own _ rfl _ _ 35 rfl wz.heap.size 9 i0 (.string ⟨#[]⟩) 1 16 Tryz.underlying35 hi hz0 hz1 hz2 rfl (by decide) _ _ _ rfl ((World.ownsRow_nil wz wz.heap.size 9 1).alloc _) ⟨wz.heap.size, 0, none⟩ 1 1 [.string s] rfl rfl (cell_one_new _ _ _) (fun x hx => by simp at hx; subst hx; rfl) (by unfold maxLen; omega) (by omega) (by simp) ?_; intro v4 w4 hown4 hgrow4 hnil4; have hb4 := ((Below.refl wz.heap.size wz).alloc (Nat.le_refl _) _).grown hgrow4 (by simp) (fun k h => by cases h); have hn4 := fun ty => run_append_owned_none w4 wz.heap.size 35 ty 9 i0 1 Tryz.underlying35 hi v4 _ _ hown4; replace hn4 := Lib.hid hn4)
                  | (refine Lib.wpList_append_run _ rfl _ _ _ _ rfl v4 (.slice none 0 0) rfl rfl v4 w4 (hn4.out _) ?_))
                have hBw := BD.trans (hb4.mono hH)
                have hacc5 := (accAt_own (l := [s]) hown4 (by simp)).mono hH
                go_roundw
                case rel => exact ⟨k + 1, [s], by omega, by go_num, hacc5, by simp, fun y hy => (by rw [List.mem_singleton.1 hy]; exact hsk), hBw, HN1⟩
                case measure => simp [intOf]; omega
            · clear hg7
              replace hjP := Lib.hid hjP
              go_wp2_with fail
              go_region
              all_goals
                obtain ⟨_, _, _, e1, _, _, _, _, hg7⟩ := id (hacc.resolve_left (fun h => hg1 h.1))
                injection e1 with e1 e2 e3
                injection e1 with e1
                injection e1 with e1
                subst e1 e3
                have hbd := hB.drew
                have HPS' := hB
                have hget' := hB
                by_cases hcq : j = c
                · subst hcq
                  have cD : wr.drew.cell? ⟨b1, o1 + k, none⟩ = some (.string s) := c1
                  have gD : ∀ j, j < P.length → wr.drew.cell? ⟨g, j, none⟩ = some (.string (P.getD j ByteArray.empty)) := hg7
                  have BD : Below w.heap.size w wr.drew := hbd
                  generalize wr.drew = wz at cD gD BD ⊢
                  clear hB hB1 hacc c1 hg7 HPS' hget'
                  have hH := BD.size
                  have GD := Lib.hid gD
                  clear gD
                  go_wp2_with (at_builtin; first
                    | (refine wpList_append_own _ rfl _ _ 35 rfl wz.heap.size 9 i0 (.string ⟨#[]⟩) 1 16 Tryz.underlying35 hi hz0 hz1 hz2 rfl (by decide) _ _ _ rfl (World.ownsRow_nil _ _ _ _) ⟨g, 0, none⟩ j j (strVs ((P.drop 0).take j)) rfl (by rw [strVs_length]; simp; omega) (acc_cells GD.out 0 j (by omega)) strVs_one (by unfold maxLen; omega) (by omega) (Nat.le_refl _) ?_; intro v3 w3 hown3 hgrow3 hnil3; have hb3 := (Below.refl wz.heap.size wz).grown hgrow3 (Nat.le_refl _) (fun k h => by cases h); replace cD := Below.cell_some hb3 cD)
                    | (refine wpList_append_own _ rfl _ _ 35 rfl wz.heap.size 9 i0 (.string ⟨#[]⟩) 1 16 Tryz.underlying35 hi hz0 hz1 hz2 rfl (by decide) _ _ _ rfl (hown3.alloc _) ⟨w3.heap.size, 0, none⟩ 1 1 [.string s] rfl rfl (cell_one_new _ _ _) (fun x hx => by simp at hx; subst hx; rfl) (by unfold maxLen; omega) (by omega) (by have := hb3.size; simp; omega) ?_; intro v4 w4 hown4 hgrow4 hnil4; have hb4 := (hb3.alloc hb3.size _).grown hgrow4 (by have := hb3.size; simp; omega) (fun q hq => (hown3.lt q hq).1))
                    | (refine wpList_append_own _ rfl _ _ 35 rfl wz.heap.size 9 i0 (.string ⟨#[]⟩) 1 16 Tryz.underlying35 hi hz0 hz1 hz2 rfl (by decide) _ _ _ rfl hown4 ⟨g, 0, none⟩ 0 0 (strVs ((P.drop j).take (P.length - j))) rfl (by rw [strVs_length, List.length_take, List.length_drop]; omega) ((fun i u h => by have hl := (strVs_get h).1; have hj0 := hjP.out; rw [List.length_take, List.length_drop] at hl; omega)) strVs_one (by unfold maxLen; omega) (by omega) hb4.size ?_; intro v5 w5 hown5 hgrow5 hnil5; have hb5 := hb4.grown hgrow5 hb4.size (fun q hq => (hown4.lt q hq).1)))
                  have hBw := BD.trans (hb5.mono hH)
                  have e1 : 0 + j + 1 + 0 = (P.take j ++ [s] ++ P.drop j).length := by simp; omega
                  have e2 : [] ++ strVs ((P.drop 0).take j) ++ [.string s] ++ strVs ((P.drop j).take (P.length - j)) = strVs (P.take j ++ [s] ++ P.drop j) := by
                    rw [List.take_of_length_le (l := P.drop j) (by rw [List.length_drop]; exact Nat.le_refl _)]
                    simp [strVs]
                  rw [e1, e2] at hown5
                  have hacc5 := (accAt_own hown5 (by simp)).mono hH
                  go_roundw
                  case rel => exact ⟨k + 1, P.take j ++ [s] ++ P.drop j, by omega, by go_num, hacc5, by simp; omega, fun y hy => by
                    simp only [List.mem_append, List.mem_singleton] at hy
                    rcases hy with (hy | rfl) | hy
                    · exact HPS.out y (List.mem_of_mem_take hy)
                    · exact hsk
                    · exact HPS.out y (List.mem_of_mem_drop hy), hBw, HN⟩
                  case measure => simp [intOf]; omega
                · have hcq2 : ¬ c = j := fun e => hcq e.symm
                  have cD : wr.drew.cell? ⟨b1, o1 + k, none⟩ = some (.string s) := c1
                  have gD : ∀ j, j < P.length → wr.drew.cell? ⟨g, j, none⟩ = some (.string (P.getD j ByteArray.empty)) := hg7
                  have BD : Below w.heap.size w wr.drew := hbd
                  generalize wr.drew = wz at cD gD BD ⊢
                  clear hB hB1 hacc c1 hg7 HPS' hget'
                  have hH := BD.size
                  have GD := Lib.hid gD
                  clear gD
                  go_wp2_with (at_builtin; first
                    | (refine wpList_append_own _ rfl _ _ 35 rfl wz.heap.size 9 i0 (.string ⟨#[]⟩) 1 16 Tryz.underlying35 hi hz0 hz1 hz2 rfl (by decide) _ _ _ rfl (World.ownsRow_nil _ _ _ _) ⟨g, 0, none⟩ j c (strVs ((P.drop 0).take j)) rfl (by rw [strVs_length]; simp; omega) (acc_cells GD.out 0 j (by omega)) strVs_one (by unfold maxLen; omega) (by omega) (Nat.le_refl _) ?_; intro v3 w3 hown3 hgrow3 hnil3; have hb3 := (Below.refl wz.heap.size wz).grown hgrow3 (Nat.le_refl _) (fun k h => by cases h); replace cD := Below.cell_some hb3 cD)
                    | (refine wpList_append_own _ rfl _ _ 35 rfl wz.heap.size 9 i0 (.string ⟨#[]⟩) 1 16 Tryz.underlying35 hi hz0 hz1 hz2 rfl (by decide) _ _ _ rfl (hown3.alloc _) ⟨w3.heap.size, 0, none⟩ 1 1 [.string s] rfl rfl (cell_one_new _ _ _) (fun x hx => by simp at hx; subst hx; rfl) (by unfold maxLen; omega) (by omega) (by have := hb3.size; simp; omega) ?_; intro v4 w4 hown4 hgrow4 hnil4; have hb4 := (hb3.alloc hb3.size _).grown hgrow4 (by have := hb3.size; simp; omega) (fun q hq => (hown3.lt q hq).1))
                    | (refine wpList_append_own _ rfl _ _ 35 rfl wz.heap.size 9 i0 (.string ⟨#[]⟩) 1 16 Tryz.underlying35 hi hz0 hz1 hz2 rfl (by decide) _ _ _ rfl hown4 ⟨g, j, none⟩ (P.length - j) (c - j) (strVs ((P.drop j).take (P.length - j))) rfl (by rw [strVs_length, List.length_take, List.length_drop]; omega) (acc_cells (fun i hi => Below.cell_some hb4 (GD.out i hi)) j (P.length - j) (by omega)) strVs_one (by unfold maxLen; omega) (by omega) hb4.size ?_; intro v5 w5 hown5 hgrow5 hnil5; have hb5 := hb4.grown hgrow5 hb4.size (fun q hq => (hown4.lt q hq).1)))
                  have hBw := BD.trans (hb5.mono hH)
                  have e1 : 0 + j + 1 + (P.length - j) = (P.take j ++ [s] ++ P.drop j).length := by simp; omega
                  have e2 : [] ++ strVs ((P.drop 0).take j) ++ [.string s] ++ strVs ((P.drop j).take (P.length - j)) = strVs (P.take j ++ [s] ++ P.drop j) := by
                    rw [List.take_of_length_le (l := P.drop j) (by rw [List.length_drop]; exact Nat.le_refl _)]
                    simp [strVs]
                  rw [e1, e2] at hown5
                  have hacc5 := (accAt_own hown5 (by simp)).mono hH
                  go_roundw
                  case rel => exact ⟨k + 1, P.take j ++ [s] ++ P.drop j, by omega, by go_num, hacc5, by simp; omega, fun y hy => by
                    simp only [List.mem_append, List.mem_singleton] at hy
                    rcases hy with (hy | rfl) | hy
                    · exact HPS.out y (List.mem_of_mem_take hy)
                    · exact hsk
                    · exact HPS.out y (List.mem_of_mem_drop hy), hBw, HN⟩
                  case measure => simp [intOf]; omega
      · rw [if_neg h0] at hstep
        rw [decide_eq_false h0] at hiv
        replace hiv := Lib.hid hiv
        replace hstep := Lib.hid hstep
        go_wp2_with fail
        refine (hiv.out wr).mono ?_
        rintro e w1 ⟨rfl, hb1⟩
        go_wp2_with fail
        go_roundw
        case rel => exact ⟨k + 1, P, by omega, by go_num, hacc.below hb1, by omega, hPs, below_step hb hb1, hstep⟩
        case measure => simp [intOf]; omega
    · obtain rfl : k = n := by omega
      have HV2 : Hid (vsort (lstF k L) = strTs P) := Lib.hid (by rw [← HV.out, List.take_of_length_le (by rw [lstF_length]; exact Nat.le_refl _)])
      have hSo := hacc.strs
      clear HV
      go_wp2_with fail
      go_ret
      rw [HV2.out]
      exact ⟨⟨_, rfl, hSo⟩, hb⟩
end Go.Proofs.Pw

namespace Go.Proofs.Pw
open Go.RowKit
open Go.Lib hiding intOf
theorem enF_take_succ {n : Nat} {P V : Nat → ByteArray} {R : Nat → List Md} {K : Nat → List Str} {B : Nat → Bool} {k : Nat} (hk : k < n) : (enF n P V R K B).take (k + 1) = (enF n P V R K B).take k ++ [⟨((P k).data.toList, (V k).data.toList), R k, K k, B k⟩] := by
  rw [List.take_add_one, enF_get n P V R K B k hk]; rfl
theorem enF_take_all (n : Nat) (P V : Nat → ByteArray) (R : Nat → List Md) (K : Nat → List Str) (B : Nat → Bool) : (enF n P V R K B).take n = enF n P V R K B := List.take_of_length_le (by rw [enF_length]; exact Nat.le_refl _)
theorem versL_size {l : List En} {p : Str} (h : ShortI l) : (versL l p).length ≤ 1000000 ∧ ∀ x ∈ versL l p, x.length ≤ 1000000 := by
  refine ⟨Nat.le_trans (versL_len l p) h.len, fun x hx => ?_⟩
  obtain ⟨e, he, e1⟩ := versL_mem.1 hx
  have := (h.mds e he).2
  rw [e1] at this
  exact this
set_option maxHeartbeats 4000000 in
set_option maxRecDepth 100000 in
theorem refVersOf_in (a : Option Addr) (n cap : Nat) (P V : Nat → ByteArray) (R : Nat → List Md) (K : Nat → List Str) (Bk : Nat → Bool) (Rv Kv : Nat → Value) (p : ByteArray) (w : World) (h : EntsIn w a n cap P V R K Bk Rv Kv) (hs : ShortI (enF n P V R K Bk)) :
    Calls Tryz.prog 101 #[.slice a n cap, .string p] w fun e w' => (∃ v, e = .returned v ∧ StrsAt w' v (vsort (versL (enF n P V R K Bk) p.data.toList))) ∧ Below w.heap.size w w' := by
  obtain ⟨i0, hi, hz0, hz1, hz2⟩ := info_parts Tryz.infoString
  have hn : n ≤ 1000000 := by have := hs.len; rwa [enF_length] at this
  have H := Lib.hid h
  have HSZ := Lib.hid (versL_size (p := p.data.toList) hs)
  clear h hs
  go_enter Tryz.func101, Tryz.ntmps101
  go_wp2_with fail
  go_loopw [5, 6] (fun o i wr => ∃ (k : Nat) (L : List ByteArray), k ≤ n ∧ i = .int .i64 k ∧ Hid (wr.ownsRow w.heap.size 9 1 o L.length (strVs L)) ∧ L.length ≤ k ∧ Hid (strTs L = versL ((enF n P V R K Bk).take k) p.data.toList) ∧ Below w.heap.size w wr) (fun _ i _ => n - (intOf i).toNat)
  case atStart => exact ⟨0, [], Nat.zero_le _, rfl, Lib.hid (World.ownsRow_nil _ _ _ _), Nat.le_refl _, Lib.hid rfl, Below.refl _ _⟩
  case round =>
    obtain ⟨k, L, hk, rfl, hO, hLk, hT, hBr⟩ := hrel
    obtain ⟨ao, no, co, rfl⟩ := own_form hO.out
    by_cases hlt : k < n
    · have hkn : (k : Int) < (n : Int) := by omega
      obtain ⟨b1, o1, ea, hcell⟩ := H.out.at_ k hlt
      obtain ⟨c0, c1, c2, c3, c4⟩ := hcell.below hBr
      subst ea
      have hTk : versL ((enF n P V R K Bk).take (k + 1)) p.data.toList = versL ((enF n P V R K Bk).take k) p.data.toList ++ (if (P k).data.toList = p.data.toList then [(V k).data.toList] else []) := by
        rw [enF_take_succ hlt, versL_snoc]
      by_cases hpe : (P k).data.toList = p.data.toList
      · have hp0 := bytes_eq.1 hpe
        have hp1 : ((P k).toList == p.toList) = true := by rw [hp0]; simp
        have HN : Hid (strTs (L ++ [V k]) = versL ((enF n P V R K Bk).take (k + 1)) p.data.toList) := Lib.hid (by rw [hTk, if_pos hpe, strTs_snoc, hT.out])
        clear hcell hT hTk hpe hp0 c2 c3 c4
        go_wp2_with (at_builtin; refine wpList_append_own _ rfl _ _ 35 rfl w.heap.size 9 i0 (.string ⟨#[]⟩) 1 16 Tryz.underlying35 hi hz0 hz1 hz2 rfl (by decide) _ _ _ rfl (hO.out.alloc _) ⟨wr.heap.size, 0, none⟩ 1 1 [.string (V k)] rfl rfl (cell_one_new _ _ _) (fun x hx => by simp at hx; subst hx; rfl) (by unfold maxLen; omega) (by omega) (by have := hBr.size; simp; omega) ?_; intro o' w4 hown4 hgrow4 _)
        go_roundw
        case rel =>
          refine ⟨k + 1, L ++ [V k], by omega, by go_num, Lib.hid ?_, by simp; omega, HN, ?_⟩
          · rw [List.length_append, List.length_singleton, ← strVs_snoc]; exact hown4
          · exact (hBr.alloc hBr.size _).grown hgrow4 (by have := hBr.size; simp; omega) (fun q hq => (hO.out.lt q hq).1)
        case measure => simp [intOf]; omega
      · have hp1 : ((P k).toList == p.toList) = false := by rw [toList_data, toList_data]; exact beq_eq_false_iff_ne.2 hpe
        have HN : Hid (strTs L = versL ((enF n P V R K Bk).take (k + 1)) p.data.toList) := Lib.hid (by rw [hTk, if_neg hpe, List.append_nil, hT.out])
        clear hcell hT hTk hpe c2 c3 c4
        go_wp2_with fail
        go_roundw
        case rel => exact ⟨k + 1, L, by omega, by go_num, hO, by omega, HN, hBr⟩
        case measure => simp [intOf]; omega
    · have hT2 : strTs L = versL (enF n P V R K Bk) p.data.toList := by rw [hT.out, show k = n by omega, enF_take_all]
      have hSo := strsAt_own hO.out
      rw [hT2] at hSo
      have hso := sortVers_calls _ _ wr hSo HSZ.out.1 (fun x hx => by have := HSZ.out.2 x hx; omega)
      have hnk : ¬ (k : Int) < (n : Int) := by omega
      replace hso := Lib.hid hso
      clear hT hT2 hSo hO hlt
      go_wp2_with fail
      refine hso.out.mono ?_
      rintro e w5 ⟨⟨v5, rfl, hv5⟩, hb⟩
      go_wp2_with fail
      go_ret
      exact ⟨⟨_, rfl, hv5⟩, below_step hBr hb⟩
end Go.Proofs.Pw
