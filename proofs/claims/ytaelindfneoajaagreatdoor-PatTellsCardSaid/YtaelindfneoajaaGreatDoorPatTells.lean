/- PatTells: its walk. -/
import Derived.Test.YtaelindfneoajaaGreatDoorPatRest
import Derived.Test.YtaelindfneoajaaGreatDoorPatAny
import Derived.Test.YtaelindfneoajaaGreatDoorRefB
import Derived.Test.YtaelindfneoajaaGreatDoorRefSort
import Derived.Test.YtaelindfneoajaaGreatDoorCoded
import Derived.Deep.AppendLies
namespace Go.Proofs.Pw
open Go.RowKit Go.Sort
open Go.Lib hiding intOf

theorem coded3_calls (i j : Nat) (A : Nat → Addr) (w : World) (hE : EnvC A w) (hi : i ≤ 10) :
    Calls Tryz.prog 19 #[errV A i, .int .i64 (j : Nat)] w fun e w' => e = .returned (.bool (decide (i = j))) ∧ Below w.heap.size w w' := by
  have hc := code_calls i A w hE hi
  generalize errV A i = v at hc ⊢
  by_cases hij : i = j
  · subst hij
    replace hc := Lib.hid hc
    go_enter Tryz.func19, Tryz.ntmps19
    go_wp2_with fail
    refine hc.out.mono ?_
    rintro e w1 ⟨rfl, hb1⟩
    go_wp2_with fail
    go_ret
    exact ⟨by simp, hb1⟩
  · have hq : ((i : Int) == (j : Int)) = false := beq_eq_false_iff_ne.2 (by omega)
    have HD := Lib.hid (decide_eq_false hij)
    clear hij
    replace hc := Lib.hid hc
    go_enter Tryz.func19, Tryz.ntmps19
    go_wp2_with fail
    refine hc.out.mono ?_
    rintro e w1 ⟨rfl, hb1⟩
    go_wp2_with fail
    go_ret
    rw [HD.out]
    exact ⟨rfl, hb1⟩

/-! ### pat.Some -/
theorem patSome1_calls (p s : ByteArray) (b : Nat) (w : World) (hE : EnvM w) (hp : p.size ≤ 1000000) (hs : s.size ≤ 1000000) (hc : w.cell? ⟨b, 0, none⟩ = some (.string p)) :
    Calls Tryz.prog 95 #[.string s, .pointer (some ⟨b, 0, none⟩)] w fun e w' => e = .returned (.bool (!pMatch p.data.toList s.data.toList)) ∧ Below w.heap.size w w' := by
  have hm := match_calls p s w hE (by omega) (by omega)
  generalize pMatch p.data.toList s.data.toList = X at hm ⊢
  replace hm := Lib.hid hm
  go_enter Tryz.func95, Tryz.ntmps95
  go_wp2_with fail
  refine hm.out.mono ?_
  rintro e w1 ⟨rfl, hb1⟩
  go_wp2_with fail
  go_ret
  exact ⟨rfl, hb1⟩

theorem Tryz.enters_some1 : ∀ args w, (callFunc 95 args).run Tryz.prog w = .ok (.enter 95 args) w := Go.Proofs.enters_of Tryz.func95 (by kernel_rfl) rfl

set_option maxHeartbeats 1000000 in
set_option maxRecDepth 100000 in
theorem patSome_calls (p : ByteArray) (v : Value) (l : List Str) (w : World) (hE : EnvM w) (hS : StrsAt w v l) (hp : p.size ≤ 1000000) (hn : l.length ≤ 1000000) (hl : ∀ x ∈ l, x.length ≤ 1000000) :
    Calls Tryz.prog 25 #[.string p, v] w fun e w' => (∃ v', e = .returned v' ∧ StrsAt w' v' (l.filter fun s => pMatch p.data.toList s)) ∧ Below w.heap.size w w' := by
  obtain ⟨a, n, cap, L, rfl, rfl, hnc, hcap, hc⟩ := hS
  rw [lstF_length] at hn
  have hB0 := below_alloc w (.cells #[.string p] 9)
  have hcl := cloneS_calls a n cap L (w.alloc (.cells #[.string p] 9)) (by omega) (fun j hj => let ⟨b, o, e1, e2⟩ := hc j hj; ⟨b, o, e1, Below.cell_some hB0 e2⟩)
  have hcp : (w.alloc (.cells #[.string p] 9)).cell? ⟨w.heap.size, 0, none⟩ = some (.string p) := by simp
  have hbl : (w.alloc (.cells #[.string p] 9)).heap.size = w.heap.size + 1 := by simp
  have hE0 := hE.below hB0
  have HL := Lib.hid hl
  replace hcl := Lib.hid hcl
  clear hc hl
  go_enter Tryz.func25, Tryz.ntmps25
  go_wp2_with fail
  refine hcl.out.mono ?_
  rintro e w1 ⟨h, hb1⟩
  rcases h with ⟨rfl, rfl⟩ | ⟨g, c, rfl, h1, h2, h3, h4, h5⟩
  · go_wp2_with fail
    refine (deleteFunc_nil _ 0 _).mono ?_
    rintro e w' ⟨rfl, rfl⟩
    go_wp2_with fail
    go_ret
    exact ⟨⟨_, rfl, StrsAt.nil _⟩, below_step hB0 hb1⟩
  · rw [hbl] at h1
    have hdz : (lstF n L).toArray.size = n := by rw [List.size_toArray, lstF_length]
    have hT : TestsB 95 #[.pointer (some ⟨w.heap.size, 0, none⟩)] (fun s => !pMatch p.data.toList s) (lstF n L).toArray.toList (w.heap.size + 1) w1 := by
      intro W hB s hs
      obtain ⟨j, hj, rfl⟩ := lstF_mem'.1 (by simpa using hs)
      have hbW : Below (w.heap.size + 1) (w.alloc (.cells #[.string p] 9)) W := by rw [← hbl]; exact hb1.trans (by rw [hbl]; exact hB)
      have hbW2 : Below (w.alloc (.cells #[.string p] 9)).heap.size (w.alloc (.cells #[.string p] 9)) W := by rw [hbl]; exact hbW
      have := patSome1_calls p (L j) w.heap.size W (hE0.below hbW2) hp (by rw [size_eq]; exact HL.out _ (lstF_mem'.2 ⟨j, hj, rfl⟩)) (Below.cell_some hbW2 hcp)
      rw [← bytes_back (L j)] at this
      exact this
    have hD := deleteFunc_calls 95 #[.pointer (some ⟨w.heap.size, 0, none⟩)] Tryz.enters_some1 (fun s => !pMatch p.data.toList s) g 0 c (w.heap.size + 1) (lstF n L).toArray w1 (by rw [hdz]; omega) (by rw [hdz]; exact h3) h1 h2 h5 hT
    rw [hdz] at hD
    have hfe : ((lstF n L).toArray.toList.filter fun x => !(!pMatch p.data.toList x)) = (lstF n L).filter fun x => pMatch p.data.toList x := by
      congr 1; funext x; simp
    simp only [hfe] at hD
    have hlen : ((lstF n L).filter fun x => pMatch p.data.toList x).length ≤ c := by
      have := List.length_filter_le (fun x => pMatch p.data.toList x) (lstF n L)
      rw [lstF_length] at this
      omega
    obtain ⟨R, HR⟩ : ∃ R, Hid ((lstF n L).filter (fun x => pMatch p.data.toList x) = R) := ⟨_, Lib.hid rfl⟩
    rw [HR.out] at hD hlen
    replace hD := Lib.hid hD
    clear hT hfe hcl
    go_wp2_with fail
    refine hD.out.mono ?_
    rintro e w2 ⟨rfl, hb2, h6⟩
    go_wp2_with fail
    go_ret
    rw [HR.out]
    refine ⟨⟨_, rfl, strsAt_holds h6 hlen h4⟩, ?_⟩
    have hb3 : Below w.heap.size w1 w2 := hb2.mono (by omega)
    exact (below_step hB0 hb1).trans hb3

/-! ### the law -/
theorem ownsRow_below {w w' : World} {base e size n : Nat} {v : Value} {xs : List Value} (h : w.ownsRow base e size v n xs) (hb : Below w.heap.size w w') : w'.ownsRow base e size v n xs := by
  refine ⟨h.1, ?_⟩
  rcases h.2 with h2 | ⟨g, c, cur, h1, h2, h3, h4⟩
  · exact .inl h2
  · exact .inr ⟨g, c, cur, h1, h2, (hb.block g (Array.getElem?_eq_some_iff.1 h3).1).trans h3, h4⟩
theorem apart_ne {u o : Value} (h : ∀ b, o.ownBlock = some b → u.ownBlock ≠ some b) : u.ownBlock = none ∨ u.ownBlock ≠ o.ownBlock := by
  by_cases hu : u.ownBlock = none
  · exact .inl hu
  · refine .inr (fun e => ?_)
    cases ho : o.ownBlock with
    | none => exact hu (e.trans ho)
    | some b => exact h b ho (e.trans ho)
theorem own_slice (g n c : Nat) : (Value.slice (some ⟨g, 0, none⟩) n c).ownBlock = some g := rfl

set_option maxRecDepth 100000 in
set_option maxHeartbeats 4000000 in
theorem patTells_calls (A : Nat → Addr) (p : ByteArray) (v : Value) (l : List Str) (w : World) (hE : EnvP allErrs A w) (hEC : EnvC A w) (hS : StrsAt w v l) :
    Calls Tryz.prog 4 #[.string p, v] w fun e w' => e = .returned (.bool true) ∧ Below w.heap.size w w' := by
  obtain ⟨i0, hi, hz0, hz1, hz2⟩ := info_parts Tryz.infoString
  obtain ⟨pa, n, cap, L, rfl, rfl, hnc, hcap, hcl⟩ := hS
  have HC := Lib.hid hcl
  clear hcl
  have hpd := patterned_calls w hE.m
  replace hpd := Lib.hid hpd
  by_cases hp : 60 < p.size
  · have hp' : (60 : Int) < (p.size : Int) := by omega
    go_enter Tryz.func4, Tryz.ntmps4
    go_wp2_with fail
    refine hpd.out.mono ?_
    rintro e w1 ⟨rfl, hb1⟩
    go_wp2_with fail
    go_ret
    exact ⟨rfl, hb1⟩
  · by_cases hn : 15 < n
    · have hp' : ¬ (60 : Int) < (p.size : Int) := by omega
      have hn' : (15 : Int) < (n : Int) := by omega
      go_enter Tryz.func4, Tryz.ntmps4
      go_wp2_with fail
      refine hpd.out.mono ?_
      rintro e w1 ⟨rfl, hb1⟩
      go_wp2_with fail
      go_ret
      exact ⟨rfl, hb1⟩
    · have hp' : ¬ (60 : Int) < (p.size : Int) := by omega
      have hn' : ¬ (15 : Int) < (n : Int) := by omega
      have hiw := fun W => isWild_calls p W (by omega)
      have hwd := fun W hW => wild_calls p W hW (by omega)
      generalize contains p.data.toList dots = X at hiw hwd
      have hck := fun W hW => patCheck_calls allErrs A (by decide) p W hW (by omega)
      have hpe := fun W => patError_calls p W (by omega)
      have hq10 : patErrOf (pathErr (xs (toks p.data.toList))) ≤ 10 := by
        have := pathErr_le (xs (toks p.data.toList))
        unfold patErrOf
        split <;> omega
      generalize patErrOf (pathErr (xs (toks p.data.toList))) = q at hck hpe hq10
      have hcd := fun W hW => coded3_calls q q A W hW hq10
      rw [decide_eq_true rfl] at hcd
      have hXX : (X != X) = false := by cases X <;> rfl
      replace hiw := Lib.hid hiw
      replace hwd := Lib.hid hwd
      replace hck := Lib.hid hck
      replace hpe := Lib.hid hpe
      replace hcd := Lib.hid hcd
      go_enter Tryz.func4, Tryz.ntmps4
      have hB := Below.refl w.heap.size w
      go_wp2_with fail
      refine (hpd.out).mono ?_
      rintro e w1 ⟨rfl, hb⟩
      replace hB := below_step hB hb
      replace hE := hE.below hb
      replace hEC := hEC.below hb
      clear hb
      go_wp2_with fail
      refine (hiw.out _).mono ?_
      rintro e w' ⟨rfl, rfl⟩
      go_wp2_with fail
      refine (hck.out _ hE).mono ?_
      rintro e w1 ⟨rfl, hb⟩
      replace hB := below_step hB hb
      replace hE := hE.below hb
      replace hEC := hEC.below hb
      clear hb
      go_wp2_with fail
      refine (hpe.out _).mono ?_
      rintro e w2 ⟨rfl, hb⟩
      replace hB := below_step hB hb
      replace hE := hE.below hb
      replace hEC := hEC.below hb
      clear hb
      go_wp2_with fail
      refine (hcd.out _ hEC).mono ?_
      rintro e w3 ⟨rfl, hb⟩
      replace hB := below_step hB hb
      replace hE := hE.below hb
      replace hEC := hEC.below hb
      clear hb
      go_wp2_with fail
      refine (hwd.out _ hE.m).mono ?_
      rintro e w' ⟨rfl, rfl⟩
      generalize hww : w3 = w4 at hB hE hEC ⊢
      clear hww hXX hiw hwd hck hpe hcd
      go_wp2_with fail
      go_loopw [7, 8, 9] (fun o u i wr => ∃ (k : Nat) (W : List ByteArray), k ≤ n ∧ i = .int .i64 k ∧ W.length ≤ k ∧ wr.ownsRow w4.heap.size 9 1 o k (strVs ((List.range k).map L)) ∧ wr.ownsRow w4.heap.size 9 1 u W.length (strVs W) ∧ (∀ b, o.ownBlock = some b → u.ownBlock ≠ some b) ∧ Below w4.heap.size w4 wr ∧ Hid ((∀ j, j < k → (L j).size ≤ 60) ∧ strTs W = ((lstF n L).take k).filter fun x => pMatch p.data.toList x)) (fun _ _ i _ => n - (intOf i).toNat)
      case atStart => exact ⟨0, [], Nat.zero_le _, rfl, Nat.le_refl _, World.ownsRow_nil _ _ _ _, World.ownsRow_nil _ _ _ _, fun b h => (by cases h), Below.refl _ _, Lib.hid ⟨fun j hj => absurd hj (Nat.not_lt_zero _), rfl⟩⟩
      case round =>
        obtain ⟨k, W, hk, rfl, hWk, hown, hwant, hdis, hbr, HA⟩ := hrel
        have hbw := below_step hB hbr
        by_cases hlt : k < n
        · obtain ⟨b1, o1, rfl, c1⟩ := HC.out k hlt
          have c0 := c1
          replace c1 := Below.cell_some hbw c1
          by_cases h20 : 60 < (L k).size
          · have h20' : (60 : Int) < ((L k).size : Int) := by omega
            go_wp2_with fail
            go_ret
            exact ⟨rfl, hbw⟩
          · have h20' : ¬ (60 : Int) < ((L k).size : Int) := by omega
            have HA2 : Hid (∀ j, j < k + 1 → (L j).size ≤ 60) := Lib.hid (fun j hj => by
              by_cases e : j = k
              · subst e; omega
              · exact HA.out.1 j (by omega))
            have hft : ((lstF n L).take (k + 1)).filter (fun x => pMatch p.data.toList x) = strTs W ++ (if pMatch p.data.toList (L k).data.toList = true then [(L k).data.toList] else []) := by
              rw [List.take_add_one, lstF_get n L k hlt, List.filter_append, HA.out.2]
              congr 1
              by_cases hy : pMatch p.data.toList (L k).data.toList = true
              · rw [if_pos hy]; simp [hy]
              · rw [if_neg hy]; simp [hy]
            have him := fun W => isMatch_calls p (L k) W (by omega) (by omega)
            have hmm := fun W hW => match_calls p (L k) W hW (by omega) (by omega)
            generalize pMatch p.data.toList (L k).data.toList = Y at him hmm hft
            have HFT := Lib.hid hft
            have hYY : (Y != Y) = false := by cases Y <;> rfl
            replace hE := hE.below hbr
            replace him := Lib.hid him
            replace hmm := Lib.hid hmm
            clear h20 hft hEC
            go_wp2_with fail
            refine (him.out _).mono ?_
            rintro e w5 ⟨rfl, hb5⟩
            replace c1 := Below.cell_some hb5 c1
            go_wp2_with fail
            refine (hmm.out _ (hE.below hb5).m).mono ?_
            rintro e w6 ⟨rfl, hb6⟩
            replace c1 := Below.cell_some hb6 c1
            have hb56 := below_step hb5 hb6
            replace hown := ownsRow_below hown hb56
            replace hwant := ownsRow_below hwant hb56
            have hbr6 := below_step hbr hb56
            have HD := Lib.hid hdis
            clear hb5 hb6 hb56 hbr hbw him hmm hdis
            cases Y with
            | true =>
              go_wp2_with (at_builtin; first
                | (refine wpList_append_lies _ rfl _ _ 22 rfl w4.heap.size 9 i0 (.string ⟨#[]⟩) 1 16 Tryz.underlying22 hi hz0 hz1 hz2 rfl (by decide) _ _ _ rfl (hown.alloc _) ⟨w6.heap.size, 0, none⟩ 1 1 [.string (L k)] rfl rfl (cell_one_new _ _ _) (fun x hx => by simp at hx; subst hx; rfl) (by decide) (by unfold maxLen; omega) (by omega) (by have := hbr6.size; simp; omega) _ rfl ?_; intro g7 c7 w7 hown7 hgrow7 hg7 hl7; have hb7 := (hbr6.alloc hbr6.size _).grown hgrow7 (by have := hbr6.size; simp; omega) (fun q hq => (hown.lt q hq).1); have hwant7 := (hwant.alloc _).kept hgrow7 (apart_ne HD.out); replace c1 : w7.cell? ⟨b1, o1 + k, none⟩ = some (.string (L k)) := Below.cell_some (hB.trans (hb7.mono hB.size)) c0)
                | (refine wpList_append_lies _ rfl _ _ 22 rfl w4.heap.size 9 i0 (.string ⟨#[]⟩) 1 16 Tryz.underlying22 hi hz0 hz1 hz2 rfl (by decide) _ _ _ rfl (hwant7.alloc _) ⟨w7.heap.size, 0, none⟩ 1 1 [.string (L k)] rfl rfl (cell_one_new _ _ _) (fun x hx => by simp at hx; subst hx; rfl) (by decide) (by unfold maxLen; omega) (by omega) (by have := hb7.size; simp; omega) _ rfl ?_; intro g8 c8 w8 hwant8 hgrow8 hg8 hl8; have hb8 := (hb7.alloc hb7.size _).grown hgrow8 (by have := hb7.size; simp; omega) (fun q hq => (hwant7.lt q hq).1)))
              go_roundw
              case rel =>
                refine ⟨k + 1, W ++ [L k], by omega, by go_num, by simp; omega, ?_, ?_, ?_, hb8, Lib.hid ⟨HA2.out, by rw [HFT.out, strTs_snoc]; simp⟩⟩
                · rw [List.range_succ, List.map_append, List.map_singleton, ← strVs_snoc]
                  exact (hown7.alloc _).kept hgrow8 (by
                    rw [own_slice]
                    refine .inr (fun e => ?_)
                    rcases hg7 with h | h
                    · exact HD.out _ h e.symm
                    · have := (hwant.lt _ e.symm).2
                      simp at h
                      omega)
                · rw [List.length_append, List.length_singleton, ← strVs_snoc]; exact hwant8
                · intro b hb
                  rw [own_slice] at hb ⊢
                  injection hb with hb
                  subst hb
                  intro e
                  injection e with e
                  subst e
                  rcases hg8 with h | h
                  · rcases hg7 with h2 | h2
                    · exact HD.out _ h2 h
                    · have := (hwant.lt _ h).2
                      simp at h2
                      omega
                  · simp at h
                    omega
              case measure => simp [intOf]; omega
            | false =>
              go_wp2_with (at_builtin; refine wpList_append_lies _ rfl _ _ 22 rfl w4.heap.size 9 i0 (.string ⟨#[]⟩) 1 16 Tryz.underlying22 hi hz0 hz1 hz2 rfl (by decide) _ _ _ rfl (hown.alloc _) ⟨w6.heap.size, 0, none⟩ 1 1 [.string (L k)] rfl rfl (cell_one_new _ _ _) (fun x hx => by simp at hx; subst hx; rfl) (by decide) (by unfold maxLen; omega) (by omega) (by have := hbr6.size; simp; omega) _ rfl ?_; intro g7 c7 w7 hown7 hgrow7 hg7 hl7; have hb7 := (hbr6.alloc hbr6.size _).grown hgrow7 (by have := hbr6.size; simp; omega) (fun q hq => (hown.lt q hq).1); have hwant7 := (hwant.alloc _).kept hgrow7 (apart_ne HD.out))
              go_roundw
              case rel =>
                refine ⟨k + 1, W, by omega, by go_num, by omega, ?_, hwant7, ?_, hb7, Lib.hid ⟨HA2.out, by rw [HFT.out]; simp⟩⟩
                · rw [List.range_succ, List.map_append, List.map_singleton, ← strVs_snoc]; exact hown7
                · intro b hb
                  rw [own_slice] at hb
                  injection hb with hb
                  subst hb
                  rcases hg7 with h | h
                  · exact HD.out _ h
                  · intro e
                    have := (hwant.lt _ e).2
                    simp at h
                    omega
              case measure => simp [intOf]; omega
        · obtain rfl : k = n := by omega
          have hSo : StrsAt wr _ (strTs ((List.range k).map L)) := strsAt_own (base := w4.heap.size) (e := 9) (by rw [List.length_map, List.length_range]; exact hown)
          have hSw : StrsAt wr _ (strTs W) := strsAt_own (base := w4.heap.size) (e := 9) hwant
          have hll : strTs ((List.range k).map L) = lstF k L := by simp [strTs, lstF]
          rw [hll] at hSo
          have hSi : StrsAt wr (.slice pa k cap) (lstF k L) := ⟨pa, k, cap, L, rfl, rfl, hnc, hcap, fun j hj => let ⟨b1, o1, e, h⟩ := HC.out j hj; ⟨b1, o1, e, Below.cell_some hbw h⟩⟩
          have hW : strTs W = (lstF k L).filter fun x => pMatch p.data.toList x := by
            rw [HA.out.2, List.take_of_length_le (by rw [lstF_length]; exact Nat.le_refl _)]
          rw [hW] at hSw
          have hso := fun o (h : StrsAt wr o (lstF k L)) => patSome_calls p o (lstF k L) wr (hE.below hbr).m h (by omega) (by rw [lstF_length]; omega) (fun x hx => by
            obtain ⟨j, hj, rfl⟩ := lstF_mem'.1 hx
            rw [← size_eq]
            have := HA.out.1 j hj
            omega)
          have HSO := Lib.hid (hso _ hSo)
          clear hso hown hwant hll hW hdis
          generalize (lstF k L).filter (fun x => pMatch p.data.toList x) = F at hSw HSO
          go_wp2_with fail
          refine HSO.out.mono ?_
          rintro e w5 ⟨⟨v5, rfl, hS5⟩, hb⟩
          have hsm1 := refSame_calls _ _ _ _ w5 hS5 (hSw.below hb)
          rw [decide_eq_true rfl] at hsm1
          have hbw5 := below_step hbw hb
          have hSo5 := hSo.below hb
          have hSi5 := hSi.below hb
          obtain ⟨a5, n5, c5, L5, rfl, _, _, _, _⟩ := id hS5
          replace hsm1 := Lib.hid hsm1
          clear hb hS5 hSw hSo hSi HSO
          go_wp2_with fail
          refine hsm1.out.mono ?_
          rintro e w6 ⟨rfl, hb⟩
          have hsm2 := refSame_calls _ _ _ _ w6 (hSo5.below hb) (hSi5.below hb)
          rw [decide_eq_true rfl] at hsm2
          have hbw6 := below_step hbw5 hb
          replace hsm2 := Lib.hid hsm2
          clear hb hSo5 hSi5 hsm1
          go_wp2_with fail
          refine hsm2.out.mono ?_
          rintro e w7 ⟨rfl, hb⟩
          go_wp2_with fail
          go_ret
          exact ⟨rfl, below_step hbw6 hb⟩
end Go.Proofs.Pw
