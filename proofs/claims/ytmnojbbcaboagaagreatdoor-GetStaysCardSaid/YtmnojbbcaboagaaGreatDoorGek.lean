/- Ge: walks and plain laws, joined: VerSplitD VerCmpD Build. Conditions: at each theorem. -/
import Derived.Test.YtmnojbbcaboagaaGreatDoorGej
import Derived.Test.YtmnojbbcaboagaaGreatDoorGeg
import Derived.Test.YtmnojbbcaboagaaGreatDoorShelf
import Derived.Test.YtmnojbbcaboagaaGreatDoorGeb
import Derived.Shelf.Strings.BuilderK
import Derived.Shelf.Strings.OnBuilder

namespace Go.Proofs.Pw
open Go.RowKit
open Go.Lib hiding intOf
theorem splitD_calls (s sep : ByteArray) (w : World) (hE : EnvM w) (hs : s.size ≤ 4000000000) (h1 : 1 ≤ sep.size) :
    Calls Tryz.prog 36 #[.string s, .string sep] w fun e w' => ∃ n, e = .returned (.slice (some ⟨w.heap.size, 0, none⟩) n n) ∧ 1 ≤ n ∧ n ≤ s.size + 1 ∧
      Hid (lstF n (splitL s sep) = split s.data.toList sep.data.toList) ∧ Bel w.heap.size w w' ∧ (∀ j, j < n → w'.cell? ⟨w.heap.size, j, none⟩ = some (.string (splitL s sep j))) ∧ w.heap.size < w'.heap.size := by
  obtain ⟨m, hm⟩ := hE.maxLen
  refine (Tryz.strings_Split s sep m w (by omega) hm h1).mono fun e w' ⟨h, h2⟩ => ?_
  refine ⟨_, h, by omega, by have := countB_le sep h1 s.size s (Nat.le_refl _); omega, splitL_lstF s sep h1, h2 ▸ bel_alloc _ _, ?_, by rw [h2]; simp⟩
  intro j hj
  have hl := splitB_all sep h1 0 _ s rfl
  rw [h2, World.cell?_alloc_at _ _ _ _ rfl]
  simp only [List.getElem?_toArray, List.getElem?_map, splitL]
  rw [List.getElem?_eq_getElem (by omega)]
  simp [List.getD_eq_getElem?_getD, List.getElem?_eq_getElem (show j < (splitB sep 0 (countB s sep) s).length by omega)]
theorem cutD_calls (s sep : ByteArray) (w : World) (hE : EnvM w) (hs : s.size ≤ 4000000000) :
    Calls Tryz.prog 90 #[.string s, .string sep] w fun e w' => e = .returned (.tuple #[.string ⟨(Lib.cut s.data.toList sep.data.toList).1.toArray⟩, .string ⟨(Lib.cut s.data.toList sep.data.toList).2.1.toArray⟩, .bool (Lib.cut s.data.toList sep.data.toList).2.2]) ∧ Bel w.heap.size w w' := by
  obtain ⟨m, hm⟩ := hE.maxLen
  refine (Tryz.strings_Cut s sep m w (by omega) hm).mono ?_
  rintro e w' ⟨rfl, n, rfl⟩
  exact ⟨rfl, Bel.drewN (Bel.refl _ _) _⟩
set_option maxHeartbeats 2000000 in
set_option maxRecDepth 100000 in
theorem verSplitD_calls (ks : List Nat) (A : Nat → Addr) (s : ByteArray) (w : World) (hE : EnvP ks A w) (hs : s.size ≤ 1000000000) (hok : verErr s.data.toList = 0) :
    Calls Tryz.prog 40 #[.string s] w fun e w' => Bel w.heap.size w w' ∧ ∃ v, e = .returned (.tuple #[.agg #[.int .i64 (verNum s.data.toList 0 : Nat), .int .i64 (verNum s.data.toList 1 : Nat), .int .i64 (verNum s.data.toList 2 : Nat), v], errV A (verErr s.data.toList)]) ∧ StrsAt w' v (verPre s.data.toList) := by
  obtain ⟨hf, hl, hws, hps, _⟩ := (verErr_zero s.data.toList).1 hok
  have HWS := Lib.hid hws
  have HPS := Lib.hid hps
  clear hws hps hok
  have ht : (trimPrefix s.data.toList [118]).length ≤ s.size := by rw [size_eq s]; exact trimPrefix_le _ _
  have hc1 := (cut_le (trimPrefix s.data.toList [118]) [45])
  have ht4 : (⟨(trimPrefix s.data.toList [118]).toArray⟩ : ByteArray).size ≤ 4000000000 := Nat.le_trans ht (by omega)
  have hc4 : (⟨(cut (trimPrefix s.data.toList [118]) [45]).1.toArray⟩ : ByteArray).size ≤ 4000000000 := Nat.le_trans hc1.1 (Nat.le_trans ht (by omega))
  have hp4 : (⟨(cut (trimPrefix s.data.toList [118]) [45]).2.1.toArray⟩ : ByteArray).size ≤ 1000000000 := Nat.le_trans hc1.2 (Nat.le_trans ht hs)
  have h5 : ∀ n L, (Hid (lstF n L = split (cut (trimPrefix s.data.toList [118]) [45]).1 [46])) → n = 3 ∧ lstF 3 L = verWords s.data.toList := fun n L h => by
    have := congrArg List.length h.out
    rw [lstF_length] at this
    have e : n = 3 := this.trans hl
    subst e
    exact ⟨rfl, h.out⟩
  have HW : Hid (verWords s.data.toList = split (cut (trimPrefix s.data.toList [118]) [45]).1 [46]) := Lib.hid rfl
  have HP : Hid (verPres s.data.toList = if (cut (trimPrefix s.data.toList [118]) [45]).2.2 then split (cut (trimPrefix s.data.toList [118]) [45]).2.1 [46] else []) := Lib.hid rfl
  have HV : Hid (verErr s.data.toList = verErrs s.data.toList) := Lib.hid (by unfold verErr; rw [if_neg]; rw [hf, hl]; simp)
  have HF := Lib.hid hf
  clear hf hl
  go_enter Tryz.func40, Tryz.ntmps40
  go_wp2_with fail
  have hb0 := bel_alloc w (.cells #[.int .i64 0, .int .i64 0, .int .i64 0, .slice none 0 0] 83)
  refine (cutPrefix_calls _ _ _).mono ?_
  rintro e w1 ⟨rfl, hw1⟩
  subst hw1
  rw [show (⟨#[118]⟩ : ByteArray).data.toList = [118] from rfl, HF.out]
  have hE0 := hE.below hb0.b
  go_wp2_with fail
  refine (cutD_calls _ _ _ hE0.m ht4).mono ?_
  rintro e w2 ⟨rfl, hb1⟩
  have hE1 := hE0.below hb1.b
  have hb01 := bel_step hb0 hb1
  have hz0 := (box4_alloc w (.int .i64 0) (.int .i64 0) (.int .i64 0) (.slice none 0 0) 83).below hb1.b
  have hz0s : w.heap.size < w2.heap.size := lt_of_cell hz0.c0
  rw [show (⟨#[45]⟩ : ByteArray).data.toList = [45] from rfl]
  rw [data_mk]
  generalize hH : (cut (trimPrefix s.data.toList [118]) [45]).1 = hd at hc4 h5 HW ⊢
  generalize hG : (cut (trimPrefix s.data.toList [118]) [45]).2.1 = pr at hp4 HP ⊢
  generalize hB : (cut (trimPrefix s.data.toList [118]) [45]).2.2 = has at HP ⊢
  clear hH hG hB hc1 ht4 ht
  go_wp2_with fail
  refine (splitD_calls _ ⟨#[46]⟩ _ hE1.m hc4 (by decide)).mono ?_
  rintro e w3 ⟨n, rfl, hn1, hn2, HL, hb2, hc2, hz2⟩
  obtain ⟨rfl, hn⟩ := h5 n _ HL
  have hE2 := hE1.below hb2.b
  have hb02 := bel_step hb01 hb2
  have hz2 := hz0.below hb2.b
  have HN := Lib.hid hn
  have hLs := lstF_mem_le (by decide) HL.out
  rw [data_mk] at hLs
  have hhd : hd.length ≤ 4000000000 := hc4
  generalize splitL ⟨hd.toArray⟩ ⟨#[46]⟩ = L at hc2 HN hLs ⊢
  have hLs4 : ∀ j, j < 3 → (L j).size ≤ 4000000000 := fun j hj => Nat.le_trans (hLs j hj) hhd
  have hHC := Lib.hid hc2
  clear hn h5 hb1 hb2 hb01 hE0 hE1 hz0 HL HW hn1 hn2 hc4 hLs hhd hc2
  go_wp2_with fail
  have hba := bel_alloc w3 (.cells #[.int .i64 0, .int .i64 0, .int .i64 0] 139)
  go_loopw [10, 41] (fun e i wr => ∃ k : Nat, k ≤ 3 ∧ i = .int .i64 k ∧ e = errV A (numErrs ((lstF 3 L).take k) 0) ∧ Bel w3.heap.size w3 wr ∧ Nums wr w3.heap.size L k) (fun _ i _ => 3 - (intOf i).toNat)
  case atStart => exact ⟨0, by omega, rfl, rfl, hba, nums_alloc _ _ _⟩
  case round =>
    obtain ⟨k, hk, rfl, rfl, hbr, hN⟩ := hrel
    have hEr := hE2.below hbr.b
    by_cases hlt : k < 3
    · have hck := Below.cell_some hbr.b (hHC.out k hlt)
      go_wp2_with fail
      refine (numberD_calls ks A (L k) wr hEr (hLs4 k hlt) (HWS.out _ (by rw [← HN.out]; exact List.mem_of_getElem? (lstF_get 3 L k hlt)))).mono ?_
      rintro e w4 ⟨rfl, hb4⟩
      have hN4 := hN.below hb4.b
      have hE4 := hEr.below hb4.b
      have hbr4 := bel_step hbr hb4
      have hn1 := hN4.c k hlt
      have hn2 := hN4.fr k
      go_wp2_with fail
      have hbs : Bel w3.heap.size w3 (w4.setCell ⟨w3.heap.size, k, none⟩ (.int .i64 ((numberOf (L k).data.toList).1 : Nat))) := hbr4.setCell (Nat.le_refl _) _
      have hE5 := hE2.below hbs.b
      have hN5 := hN4.step hlt
      refine (worse_calls ks A (numErrs ((lstF 3 L).take k) 0) (numberOf (L k).data.toList).2 _ hE5 ?_).mono ?_
      · have := numErrs_le ((lstF 3 L).take k) 0 (by decide)
        have h12 := hE.has
        rcases (by omega : numErrs ((lstF 3 L).take k) 0 = 0 ∨ numErrs ((lstF 3 L).take k) 0 = 1 ∨ numErrs ((lstF 3 L).take k) 0 = 2) with h | h | h
        · exact .inl h
        · rw [h]; exact .inr h12.1
        · rw [h]; exact .inr h12.2
      rintro e w5 ⟨rfl, hw5⟩
      subst hw5
      have hst := numErrs_snoc ((lstF 3 L).take k) (L k).data.toList 0
      rw [← lstF_take_succ 3 L k hlt] at hst
      rw [← hst]
      clear hst
      go_wp2_with fail
      go_roundw
      case rel => exact ⟨k + 1, by omega, by go_num, rfl, hbs, hN5⟩
      case measure => simp [intOf]; omega
    · obtain rfl : k = 3 := by omega
      have hn0 := hN.c 0 (by decide)
      have hn1 := hN.c 1 (by decide)
      have hn2 := hN.c 2 (by decide)
      rw [lstF_take_all, HN.out]
      have hbA := bel_alloc wr (.cells #[.int .i64 (numAt L 3 0), .int .i64 (numAt L 3 1), .int .i64 (numAt L 3 2), .slice none 0 0] 83)
      have hpA := box4_alloc wr (.int .i64 (numAt L 3 0)) (.int .i64 (numAt L 3 1)) (.int .i64 (numAt L 3 2)) (.slice none 0 0) 83
      have hb3A : Bel w3.heap.size w3 _ := bel_step hbr hbA
      have hEA := hE2.below hb3A.b
      have hnew : w.heap.size < wr.heap.size := Nat.lt_of_lt_of_le (lt_of_cell hz2.c0) hbr.size
      have hrs : w3.heap.size ≤ wr.heap.size := hbr.size
      have hE3' := hE2
      clear hba hE2 hEr hN hHC hLs4 hbr
      cases has
      case' false =>
        have hPr : verPres s.data.toList = [] := HP.out
        have hce : numErrs (verWords s.data.toList) 0 = verErrs s.data.toList := by unfold verErrs; rw [hPr]; rfl
        rw [hce]
        have hS : StrsAt' (wr.alloc (.cells #[.int .i64 (numAt L 3 0), .int .i64 (numAt L 3 1), .int .i64 (numAt L 3 2), .slice none 0 0] 83)) (.slice none 0 0) (verPres s.data.toList) w.heap.size := by
          rw [hPr]; exact ⟨StrsAt.nil _, by intro q n c h; cases h⟩
        have hzf := hz2.below hb3A.b
        have hbF := bel_step hb02 hb3A
        have hpF := hpA
        clear hPr hce
        go_wp2_with fail
        go_loop [10, 71] (fun e i => e = errV A (verErrs s.data.toList) ∧ i = .int .i64 0) (fun _ _ => 0)
        case atStart => exact ⟨rfl, rfl⟩
        case' round =>
          obtain ⟨rfl, rfl⟩ := hrel
          generalize hwF : wr.alloc (.cells #[.int .i64 (numAt L 3 0), .int .i64 (numAt L 3 1), .int .i64 (numAt L 3 2), .slice none 0 0] 83) = wF at hS hzf hbF hpF ⊢
          generalize wr.heap.size = pb at hpF hnew hrs ⊢
          clear hpA hbA hb3A hEA hE3' HP
      case' true =>
        have hPr : verPres s.data.toList = split pr [46] := HP.out
        go_wp2_with fail
        generalize wr.alloc (.cells #[.int .i64 (numAt L 3 0), .int .i64 (numAt L 3 1), .int .i64 (numAt L 3 2), .slice none 0 0] 83) = wA at hbA hpA hb3A hEA ⊢
        have hrA : wr.heap.size < wA.heap.size := lt_of_cell hpA.c0
        refine (splitD_calls _ ⟨#[46]⟩ _ hEA.m (Nat.le_trans hp4 (by decide)) (by decide)).mono ?_
        rintro e wB ⟨n, rfl, hm1, hm2, HLp, hbB, hcB, hzB⟩
        have hLp := lstF_mem_le (by decide) HLp.out
        have hn9 : n ≤ 1000000001 := Nat.le_trans hm2 (Nat.succ_le_succ hp4)
        have hPn : Hid (lstF n (splitL ⟨pr.toArray⟩ ⟨#[46]⟩) = verPres s.data.toList) := Lib.hid (HLp.out.trans hPr.symm)
        rw [data_mk] at hLp
        have hpr : pr.length ≤ 4000000000 := Nat.le_trans hp4 (by decide)
        generalize splitL ⟨pr.toArray⟩ ⟨#[46]⟩ = P at hcB hPn hLp ⊢
        have hPs : ∀ j, j < n → (P j).size ≤ 4000000000 := fun j hj => Nat.le_trans (hLp j hj) hpr
        have hpB := hpA.below hbB.b
        have pb3 := hpB.c3
        have pf3 := hpB.fr 3
        have hpC := hpB.set3 (.slice (some ⟨wA.heap.size, 0, none⟩) n n)
        have hb3B := bel_step hb3A hbB
        have hb3C : Bel w3.heap.size w3 (wB.setCell ⟨wr.heap.size, 3, none⟩ (.slice (some ⟨wA.heap.size, 0, none⟩) n n)) := hb3B.setCell (by have := lt_of_cell hpA.c0; exact hrs) _
        have hcC : ∀ j, j < n → (wB.setCell ⟨wr.heap.size, 3, none⟩ (.slice (some ⟨wA.heap.size, 0, none⟩) n n)).cell? ⟨wA.heap.size, j, none⟩ = some (.string (P j)) := fun j hj => by
          rw [World.cell?_setCell_other _ _ _ _ (by intro e; injection e with e1 _ _; omega)]; exact hcB j hj
        have HC := Lib.hid hcC
        have hE3 := hE3'.below hb3C.b
        clear hm1 hm2 HLp hLp hpr HP hPr hcB hbB hbA hEA hcC hpA hpB hzB
        go_wp2_with fail
        clear pb3 pf3
        generalize wB.setCell ⟨wr.heap.size, 3, none⟩ (.slice (some ⟨wA.heap.size, 0, none⟩) n n) = wC at hb3C HC hE3 hpC ⊢
        generalize wr.heap.size = pb at hpC hrA hnew hrs ⊢
        go_loopw [10, 71] (fun e i wr' => ∃ k : Nat, k ≤ n ∧ i = .int .i64 k ∧ e = errV A (partErrs ((lstF n P).take k) (numErrs (verWords s.data.toList) 0)) ∧ Bel wC.heap.size wC wr') (fun _ i _ => n - (intOf i).toNat)
        case atStart => exact ⟨0, by omega, rfl, rfl, Bel.refl _ _⟩
        case' round =>
          obtain ⟨k, hk, rfl, rfl, hbl⟩ := hrel
          have hEl := hE3.below hbl.b
          by_cases hlt : k < n
          case' pos =>
            have hck := Below.cell_some hbl.b (HC.out k hlt)
            go_wp2_with fail
            refine (partD_calls ks A (P k) _ hEl (hPs k hlt) (HPS.out _ (by rw [← hPn.out]; exact List.mem_of_getElem? (lstF_get n P k hlt)))).mono ?_
            rintro e w4 ⟨rfl, hb4⟩
            have hb4C := bel_step hbl hb4
            have hE4 := hEl.below hb4.b
            go_wp2_with fail
            refine (worse_calls ks A (partErrs ((lstF n P).take k) (numErrs (verWords s.data.toList) 0)) (partErr (P k).data.toList) _ hE4 ?_).mono ?_
            · have := partErrs_le ((lstF n P).take k) _ (numErrs_le (verWords s.data.toList) 0 (by decide))
              have h12 := hE.has
              generalize partErrs ((lstF n P).take k) (numErrs (verWords s.data.toList) 0) = c at this
              rcases (by omega : c = 0 ∨ c = 1 ∨ c = 2) with h | h | h
              · exact .inl h
              · rw [h]; exact .inr h12.1
              · rw [h]; exact .inr h12.2
            rintro e w5 ⟨rfl, hw5⟩
            subst hw5
            have hst := partErrs_snoc ((lstF n P).take k) (P k).data.toList (numErrs (verWords s.data.toList) 0)
            rw [← lstF_take_succ n P k hlt] at hst
            rw [← hst]
            clear hst
            go_wp2_with fail
            go_roundw
            case rel => exact ⟨k + 1, by omega, by go_num, rfl, hb4C⟩
            case measure => simp [intOf]; omega
          case' neg =>
            obtain rfl : k = n := by omega
            rw [lstF_take_all, hPn.out]
            have hzf := (hz2.below hb3C.b).below hbl.b
            have hbF := bel_step (bel_step hb02 hb3C) hbl
            have hpF := hpC.below hbl.b
            have hw0 : w.heap.size < wA.heap.size := Nat.lt_trans hnew hrA
            have hS : StrsAt' wr (.slice (some ⟨wA.heap.size, 0, none⟩) k k) (verPres s.data.toList) w.heap.size := ⟨⟨_, k, k, P, rfl, hPn.out.symm, Nat.le_refl _, Nat.le_trans hn9 (by decide), fun j hj => ⟨_, 0, rfl, by rw [Nat.zero_add]; exact Below.cell_some hbl.b (HC.out j hj)⟩⟩, by intro q n' c' h; injection h with h _ _; injection h with h; subst h; exact Nat.ne_of_gt hw0⟩
            have hlen : (verPres s.data.toList).length = k := by rw [← hPn.out, lstF_length]
            have hev : verErrs s.data.toList = if 5 < k then worseN (partErrs (verPres s.data.toList) (numErrs (verWords s.data.toList) 0)) 2 else partErrs (verPres s.data.toList) (numErrs (verWords s.data.toList) 0) := by unfold verErrs; rw [hlen]
            have hlec := partErrs_le (verPres s.data.toList) _ (numErrs_le (verWords s.data.toList) 0 (by decide))
            have p3 := hpF.c3
            clear hPn hb3C HC hpC hE3 hE3' hPs
            by_cases hk5 : 5 < k
            case' neg =>
              rw [if_neg hk5] at hev
              rw [← hev]
              clear hev hlec hlen p3 hEl hbl
            case' pos =>
              rw [if_pos hk5] at hev
              have g2 := hEl.errs.var 2 hE.has.2
              simp only [errG] at g2
              have h12 := hE.has
              have HEV := Lib.hid hev
              clear hev hlen hbl
              go_wp2_with fail
              clear p3 g2
              rw [show (Value.iface 328 (.pointer (some (A 2)))) = errV A 2 from (errV_pos A (c := 2) (by decide)).symm]
              refine (worse_calls ks A (partErrs (verPres s.data.toList) (numErrs (verWords s.data.toList) 0)) 2 _ hEl ?_).mono ?_
              · rcases (by omega : partErrs (verPres s.data.toList) (numErrs (verWords s.data.toList) 0) = 0 ∨ partErrs (verPres s.data.toList) (numErrs (verWords s.data.toList) 0) = 1 ∨ partErrs (verPres s.data.toList) (numErrs (verWords s.data.toList) 0) = 2) with h | h | h
                · exact .inl h
                · rw [h]; exact .inr h12.1
                · rw [h]; exact .inr h12.2
              rintro e w5 ⟨rfl, hw5⟩
              subst hw5
              rw [← HEV.out]
              clear HEV h12 hlec hEl
      all_goals
        have hne : w.heap.size ≠ pb := Nat.ne_of_lt hnew
        have hne' : pb ≠ w.heap.size := hne.symm
        obtain ⟨p0, p1, p2, p3, pf⟩ := hpF
        obtain ⟨z0, z1, z2, z3, zf⟩ := hzf
        have zf0 := zf 0
        have zf1 := zf 1
        have zf2 := zf 2
        have zf3 := zf 3
        have hn3 := numAt_three L s.data.toList HN.out
        clear pf zf
        by_cases hc : verErrs s.data.toList = 0
        · have hv0 := HV.out.trans hc
          have e0 := hn3 hv0 0 (by decide)
          have e1 := hn3 hv0 1 (by decide)
          have e2 := hn3 hv0 2 (by decide)
          have hpre := verPre_ok hv0
          have hS2 := fun u => ((((hS.set 0 (.int .i64 (numAt L 3 0))).set 1 (.int .i64 (numAt L 3 1))).set 2 (.int .i64 (numAt L 3 2))).set 3 u).at_
          have HX := Lib.hid (And.intro hpre (And.intro e0 (And.intro e1 (And.intro e2 hv0))))
          rw [hc, errV_zero]
          clear hS hn3 e0 e1 e2 hpre hv0 hc HV
          go_wp2_with fail
          refine bodyPost_ret (v := .tuple #[.agg #[.int .i64 (numAt L 3 0), .int .i64 (numAt L 3 1), .int .i64 (numAt L 3 2), _], .nilIface]) (by simp [results, Tryz.results40, go_sem, *]; rfl) rfl ?_
          obtain ⟨hpre, e0, e1, e2, hv0⟩ := HX.out
          rw [hpre, ← e0, ← e1, ← e2, hv0]
          exact ⟨((((hbF.setCell (Nat.le_refl _) _).setCell (Nat.le_refl _) _).setCell (Nat.le_refl _) _).setCell (Nat.le_refl _) _), _, rfl, hS2 _⟩
        · have hv0 : verErr s.data.toList ≠ 0 := by rw [HV.out]; exact hc
          have HX := Lib.hid (And.intro hv0 HV.out)
          rw [errV_pos A hc]
          clear hS hn3 hv0 hc HV
          go_wp2_with fail
          refine bodyPost_ret (v := .tuple #[.agg #[.int .i64 0, .int .i64 0, .int .i64 0, .slice none 0 0], .iface 328 (.pointer (some (A (verErrs s.data.toList))))]) (by simp [results, Tryz.results40, go_sem, *]) rfl ?_
          rw [verNum_bad HX.out.1, verNum_bad HX.out.1, verNum_bad HX.out.1, verPre_bad HX.out.1, errV_pos A HX.out.1, HX.out.2]
          exact ⟨((((hbF.setCell (Nat.le_refl _) _).setCell (Nat.le_refl _) _).setCell (Nat.le_refl _) _).setCell (Nat.le_refl _) _), _, rfl, StrsAt.nil _⟩
end Go.Proofs.Pw

namespace Go.Proofs.Pw
open Go.RowKit
open Go.Lib hiding intOf
theorem cmpOrD (b n : Nat) (V : Nat → Int) (w : World) (hn : n ≤ 100) (hc : ∀ j, j < n → w.cell? ⟨b, j, none⟩ = some (.int .i64 (V j))) :
    Calls Tryz.prog 196 #[.slice (some ⟨b, 0, none⟩) n n] w fun e w' => e = .returned (.int .i64 (orN n V)) ∧ Bel w.heap.size w w' := by
  have HC := Lib.hid hc
  clear hc
  go_enter Tryz.func196, Tryz.ntmps196
  go_wp2_with fail
  go_loopw [8] (fun i wr => ∃ k : Nat, k ≤ n ∧ i = .int .i64 k ∧ Bel w.heap.size w wr ∧ Hid (∀ j, j < k → V j = 0)) (fun i _ => n - (intOf i).toNat)
  case atStart => exact ⟨0, by omega, rfl, Bel.refl _ _, Lib.hid (fun j hj => absurd hj (Nat.not_lt_zero _))⟩
  case round =>
    obtain ⟨k, hk, rfl, hbl, HA⟩ := hrel
    by_cases hlt : k < n
    · have hck := Below.cell_some hbl.b (HC.out k hlt)
      by_cases hv : V k = 0
      · have HV := Lib.hid hv
        rw [hv] at hck
        clear hv
        go_wp2_with fail
        go_roundw
        case rel =>
          refine ⟨k + 1, by omega, by go_num, hbl, Lib.hid (fun j hj => ?_)⟩
          by_cases e : j = k
          · subst e; exact HV.out
          · exact HA.out j (by omega)
        case measure => simp [intOf]; omega
      · have HV := Lib.hid hv
        have hv2 : (V k == 0) = false := beq_eq_false_iff_ne.2 hv
        have hres := Lib.hid (orN_hit V k HA.out hv n hlt)
        generalize V k = v at hck hv2 hres
        clear hv HV
        go_wp2_with fail
        go_ret
        rw [hres.out]
        exact ⟨rfl, hbl⟩
    · obtain rfl : k = n := by omega
      go_wp2_with fail
      go_ret
      rw [orN_none V k HA.out]
      exact ⟨rfl, hbl⟩
set_option maxHeartbeats 400000 in
theorem cmpPartD (a b : ByteArray) (w : World) (ha : a.size ≤ 1000000000) (hb : b.size ≤ 1000000000) :
    Calls Tryz.prog 198 #[.string a, .string b] w fun e w' => e = .returned (.int .i64 (cmpPart a.data.toList b.data.toList)) ∧ Bel w.heap.size w w' := by
  have hm : cmpPart a.data.toList b.data.toList = if areDigits a.data.toList && areDigits b.data.toList then orI ((a.size : Int) - b.size) (compareBytes a.data.toList b.data.toList) else if areDigits a.data.toList then -1 else if areDigits b.data.toList then 1 else compareBytes a.data.toList b.data.toList := by
    rw [size_eq, size_eq]; rfl
  generalize cmpPart a.data.toList b.data.toList = R at hm ⊢
  generalize hx : areDigits a.data.toList = x at hm
  generalize hy : areDigits b.data.toList = y at hm
  have HX := Lib.hid hx
  have HY := Lib.hid hy
  have hS := Tryz.strings_Compare a b
  generalize compareBytes a.data.toList b.data.toList = c at hm hS
  have HS := Lib.hid hS
  have HM := Lib.hid hm
  clear hx hy hm hS
  go_enter Tryz.func198, Tryz.ntmps198
  go_wp2_with fail
  refine (digitsD_calls a w (Nat.le_trans ha (by decide))).mono ?_
  rintro e w1 ⟨rfl, hb1⟩
  go_wp2_with fail
  refine (digitsD_calls b w1 (Nat.le_trans hb (by decide))).mono ?_
  rintro e w2 ⟨rfl, hb2⟩
  rw [HX.out, HY.out]
  have hb02 := bel_step hb1 hb2
  cases x <;> cases y
  case false.false =>
    go_wp2_with fail
    refine (HS.out w2).mono ?_
    rintro e w3 ⟨rfl, rfl⟩
    go_wp2_with fail
    go_ret
    rw [HM.out]
    exact ⟨rfl, hb02⟩
  case false.true =>
    go_wp2_with fail
    go_ret
    rw [HM.out]
    exact ⟨rfl, hb02⟩
  case true.false =>
    go_wp2_with fail
    go_ret
    rw [HM.out]
    exact ⟨rfl, hb02⟩
  case true.true =>
    go_wp2_with fail
    refine (HS.out w2).mono ?_
    rintro e w3 ⟨rfl, rfl⟩
    go_wp2_with fail
    refine (cmpOrD _ 2 (fun j => if j = 0 then (a.size : Int) - b.size else c) _ (by decide) ?_).mono ?_
    · intro j hj
      obtain rfl | rfl : j = 0 ∨ j = 1 := by omega
      all_goals simp
    rintro e w4 ⟨rfl, hb4⟩
    have ho : orN 2 (fun j => if j = 0 then (a.size : Int) - b.size else c) = orI ((a.size : Int) - b.size) c := by
      rw [orN_succ, orN_succ]
      show orI (orI 0 _) _ = _
      rw [orI_zero]
      rfl
    rw [ho]
    have hb05 := bel_step hb02 (bel_step (bel_alloc _ _) hb4)
    clear ho hb4
    go_wp2_with fail
    go_ret
    rw [HM.out]
    exact ⟨rfl, hb05⟩
set_option maxHeartbeats 400000 in
theorem cmpFuncD (a1 a2 : Option Addr) (n c1 m c2 : Nat) (L M : Nat → ByteArray) (w : World) (hn : n ≤ 1000000001) (hm : m ≤ 1000000001)
    (h1 : ∀ j, j < n → ∃ b o, a1 = some ⟨b, o, none⟩ ∧ w.cell? ⟨b, o + j, none⟩ = some (.string (L j))) (h2 : ∀ j, j < m → ∃ b o, a2 = some ⟨b, o, none⟩ ∧ w.cell? ⟨b, o + j, none⟩ = some (.string (M j)))
    (hL : ∀ j, j < n → (L j).size ≤ 1000000000) (hM : ∀ j, j < m → (M j).size ≤ 1000000000) :
    Calls Tryz.prog 197 #[.slice a1 n c1, .slice a2 m c2, .func (.func 198) #[] #[]] w fun e w' => e = .returned (.int .i64 (cmpList (lstF n L) (lstF m M))) ∧ Bel w.heap.size w w' := by
  have H1 := Lib.hid h1
  have H2 := Lib.hid h2
  have HL := Lib.hid hL
  have HM := Lib.hid hM
  clear h1 h2 hL hM
  go_enter Tryz.func197, Tryz.ntmps197
  go_wp2_with fail
  go_loopw [13] (fun i wr => ∃ k : Nat, k ≤ n ∧ k ≤ m ∧ i = .int .i64 k ∧ Bel w.heap.size w wr ∧ Hid (cmpList (lstF n L) (lstF m M) = cmpList ((lstF n L).drop k) ((lstF m M).drop k))) (fun i _ => n - (intOf i).toNat)
  case atStart => exact ⟨0, by omega, by omega, rfl, Bel.refl _ _, Lib.hid rfl⟩
  case round =>
    obtain ⟨k, hk, hkm, rfl, hbl, HA⟩ := hrel
    by_cases hlt : k < n
    · obtain ⟨b1, o1, rfl, d1⟩ := H1.out k hlt
      replace d1 := Below.cell_some hbl.b d1
      by_cases hlm : k < m
      · obtain ⟨b2, o2, rfl, d2⟩ := H2.out k hlm
        replace d2 := Below.cell_some hbl.b d2
        have hcall := cmpPartD (L k) (M k) wr (HL.out k hlt) (HM.out k hlm)
        have hst := cmpList_drop n m L M k hlt hlm
        generalize cmpPart (L k).data.toList (M k).data.toList = c at hcall hst
        by_cases hc : c = 0
        · rw [hc, orI_zero] at hst
          subst hc
          have HS := Lib.hid (HA.out.trans hst)
          clear hst
          go_wp2_with fail
          refine hcall.mono ?_
          rintro e w' ⟨rfl, hb2⟩
          go_wp2_with fail
          go_roundw
          case rel => exact ⟨k + 1, by omega, by omega, by go_num, bel_step hbl hb2, HS⟩
          case measure => simp [intOf]; omega
        · rw [orI_left hc] at hst
          have HS := Lib.hid (HA.out.trans hst)
          have hc2 : (c == 0) = false := beq_eq_false_iff_ne.2 hc
          clear hst hc
          go_wp2_with fail
          refine hcall.mono ?_
          rintro e w' ⟨rfl, hb2⟩
          go_wp2_with fail
          go_ret
          rw [HS.out]
          exact ⟨rfl, bel_step hbl hb2⟩
      · obtain rfl : k = m := by omega
        have HS : Hid (cmpList (lstF n L) (lstF k M) = 1) := by
          refine Lib.hid (HA.out.trans ?_)
          rw [List.drop_of_length_le (l := lstF k M) (by rw [lstF_length]; exact Nat.le_refl _), List.drop_eq_getElem_cons (by rw [lstF_length]; exact hlt)]
          rfl
        go_wp2_with fail
        go_ret
        rw [HS.out]
        exact ⟨rfl, hbl⟩
    · obtain rfl : k = n := by omega
      by_cases hlm : k < m
      · have HS : Hid (cmpList (lstF k L) (lstF m M) = -1) := by
          refine Lib.hid (HA.out.trans ?_)
          rw [List.drop_of_length_le (l := lstF k L) (by rw [lstF_length]; exact Nat.le_refl _), List.drop_eq_getElem_cons (by rw [lstF_length]; exact hlm)]
          rfl
        go_wp2_with fail
        go_ret
        rw [HS.out]
        exact ⟨rfl, hbl⟩
      · obtain rfl : k = m := by omega
        have HS : Hid (cmpList (lstF k L) (lstF k M) = 0) := by
          refine Lib.hid (HA.out.trans ?_)
          rw [List.drop_of_length_le (l := lstF k L) (by rw [lstF_length]; exact Nat.le_refl _), List.drop_of_length_le (l := lstF k M) (by rw [lstF_length]; exact Nat.le_refl _)]
          rfl
        go_wp2_with fail
        go_ret
        rw [HS.out]
        exact ⟨rfl, hbl⟩
set_option maxHeartbeats 1000000 in
theorem verCompareD (ks : List Nat) (A : Nat → Addr) (a b : ByteArray) (w : World) (hE : EnvP ks A w) (ha : a.size ≤ 1000000000) (hb : b.size ≤ 1000000000) (oka : verErr a.data.toList = 0) (okb : verErr b.data.toList = 0) :
    Calls Tryz.prog 130 #[.string a, .string b] w fun e w' => e = .returned (.int .i64 (verCmp a.data.toList b.data.toList)) ∧ Bel w.heap.size w w' := by
  have OKA := Lib.hid oka
  have OKB := Lib.hid okb
  clear oka okb
  have la0 := verNum_le a.data.toList 0
  have la1 := verNum_le a.data.toList 1
  have la2 := verNum_le a.data.toList 2
  have lb0 := verNum_le b.data.toList 0
  have lb1 := verNum_le b.data.toList 1
  have lb2 := verNum_le b.data.toList 2
  have hm : verCmp a.data.toList b.data.toList = (let n := orI ((verNum a.data.toList 0 : Int) - verNum b.data.toList 0) (orI ((verNum a.data.toList 1 : Int) - verNum b.data.toList 1) ((verNum a.data.toList 2 : Int) - verNum b.data.toList 2)); if n = 0 ∧ decide ((verPre a.data.toList).length = 0) ≠ decide ((verPre b.data.toList).length = 0) then ((verPre b.data.toList).length : Int) - (verPre a.data.toList).length else orI n (cmpList (verPre a.data.toList) (verPre b.data.toList))) := rfl
  generalize verCmp a.data.toList b.data.toList = R at hm ⊢
  have HM := Lib.hid hm
  clear hm
  go_enter Tryz.func130, Tryz.ntmps130
  go_wp2_with fail
  refine (verSplitD_calls ks A a w hE ha OKA.out).mono ?_
  rintro e w1 ⟨hb1, va, rfl, a1, n1, cap1, L1, rfl, HL1, hn1, hn1', hc1⟩
  go_wp2_with fail
  have hbA := bel_alloc w1 (.cells #[.int .i64 (verNum a.data.toList 0 : Nat), .int .i64 (verNum a.data.toList 1 : Nat), .int .i64 (verNum a.data.toList 2 : Nat), .slice a1 n1 cap1] 83)
  have hzA := box4_alloc w1 (.int .i64 (verNum a.data.toList 0 : Nat)) (.int .i64 (verNum a.data.toList 1 : Nat)) (.int .i64 (verNum a.data.toList 2 : Nat)) (.slice a1 n1 cap1) 83
  have hb1A := bel_step hb1 hbA
  refine (verSplitD_calls ks A b _ (hE.below hb1A.b) hb OKB.out).mono ?_
  rintro e w2 ⟨hb2, vb, rfl, a2, n2, cap2, L2, rfl, HL2, hn2, hn2', hc2⟩
  have hbB := bel_alloc w2 (.cells #[.int .i64 (verNum b.data.toList 0 : Nat), .int .i64 (verNum b.data.toList 1 : Nat), .int .i64 (verNum b.data.toList 2 : Nat), .slice a2 n2 cap2] 83)
  have hzB := box4_alloc w2 (.int .i64 (verNum b.data.toList 0 : Nat)) (.int .i64 (verNum b.data.toList 1 : Nat)) (.int .i64 (verNum b.data.toList 2 : Nat)) (.slice a2 n2 cap2) 83
  have hzA2 := (hzA.below hb2.b).below hbB.b
  have hb2B := bel_step (bel_step hb1A hb2) hbB
  obtain ⟨p0, p1, p2, p3, _⟩ := hzA2
  obtain ⟨q0, q1, q2, q3, _⟩ := hzB
  have hs1 := verPre_small a.data.toList
  have hs2 := verPre_small b.data.toList
  rw [HL1, lstF_length] at hs1
  rw [HL2, lstF_length] at hs2
  have hL1 : ∀ j, j < n1 → (L1 j).size ≤ 1000000000 := fun j hj => by
    have := (hs1.2 _ (List.mem_of_getElem? (lstF_get n1 L1 j hj))).1
    rw [size_eq]; omega
  have hL2 : ∀ j, j < n2 → (L2 j).size ≤ 1000000000 := fun j hj => by
    have := (hs2.2 _ (List.mem_of_getElem? (lstF_get n2 L2 j hj))).1
    rw [size_eq]; omega
  have hm1 := hs1.1
  have hm2 := hs2.1
  have hcf := fun (W : World) (h : Bel w1.heap.size w1 W) (h' : Bel w2.heap.size w2 W) => cmpFuncD a1 a2 n1 cap1 n2 cap2 L1 L2 W (by omega) (by omega)
    (fun j hj => let ⟨b, o, e, h2⟩ := hc1 j hj; ⟨b, o, e, Below.cell_some h.b h2⟩) (fun j hj => let ⟨b, o, e, h2⟩ := hc2 j hj; ⟨b, o, e, Below.cell_some h'.b h2⟩) hL1 hL2
  have HCF := Lib.hid hcf
  have HM2 : Hid (R = if orI ((verNum a.data.toList 0 : Int) - verNum b.data.toList 0) (orI ((verNum a.data.toList 1 : Int) - verNum b.data.toList 1) ((verNum a.data.toList 2 : Int) - verNum b.data.toList 2)) = 0 ∧ decide (n1 = 0) ≠ decide (n2 = 0) then (n2 : Int) - n1 else orI (orI ((verNum a.data.toList 0 : Int) - verNum b.data.toList 0) (orI ((verNum a.data.toList 1 : Int) - verNum b.data.toList 1) ((verNum a.data.toList 2 : Int) - verNum b.data.toList 2))) (cmpList (lstF n1 L1) (lstF n2 L2))) := Lib.hid (by
    rw [HM.out]
    show (if _ ∧ _ then _ else _) = _
    rw [HL1, HL2, lstF_length, lstF_length])
  clear hs1 hs2 hcf HM HL1 HL2 hL1 hL2 hc1 hc2 hzA hb1A
  generalize cmpList (lstF n1 L1) (lstF n2 L2) = cl at HCF HM2
  have hb12 : Bel w1.heap.size w1 w2 := bel_step hbA hb2
  have hpz : w1.heap.size < w2.heap.size := lt_of_cell (show w2.cell? ⟨w1.heap.size, 0, none⟩ = some _ from (box4_alloc w1 (.int .i64 (verNum a.data.toList 0 : Nat)) (.int .i64 (verNum a.data.toList 1 : Nat)) (.int .i64 (verNum a.data.toList 2 : Nat)) (.slice a1 n1 cap1) 83 |>.below hb2.b).c0)
  generalize verNum a.data.toList 0 = x0 at *
  generalize verNum a.data.toList 1 = x1 at *
  generalize verNum a.data.toList 2 = x2 at *
  generalize verNum b.data.toList 0 = y0 at *
  generalize verNum b.data.toList 1 = y1 at *
  generalize verNum b.data.toList 2 = y2 at *
  have hmn : ∀ n, n = orI ((x0 : Int) - y0) (orI ((x1 : Int) - y1) ((x2 : Int) - y2)) → -1000000 ≤ n ∧ n ≤ 1000000 := fun n e => by
    rw [e]; unfold orI; split <;> (try split) <;> omega
  go_wp2_with fail
  refine (cmpOrD (w2.heap.size + 1) 3 (fun j => if j = 0 then (x0 : Int) - y0 else if j = 1 then (x1 : Int) - y1 else (x2 : Int) - y2) _ (by decide) ?_).mono ?_
  · intro j hj
    obtain rfl | rfl | rfl : j = 0 ∨ j = 1 ∨ j = 2 := by omega
    all_goals simp
  rintro e w4 ⟨rfl, hb4⟩
  have ho : orN 3 (fun j => if j = 0 then (x0 : Int) - y0 else if j = 1 then (x1 : Int) - y1 else (x2 : Int) - y2) = orI ((x0 : Int) - y0) (orI ((x1 : Int) - y1) ((x2 : Int) - y2)) := by
    rw [orN_succ, orN_succ, orN_succ]
    show orI (orI (orI 0 _) _) _ = _
    rw [orI_zero]
    simp only [↓reduceIte]
    unfold orI
    by_cases h1 : (x0 : Int) - y0 = 0
    · simp [h1]
    · simp [h1]
  rw [ho]
  have hN := hmn _ rfl
  clear ho hmn
  generalize orI ((x0 : Int) - y0) (orI ((x1 : Int) - y1) ((x2 : Int) - y2)) = N at hN HM2 ⊢
  have hbC := bel_step (bel_alloc _ _) hb4
  have p3' := Below.cell_some hbC.b p3
  have q3' := Below.cell_some hbC.b q3
  have hbW := bel_step hb2B hbC
  have hb14 : Bel w1.heap.size w1 w4 := bel_step (bel_step hb12 hbB) hbC
  have hb24 : Bel w2.heap.size w2 w4 := bel_step hbB hbC
  clear p0 p1 p2 p3 q0 q1 q2 q3 la0 la1 la2 lb0 lb1 lb2 hb4 hbC hb2B hb12 hbB hb1 hb2 hbA hpz
  have go_on : Hid (R = orI N cl) → Hid (∀ W, Bel w1.heap.size w1 W → Bel w2.heap.size w2 W → Calls Tryz.prog 197 #[.slice a1 n1 cap1, .slice a2 n2 cap2, .func (.func 198) #[] #[]] W fun e w' => e = .returned (.int .i64 cl) ∧ Bel W.heap.size W w') := fun _ => HCF
  by_cases h0 : N = 0
  · subst h0
    by_cases h1 : n1 = 0
    · subst h1
      by_cases h2 : n2 = 0
      · subst h2
        have HR : Hid (R = orI 0 cl) := Lib.hid (by rw [HM2.out, if_neg (by simp)])
        clear go_on
        go_wp2_with fail
        refine (HCF.out _ hb14 hb24).mono ?_
        rintro e w5 ⟨rfl, hb5⟩
        go_wp2_with fail
        refine (cmpOrD _ 2 (fun j => if j = 0 then 0 else cl) _ (by decide) ?_).mono ?_
        · intro j hj
          obtain rfl | rfl : j = 0 ∨ j = 1 := by omega
          all_goals simp
        rintro e w6 ⟨rfl, hb6⟩
        have ho : orN 2 (fun j => if j = 0 then 0 else cl) = orI 0 cl := by
          rw [orN_succ, orN_succ]
          show orI (orI 0 _) _ = _
          rw [orI_zero]
          rfl
        rw [ho]
        have hbE := bel_step hbW (bel_step hb5 (bel_step (bel_alloc _ _) hb6))
        clear ho hb6 hb5
        go_wp2_with fail
        go_ret
        rw [HR.out]
        exact ⟨rfl, hbE⟩
      · have HR : Hid (R = (n2 : Int) - (0 : Nat)) := Lib.hid (by rw [HM2.out, if_pos ⟨rfl, by simp [h2]⟩])
        have h2' : ((n2 : Int) == 0) = false := beq_eq_false_iff_ne.2 (by omega)
        clear h2
        go_wp2_with fail
        go_ret
        rw [HR.out]
        exact ⟨by simp, hbW⟩
    · by_cases h2 : n2 = 0
      · subst h2
        have HR : Hid (R = ((0 : Nat) : Int) - n1) := Lib.hid (by rw [HM2.out, if_pos ⟨rfl, by simp [h1]⟩])
        have h1' : ((n1 : Int) == 0) = false := beq_eq_false_iff_ne.2 (by omega)
        clear h1
        go_wp2_with fail
        go_ret
        rw [HR.out]
        exact ⟨by simp, hbW⟩
      · have HR : Hid (R = orI 0 cl) := Lib.hid (by rw [HM2.out, if_neg (by simp [h1, h2])])
        have h1' : ((n1 : Int) == 0) = false := beq_eq_false_iff_ne.2 (by omega)
        have h2' : ((n2 : Int) == 0) = false := beq_eq_false_iff_ne.2 (by omega)
        clear go_on h1 h2
        go_wp2_with fail
        refine (HCF.out _ hb14 hb24).mono ?_
        rintro e w5 ⟨rfl, hb5⟩
        go_wp2_with fail
        refine (cmpOrD _ 2 (fun j => if j = 0 then 0 else cl) _ (by decide) ?_).mono ?_
        · intro j hj
          obtain rfl | rfl : j = 0 ∨ j = 1 := by omega
          all_goals simp
        rintro e w6 ⟨rfl, hb6⟩
        have ho : orN 2 (fun j => if j = 0 then 0 else cl) = orI 0 cl := by
          rw [orN_succ, orN_succ]
          show orI (orI 0 _) _ = _
          rw [orI_zero]
          rfl
        rw [ho]
        have hbE := bel_step hbW (bel_step hb5 (bel_step (bel_alloc _ _) hb6))
        clear ho hb6 hb5
        go_wp2_with fail
        go_ret
        rw [HR.out]
        exact ⟨rfl, hbE⟩
  · have HR : Hid (R = orI N cl) := Lib.hid (by rw [HM2.out, if_neg (fun h => h0 h.1)])
    have h0' : (N == 0) = false := beq_eq_false_iff_ne.2 h0
    clear h0 go_on
    go_wp2_with fail
    refine (HCF.out _ hb14 hb24).mono ?_
    rintro e w5 ⟨rfl, hb5⟩
    go_wp2_with fail
    refine (cmpOrD _ 2 (fun j => if j = 0 then N else cl) _ (by decide) ?_).mono ?_
    · intro j hj
      obtain rfl | rfl : j = 0 ∨ j = 1 := by omega
      all_goals simp
    rintro e w6 ⟨rfl, hb6⟩
    have ho : orN 2 (fun j => if j = 0 then N else cl) = orI N cl := by
      rw [orN_succ, orN_succ]
      show orI (orI 0 _) _ = _
      rw [orI_zero]
      rfl
    rw [ho]
    have hbE := bel_step hbW (bel_step hb5 (bel_step (bel_alloc _ _) hb6))
    clear ho hb6 hb5
    go_wp2_with fail
    go_ret
    rw [HR.out]
    exact ⟨rfl, hbE⟩
end Go.Proofs.Pw

namespace Go.Proofs.Pw
open Go.RowKit
end Go.Proofs.Pw
