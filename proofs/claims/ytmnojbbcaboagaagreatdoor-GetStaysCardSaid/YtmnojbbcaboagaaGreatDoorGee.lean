/- Ge: walks and plain laws, joined: VerLong Ver3 Mod. Conditions: at each theorem. -/
import Derived.Test.YtmnojbbcaboagaaGreatDoorGed
import Derived.Test.YtmnojbbcaboagaaGreatDoorGea
import Derived.Lib.AppendIntMem

namespace Go.Proofs.Pw
open Go.RowKit
open Go.Lib hiding intOf
theorem split_mem_le (sub : Str) (hs : sub ≠ []) : ∀ (n : Nat) (s : Str), s.length ≤ n → ∀ w ∈ split s sub, w.length ≤ s.length
  | n, s, hn, w, hw => by
    have hge := index_ge s sub
    by_cases h1 : index s sub = -1
    · rw [split_none h1] at hw
      simp at hw
      subst hw
      exact Nat.le_refl _
    · obtain ⟨i, hi⟩ : ∃ i : Nat, index s sub = i := ⟨(index s sub).toNat, by omega⟩
      have hr := index_room s sub (by omega)
      have hp : 0 < sub.length := List.length_pos_iff.2 hs
      rw [split_hit hs hi] at hw
      rcases List.mem_cons.1 hw with rfl | hw
      · simp only [List.length_take]; omega
      · cases n with
        | zero => omega
        | succ n =>
          have := split_mem_le sub hs n (s.drop (i + sub.length)) (by simp only [List.length_drop]; omega) w hw
          simp only [List.length_drop] at this
          omega
theorem lstF_mem_le {n : Nat} {L : Nat → ByteArray} {s sub : Str} (hs : sub ≠ []) (h : lstF n L = split s sub) (j : Nat) (hj : j < n) : (L j).size ≤ s.length := by
  rw [size_eq]
  refine split_mem_le sub hs s.length s (Nat.le_refl _) _ ?_
  rw [← h]
  exact List.mem_of_getElem? (lstF_get n L j hj)
def numAt (L : Nat → ByteArray) (k j : Nat) : Int := if j < k then ((numberOf (L j).data.toList).1 : Int) else 0
theorem numAt_zero (L j) : numAt L 0 j = 0 := by simp [numAt]
theorem numAt_new (L) (k : Nat) : numAt L (k + 1) k = ((numberOf (L k).data.toList).1 : Int) := by simp [numAt]
theorem numAt_old (L) (k j : Nat) (h : j ≠ k) : numAt L (k + 1) j = numAt L k j := by
  unfold numAt
  by_cases h2 : j < k
  · rw [if_pos h2, if_pos (by omega)]
  · rw [if_neg h2, if_neg (by omega)]
structure Nums (w : World) (b : Nat) (L : Nat → ByteArray) (k : Nat) : Prop where
  c : ∀ j, j < 3 → w.cell? ⟨b, j, none⟩ = some (.int .i64 (numAt L k j))
  fr : ∀ j, w.frozen? ⟨b, j, none⟩ = false
theorem Nums.below {w w' : World} {b : Nat} {L : Nat → ByteArray} {k : Nat} (h : Nums w b L k) (hb : Below w.heap.size w w') : Nums w' b L k :=
  ⟨fun j hj => Below.cell_some hb (h.c j hj), fun j => (hb.frozen (p := ⟨b, j, none⟩) (show b < w.heap.size from lt_of_cell (h.c 0 (by decide)))).trans (h.fr j)⟩
theorem nums_alloc (w : World) (t : TypeId) (L : Nat → ByteArray) : Nums (w.alloc (.cells #[.int .i64 0, .int .i64 0, .int .i64 0] t)) w.heap.size L 0 :=
  ⟨fun j hj => by rw [numAt_zero]; obtain rfl | rfl | rfl : j = 0 ∨ j = 1 ∨ j = 2 := by omega
                  all_goals simp, fun j => by simp⟩
theorem Nums.step {w : World} {b : Nat} {L : Nat → ByteArray} {k : Nat} (h : Nums w b L k) (hk : k < 3) : Nums (w.setCell ⟨b, k, none⟩ (.int .i64 ((numberOf (L k).data.toList).1 : Nat))) b L (k + 1) := by
  refine ⟨fun j hj => ?_, fun j => by simp [h.fr]⟩
  by_cases e : j = k
  · subst e
    rw [numAt_new]
    exact World.cell?_setCell_same _ _ _ (h.c j hj)
  · rw [numAt_old _ _ _ e, World.cell?_setCell_other _ _ _ _ (fun h2 => e (by injection h2 with _ h3 _; exact h3.symm))]
    exact h.c j hj
theorem Box4.set3 {w : World} {b : Nat} {v0 v1 v2 v3 : Value} (h : Box4 w b v0 v1 v2 v3) (v : Value) : Box4 (w.setCell ⟨b, 3, none⟩ v) b v0 v1 v2 v := by
  refine ⟨?_, ?_, ?_, World.cell?_setCell_same _ _ _ h.c3, fun j => by simp [h.fr]⟩
  · rw [World.cell?_setCell_other _ _ _ _ (by intro e; injection e with _ e2 _; exact absurd e2 (by decide))]; exact h.c0
  · rw [World.cell?_setCell_other _ _ _ _ (by intro e; injection e with _ e2 _; exact absurd e2 (by decide))]; exact h.c1
  · rw [World.cell?_setCell_other _ _ _ _ (by intro e; injection e with _ e2 _; exact absurd e2 (by decide))]; exact h.c2
structure StrsAt' (w : World) (v : Value) (l : List Str) (b : Nat) : Prop where
  at_ : StrsAt w v l
  ne : ∀ q n c, v = .slice (some q) n c → q.block ≠ b
theorem StrsAt'.set {w : World} {v : Value} {l : List Str} {b : Nat} (h : StrsAt' w v l b) (o : Nat) (u : Value) : StrsAt' (w.setCell ⟨b, o, none⟩ u) v l b := by
  obtain ⟨a, n, cap, L, h1, h2, h3, h4, h5⟩ := h.at_
  refine ⟨⟨a, n, cap, L, h1, h2, h3, h4, fun j hj => ?_⟩, h.ne⟩
  obtain ⟨c, o', e1, e2⟩ := h5 j hj
  refine ⟨c, o', e1, ?_⟩
  rw [World.cell?_setCell_other]
  · exact e2
  · intro e
    subst e1
    exact h.ne _ _ _ h1 (by injection e with e _ _; exact e.symm)
theorem numAt_three (L : Nat → ByteArray) (s : Str) (h : lstF 3 L = verWords s) (hv : verErr s = 0) (j : Nat) (hj : j < 3) : numAt L 3 j = ((verNum s j : Nat) : Int) := by
  unfold numAt verNum
  rw [if_pos hj, if_pos hv, ← h, List.getD_eq_getElem?_getD, lstF_get 3 L j hj]
  rfl
theorem verNum_bad {s : Str} (h : verErr s ≠ 0) (j : Nat) : verNum s j = 0 := by unfold verNum; rw [if_neg h]
theorem verPre_bad {s : Str} (h : verErr s ≠ 0) : verPre s = [] := by unfold verPre; rw [if_neg h]
theorem verPre_ok {s : Str} (h : verErr s = 0) : verPre s = verPres s := by unfold verPre; rw [if_pos h]
set_option maxHeartbeats 2000000 in
set_option maxRecDepth 100000 in
theorem verSplit_three (ks : List Nat) (A : Nat → Addr) (s : ByteArray) (w : World) (hE : EnvP ks A w) (hs : s.size ≤ 1000000000) (hf : hasPrefix s.data.toList [118] = true) (hl : (verWords s.data.toList).length = 3) :
    Calls Tryz.prog 40 #[.string s] w fun e w' => Below w.heap.size w w' ∧ ∃ v, e = .returned (.tuple #[.agg #[.int .i64 (verNum s.data.toList 0 : Nat), .int .i64 (verNum s.data.toList 1 : Nat), .int .i64 (verNum s.data.toList 2 : Nat), v], errV A (verErr s.data.toList)]) ∧ StrsAt w' v (verPre s.data.toList) := by
  have ht : (trimPrefix s.data.toList [118]).length ≤ s.size := by rw [size_eq s]; exact trimPrefix_le _ _
  have hc1 := (cut_le (trimPrefix s.data.toList [118]) [45])
  have ht4 : (⟨(trimPrefix s.data.toList [118]).toArray⟩ : ByteArray).size ≤ 4000000000 := Nat.le_trans ht (by omega)
  have hc4 : (⟨(cut (trimPrefix s.data.toList [118]) [45]).1.toArray⟩ : ByteArray).size ≤ 4000000000 := Nat.le_trans hc1.1 (Nat.le_trans ht (by omega))
  have hp4 : (⟨(cut (trimPrefix s.data.toList [118]) [45]).2.1.toArray⟩ : ByteArray).size ≤ 1000000000 := Nat.le_trans hc1.2 (Nat.le_trans ht hs)
  have h5 : ∀ n L, (Hid (lstF n L = split (cut (trimPrefix s.data.toList [118]) [45]).1 [46])) → n = 3 ∧ lstF 3 L = verWords s.data.toList := fun n L h => by
    have := congrArg List.length h.out
    rw [lstF_length] at this
    have e : n = 3 := this.trans hl
    subst e
    exact ⟨rfl, h.out⟩
  have HW : Hid (verWords s.data.toList = split (cut (trimPrefix s.data.toList [118]) [45]).1 [46]) := Lib.hid rfl
  have HP : Hid (verPres s.data.toList = if (cut (trimPrefix s.data.toList [118]) [45]).2.2 then split (cut (trimPrefix s.data.toList [118]) [45]).2.1 [46] else []) := Lib.hid rfl
  have HV : Hid (verErr s.data.toList = verErrs s.data.toList) := Lib.hid (by unfold verErr; rw [if_neg]; rw [hf, hl]; simp)
  have HF := Lib.hid hf
  clear hf hl
  go_enter Tryz.func40, Tryz.ntmps40
  go_wp2_with fail
  have hb0 := below_alloc w (.cells #[.int .i64 0, .int .i64 0, .int .i64 0, .slice none 0 0] 83)
  refine (cutPrefix_calls _ _ _).mono ?_
  rintro e w1 ⟨rfl, hw1⟩
  subst hw1
  rw [show (⟨#[118]⟩ : ByteArray).data.toList = [118] from rfl, HF.out]
  have hE0 := hE.below hb0
  go_wp2_with fail
  refine (cut_calls _ _ _ hE0.m ht4).mono ?_
  rintro e w2 ⟨rfl, hb1⟩
  have hE1 := hE0.below hb1
  have hb01 := below_step hb0 hb1
  have hz0 := (box4_alloc w (.int .i64 0) (.int .i64 0) (.int .i64 0) (.slice none 0 0) 83).below hb1
  have hz0s : w.heap.size < w2.heap.size := lt_of_cell hz0.c0
  rw [show (⟨#[45]⟩ : ByteArray).data.toList = [45] from rfl]
  rw [data_mk]
  generalize hH : (cut (trimPrefix s.data.toList [118]) [45]).1 = hd at hc4 h5 HW ⊢
  generalize hG : (cut (trimPrefix s.data.toList [118]) [45]).2.1 = pr at hp4 HP ⊢
  generalize hB : (cut (trimPrefix s.data.toList [118]) [45]).2.2 = has at HP ⊢
  clear hH hG hB hc1 ht4 ht
  go_wp2_with fail
  refine (split_calls _ ⟨#[46]⟩ _ hE1.m hc4 (by decide)).mono ?_
  rintro e w3 ⟨n, rfl, hn1, hn2, HL, hb2, hc2, hz2⟩
  obtain ⟨rfl, hn⟩ := h5 n _ HL
  have hE2 := hE1.below hb2
  have hb02 := below_step hb01 hb2
  have hz2 := hz0.below hb2
  have HN := Lib.hid hn
  have hLs := lstF_mem_le (by decide) HL.out
  rw [data_mk] at hLs
  have hhd : hd.length ≤ 4000000000 := hc4
  generalize splitL ⟨hd.toArray⟩ ⟨#[46]⟩ = L at hc2 HN hLs ⊢
  have hLs4 : ∀ j, j < 3 → (L j).size ≤ 4000000000 := fun j hj => Nat.le_trans (hLs j hj) hhd
  have hHC := Lib.hid hc2
  clear hn h5 hb1 hb2 hb01 hE0 hE1 hz0 HL HW hn1 hn2 hc4 hLs hhd hc2
  go_wp2_with fail
  have hba := below_alloc w3 (.cells #[.int .i64 0, .int .i64 0, .int .i64 0] 139)
  go_loopw [10, 41] (fun e i wr => ∃ k : Nat, k ≤ 3 ∧ i = .int .i64 k ∧ e = errV A (numErrs ((lstF 3 L).take k) 0) ∧ Below w3.heap.size w3 wr ∧ Nums wr w3.heap.size L k) (fun _ i _ => 3 - (intOf i).toNat)
  case atStart => exact ⟨0, by omega, rfl, rfl, hba, nums_alloc _ _ _⟩
  case round =>
    obtain ⟨k, hk, rfl, rfl, hbr, hN⟩ := hrel
    have hEr := hE2.below hbr
    by_cases hlt : k < 3
    · have hck := Below.cell_some hbr (hHC.out k hlt)
      go_wp2_with fail
      refine (number_calls ks A (L k) wr hEr (hLs4 k hlt)).mono ?_
      rintro e w4 ⟨rfl, hb4⟩
      have hN4 := hN.below hb4
      have hE4 := hEr.below hb4
      have hbr4 := below_step hbr hb4
      have hn1 := hN4.c k hlt
      have hn2 := hN4.fr k
      go_wp2_with fail
      have hbs : Below w3.heap.size w3 (w4.setCell ⟨w3.heap.size, k, none⟩ (.int .i64 ((numberOf (L k).data.toList).1 : Nat))) := hbr4.setCell (Nat.le_refl _) _
      have hE5 := hE2.below hbs
      have hN5 := hN4.step hlt
      refine (worse_calls ks A (numErrs ((lstF 3 L).take k) 0) (numberOf (L k).data.toList).2 _ hE5 ?_).mono ?_
      · have := numErrs_le ((lstF 3 L).take k) 0 (by decide)
        have h12 := hE.has
        rcases (by omega : numErrs ((lstF 3 L).take k) 0 = 0 ∨ numErrs ((lstF 3 L).take k) 0 = 1 ∨ numErrs ((lstF 3 L).take k) 0 = 2) with h | h | h
        · exact .inl h
        · rw [h]; exact .inr h12.1
        · rw [h]; exact .inr h12.2
      rintro e w5 ⟨rfl, hw5⟩
      subst hw5
      have hst := numErrs_snoc ((lstF 3 L).take k) (L k).data.toList 0
      rw [← lstF_take_succ 3 L k hlt] at hst
      rw [← hst]
      clear hst
      go_wp2_with fail
      go_roundw
      case rel => exact ⟨k + 1, by omega, by go_num, rfl, hbs, hN5⟩
      case measure => simp [intOf]; omega
    · obtain rfl : k = 3 := by omega
      have hn0 := hN.c 0 (by decide)
      have hn1 := hN.c 1 (by decide)
      have hn2 := hN.c 2 (by decide)
      rw [lstF_take_all, HN.out]
      have hbA := below_alloc wr (.cells #[.int .i64 (numAt L 3 0), .int .i64 (numAt L 3 1), .int .i64 (numAt L 3 2), .slice none 0 0] 83)
      have hpA := box4_alloc wr (.int .i64 (numAt L 3 0)) (.int .i64 (numAt L 3 1)) (.int .i64 (numAt L 3 2)) (.slice none 0 0) 83
      have hb3A : Below w3.heap.size w3 _ := below_step hbr hbA
      have hEA := hE2.below hb3A
      have hnew : w.heap.size < wr.heap.size := Nat.lt_of_lt_of_le (lt_of_cell hz2.c0) hbr.size
      have hrs : w3.heap.size ≤ wr.heap.size := hbr.size
      have hE3' := hE2
      clear hba hE2 hEr hN hHC hLs4 hbr
      cases has
      case' false =>
        have hPr : verPres s.data.toList = [] := HP.out
        have hce : numErrs (verWords s.data.toList) 0 = verErrs s.data.toList := by unfold verErrs; rw [hPr]; rfl
        rw [hce]
        have hS : StrsAt' (wr.alloc (.cells #[.int .i64 (numAt L 3 0), .int .i64 (numAt L 3 1), .int .i64 (numAt L 3 2), .slice none 0 0] 83)) (.slice none 0 0) (verPres s.data.toList) w.heap.size := by
          rw [hPr]; exact ⟨StrsAt.nil _, by intro q n c h; cases h⟩
        have hzf := hz2.below hb3A
        have hbF := below_step hb02 hb3A
        have hpF := hpA
        clear hPr hce
        go_wp2_with fail
        go_loop [10, 71] (fun e i => e = errV A (verErrs s.data.toList) ∧ i = .int .i64 0) (fun _ _ => 0)
        case atStart => exact ⟨rfl, rfl⟩
        case' round =>
          obtain ⟨rfl, rfl⟩ := hrel
          generalize hwF : wr.alloc (.cells #[.int .i64 (numAt L 3 0), .int .i64 (numAt L 3 1), .int .i64 (numAt L 3 2), .slice none 0 0] 83) = wF at hS hzf hbF hpF ⊢
          generalize wr.heap.size = pb at hpF hnew hrs ⊢
          clear hpA hbA hb3A hEA hE3' HP
      case' true =>
        have hPr : verPres s.data.toList = split pr [46] := HP.out
        go_wp2_with fail
        generalize wr.alloc (.cells #[.int .i64 (numAt L 3 0), .int .i64 (numAt L 3 1), .int .i64 (numAt L 3 2), .slice none 0 0] 83) = wA at hbA hpA hb3A hEA ⊢
        have hrA : wr.heap.size < wA.heap.size := lt_of_cell hpA.c0
        refine (split_calls _ ⟨#[46]⟩ _ hEA.m (Nat.le_trans hp4 (by decide)) (by decide)).mono ?_
        rintro e wB ⟨n, rfl, hm1, hm2, HLp, hbB, hcB, hzB⟩
        have hLp := lstF_mem_le (by decide) HLp.out
        have hn9 : n ≤ 1000000001 := Nat.le_trans hm2 (Nat.succ_le_succ hp4)
        have hPn : Hid (lstF n (splitL ⟨pr.toArray⟩ ⟨#[46]⟩) = verPres s.data.toList) := Lib.hid (HLp.out.trans hPr.symm)
        rw [data_mk] at hLp
        have hpr : pr.length ≤ 4000000000 := Nat.le_trans hp4 (by decide)
        generalize splitL ⟨pr.toArray⟩ ⟨#[46]⟩ = P at hcB hPn hLp ⊢
        have hPs : ∀ j, j < n → (P j).size ≤ 4000000000 := fun j hj => Nat.le_trans (hLp j hj) hpr
        have hpB := hpA.below hbB
        have pb3 := hpB.c3
        have pf3 := hpB.fr 3
        have hpC := hpB.set3 (.slice (some ⟨wA.heap.size, 0, none⟩) n n)
        have hb3B := below_step hb3A hbB
        have hb3C : Below w3.heap.size w3 (wB.setCell ⟨wr.heap.size, 3, none⟩ (.slice (some ⟨wA.heap.size, 0, none⟩) n n)) := hb3B.setCell (by have := lt_of_cell hpA.c0; exact hrs) _
        have hcC : ∀ j, j < n → (wB.setCell ⟨wr.heap.size, 3, none⟩ (.slice (some ⟨wA.heap.size, 0, none⟩) n n)).cell? ⟨wA.heap.size, j, none⟩ = some (.string (P j)) := fun j hj => by
          rw [World.cell?_setCell_other _ _ _ _ (by intro e; injection e with e1 _ _; omega)]; exact hcB j hj
        have HC := Lib.hid hcC
        have hE3 := hE3'.below hb3C
        clear hm1 hm2 HLp hLp hpr HP hPr hcB hbB hbA hEA hcC hpA hpB hzB
        go_wp2_with fail
        clear pb3 pf3
        generalize wB.setCell ⟨wr.heap.size, 3, none⟩ (.slice (some ⟨wA.heap.size, 0, none⟩) n n) = wC at hb3C HC hE3 hpC ⊢
        generalize wr.heap.size = pb at hpC hrA hnew hrs ⊢
        go_loopw [10, 71] (fun e i wr' => ∃ k : Nat, k ≤ n ∧ i = .int .i64 k ∧ e = errV A (partErrs ((lstF n P).take k) (numErrs (verWords s.data.toList) 0)) ∧ Below wC.heap.size wC wr') (fun _ i _ => n - (intOf i).toNat)
        case atStart => exact ⟨0, by omega, rfl, rfl, Below.refl _ _⟩
        case' round =>
          obtain ⟨k, hk, rfl, rfl, hbl⟩ := hrel
          have hEl := hE3.below hbl
          by_cases hlt : k < n
          case' pos =>
            have hck := Below.cell_some hbl (HC.out k hlt)
            go_wp2_with fail
            refine (part_calls ks A (P k) _ hEl (hPs k hlt)).mono ?_
            rintro e w4 ⟨rfl, hb4⟩
            have hb4C := below_step hbl hb4
            have hE4 := hEl.below hb4
            go_wp2_with fail
            refine (worse_calls ks A (partErrs ((lstF n P).take k) (numErrs (verWords s.data.toList) 0)) (partErr (P k).data.toList) _ hE4 ?_).mono ?_
            · have := partErrs_le ((lstF n P).take k) _ (numErrs_le (verWords s.data.toList) 0 (by decide))
              have h12 := hE.has
              generalize partErrs ((lstF n P).take k) (numErrs (verWords s.data.toList) 0) = c at this
              rcases (by omega : c = 0 ∨ c = 1 ∨ c = 2) with h | h | h
              · exact .inl h
              · rw [h]; exact .inr h12.1
              · rw [h]; exact .inr h12.2
            rintro e w5 ⟨rfl, hw5⟩
            subst hw5
            have hst := partErrs_snoc ((lstF n P).take k) (P k).data.toList (numErrs (verWords s.data.toList) 0)
            rw [← lstF_take_succ n P k hlt] at hst
            rw [← hst]
            clear hst
            go_wp2_with fail
            go_roundw
            case rel => exact ⟨k + 1, by omega, by go_num, rfl, hb4C⟩
            case measure => simp [intOf]; omega
          case' neg =>
            obtain rfl : k = n := by omega
            rw [lstF_take_all, hPn.out]
            have hzf := (hz2.below hb3C).below hbl
            have hbF := below_step (below_step hb02 hb3C) hbl
            have hpF := hpC.below hbl
            have hw0 : w.heap.size < wA.heap.size := Nat.lt_trans hnew hrA
            have hS : StrsAt' wr (.slice (some ⟨wA.heap.size, 0, none⟩) k k) (verPres s.data.toList) w.heap.size := ⟨⟨_, k, k, P, rfl, hPn.out.symm, Nat.le_refl _, Nat.le_trans hn9 (by decide), fun j hj => ⟨_, 0, rfl, by rw [Nat.zero_add]; exact Below.cell_some hbl (HC.out j hj)⟩⟩, by intro q n' c' h; injection h with h _ _; injection h with h; subst h; exact Nat.ne_of_gt hw0⟩
            have hlen : (verPres s.data.toList).length = k := by rw [← hPn.out, lstF_length]
            have hev : verErrs s.data.toList = if 5 < k then worseN (partErrs (verPres s.data.toList) (numErrs (verWords s.data.toList) 0)) 2 else partErrs (verPres s.data.toList) (numErrs (verWords s.data.toList) 0) := by unfold verErrs; rw [hlen]
            have hlec := partErrs_le (verPres s.data.toList) _ (numErrs_le (verWords s.data.toList) 0 (by decide))
            have p3 := hpF.c3
            clear hPn hb3C HC hpC hE3 hE3' hPs
            by_cases hk5 : 5 < k
            case' neg =>
              rw [if_neg hk5] at hev
              rw [← hev]
              clear hev hlec hlen p3 hEl hbl
            case' pos =>
              rw [if_pos hk5] at hev
              have g2 := hEl.errs.var 2 hE.has.2
              simp only [errG] at g2
              have h12 := hE.has
              have HEV := Lib.hid hev
              clear hev hlen hbl
              go_wp2_with fail
              clear p3 g2
              rw [show (Value.iface 328 (.pointer (some (A 2)))) = errV A 2 from (errV_pos A (c := 2) (by decide)).symm]
              refine (worse_calls ks A (partErrs (verPres s.data.toList) (numErrs (verWords s.data.toList) 0)) 2 _ hEl ?_).mono ?_
              · rcases (by omega : partErrs (verPres s.data.toList) (numErrs (verWords s.data.toList) 0) = 0 ∨ partErrs (verPres s.data.toList) (numErrs (verWords s.data.toList) 0) = 1 ∨ partErrs (verPres s.data.toList) (numErrs (verWords s.data.toList) 0) = 2) with h | h | h
                · exact .inl h
                · rw [h]; exact .inr h12.1
                · rw [h]; exact .inr h12.2
              rintro e w5 ⟨rfl, hw5⟩
              subst hw5
              rw [← HEV.out]
              clear HEV h12 hlec hEl
      all_goals
        have hne : w.heap.size ≠ pb := Nat.ne_of_lt hnew
        have hne' : pb ≠ w.heap.size := hne.symm
        obtain ⟨p0, p1, p2, p3, pf⟩ := hpF
        obtain ⟨z0, z1, z2, z3, zf⟩ := hzf
        have zf0 := zf 0
        have zf1 := zf 1
        have zf2 := zf 2
        have zf3 := zf 3
        have hn3 := numAt_three L s.data.toList HN.out
        clear pf zf
        by_cases hc : verErrs s.data.toList = 0
        · have hv0 := HV.out.trans hc
          have e0 := hn3 hv0 0 (by decide)
          have e1 := hn3 hv0 1 (by decide)
          have e2 := hn3 hv0 2 (by decide)
          have hpre := verPre_ok hv0
          have hS2 := fun u => ((((hS.set 0 (.int .i64 (numAt L 3 0))).set 1 (.int .i64 (numAt L 3 1))).set 2 (.int .i64 (numAt L 3 2))).set 3 u).at_
          have HX := Lib.hid (And.intro hpre (And.intro e0 (And.intro e1 (And.intro e2 hv0))))
          rw [hc, errV_zero]
          clear hS hn3 e0 e1 e2 hpre hv0 hc HV
          go_wp2_with fail
          refine bodyPost_ret (v := .tuple #[.agg #[.int .i64 (numAt L 3 0), .int .i64 (numAt L 3 1), .int .i64 (numAt L 3 2), _], .nilIface]) (by simp [results, Tryz.results40, go_sem, *]; rfl) rfl ?_
          obtain ⟨hpre, e0, e1, e2, hv0⟩ := HX.out
          rw [hpre, ← e0, ← e1, ← e2, hv0]
          exact ⟨((((hbF.setCell (Nat.le_refl _) _).setCell (Nat.le_refl _) _).setCell (Nat.le_refl _) _).setCell (Nat.le_refl _) _), _, rfl, hS2 _⟩
        · have hv0 : verErr s.data.toList ≠ 0 := by rw [HV.out]; exact hc
          have HX := Lib.hid (And.intro hv0 HV.out)
          rw [errV_pos A hc]
          clear hS hn3 hv0 hc HV
          go_wp2_with fail
          refine bodyPost_ret (v := .tuple #[.agg #[.int .i64 0, .int .i64 0, .int .i64 0, .slice none 0 0], .iface 328 (.pointer (some (A (verErrs s.data.toList))))]) (by simp [results, Tryz.results40, go_sem, *]) rfl ?_
          rw [verNum_bad HX.out.1, verNum_bad HX.out.1, verNum_bad HX.out.1, verPre_bad HX.out.1, errV_pos A HX.out.1, HX.out.2]
          exact ⟨((((hbF.setCell (Nat.le_refl _) _).setCell (Nat.le_refl _) _).setCell (Nat.le_refl _) _).setCell (Nat.le_refl _) _), _, rfl, StrsAt.nil _⟩
theorem verSplit_calls (ks : List Nat) (A : Nat → Addr) (s : ByteArray) (w : World) (hE : EnvP ks A w) (hs : s.size ≤ 1000000000) :
    Calls Tryz.prog 40 #[.string s] w fun e w' => Below w.heap.size w w' ∧ ∃ v, e = .returned (.tuple #[.agg #[.int .i64 (verNum s.data.toList 0 : Nat), .int .i64 (verNum s.data.toList 1 : Nat), .int .i64 (verNum s.data.toList 2 : Nat), v], errV A (verErr s.data.toList)]) ∧ StrsAt w' v (verPre s.data.toList) := by
  by_cases h : hasPrefix s.data.toList [118] = false ∨ (verWords s.data.toList).length ≠ 3
  · have h1 : verErr s.data.toList = 1 := by unfold verErr; rw [if_pos h]
    have hne : verErr s.data.toList ≠ 0 := by rw [h1]; decide
    refine (verSplit_form ks A s w hE hs ?_).mono ?_
    · rcases h with h | h
      · exact .inl h
      · cases hp : hasPrefix s.data.toList [118] with
        | false => exact .inl rfl
        | true => exact .inr ⟨rfl, h⟩
    rintro e w' ⟨rfl, hb⟩
    rw [verNum_bad hne, verNum_bad hne, verNum_bad hne, verPre_bad hne, h1]
    exact ⟨hb, _, rfl, StrsAt.nil _⟩
  · have h2 : (verWords s.data.toList).length = 3 := Decidable.of_not_not fun e => h (.inr e)
    have h3 : hasPrefix s.data.toList [118] = true := by
      cases hp : hasPrefix s.data.toList [118] with
      | true => rfl
      | false => exact absurd (.inl hp) h
    exact verSplit_three ks A s w hE hs h3 h2
end Go.Proofs.Pw

namespace Go.Proofs.Pw
open Go.RowKit
open Go.Lib hiding intOf
theorem verCheck_calls (ks : List Nat) (A : Nat → Addr) (s : ByteArray) (w : World) (hE : EnvP ks A w) (hs : s.size ≤ 1000000000) :
    Calls Tryz.prog 17 #[.string s] w fun e w' => e = .returned (errV A (verErr s.data.toList)) ∧ Below w.heap.size w w' := by
  go_enter Tryz.func17, Tryz.ntmps17
  go_wp2_with fail
  refine (verSplit_calls ks A s w hE hs).mono ?_
  rintro e w1 ⟨hb1, v, rfl, a, n, cap, L, rfl, _, _, _, _⟩
  go_wp2_with fail
  go_ret
  exact ⟨rfl, hb1.alloc hb1.size _⟩
end Go.Proofs.Pw

namespace Go.Proofs.Pw
open Go.RowKit
open Go.Lib hiding intOf
theorem elemOk_of {s : Str} {b1 b2 b3 b4 : Bool} (h1 : s.isEmpty = b1) (h2 : s.all isElemByte = b2) (h3 : s.all (· == 46) = b3) (h4 : contains s dots = b4) : elemOk s = (!b1 && b2 && !b3 && !b4) := by
  unfold elemOk; rw [h1, h2, h3, h4]
set_option maxHeartbeats 400000 in
theorem elem_calls (ks : List Nat) (A : Nat → Addr) (s : ByteArray) (w : World) (hE : EnvP ks A w) (hs : s.size ≤ 4000000000) :
    Calls Tryz.prog 96 #[.string s] w fun e w' => e = .returned (.bool (elemOk s.data.toList)) ∧ Below w.heap.size w w' := by
  have HP := Lib.hid (trimS_nil_bool s.data.toList elemSet isElemByte elemSet_ok)
  have HQ := Lib.hid (trimS_nil_bool s.data.toList [46] (· == 46) dotSet_ok)
  by_cases he : s.data.toList = []
  · have hr : elemOk s.data.toList = false := by rw [he]; rfl
    have h1 : s.toList.isEmpty = true := by rw [isEmpty_toList, he]; rfl
    have h2 : s.toList = [] := by simpa using h1
    rw [hr]
    clear he hr
    go_enter Tryz.func96, Tryz.ntmps96
    go_wp2_with fail
    go_ret
    exact ⟨rfl, Below.refl _ _⟩
  · have h1 : s.toList.isEmpty = false := by rw [isEmpty_toList]; simpa using he
    have h2 : (s.toList == []) = false := by simpa using h1
    have h0 : s.data.toList.isEmpty = false := by simpa using he
    have H0 := Lib.hid h0
    clear he h0
    cases ha : s.data.toList.all isElemByte with
    | false =>
      rw [show elemOk s.data.toList = false from by rw [elemOk_of H0.out ha rfl rfl]; rfl]
      have e1 : (trimS s.data.toList elemSet == []) = false := by rw [HP.out, ha]
      clear ha
      go_enter Tryz.func96, Tryz.ntmps96
      go_wp2_with fail
      refine (trim_calls _ _ _ hs (by decide) (by decide)).mono ?_
      rintro e w1 ⟨rfl, hb1⟩
      rw [show (⟨#[97, 98, 99, 100, 101, 102, 103, 104, 105, 106, 107, 108, 109, 110, 111, 112, 113, 114, 115, 116, 117, 118, 119, 120, 121, 122, 48, 49, 50, 51, 52, 53, 54, 55, 56, 57, 46, 45, 95]⟩ : ByteArray).data.toList = elemSet from rfl]
      generalize trimS s.data.toList elemSet = t at e1 ⊢
      have e2 : (⟨t.toArray⟩ : ByteArray).toList.isEmpty = false := by rw [toList_mk]; simpa using e1
      have e3 : t.isEmpty = false := by simpa using e1
      clear e1
      go_wp2_with fail
      go_ret
      exact ⟨rfl, hb1⟩
    | true =>
      have e1 : trimS s.data.toList elemSet = [] := by
        have := HP.out
        rw [ha] at this
        exact beq_iff_eq.1 this
      have E1 := Lib.hid e1
      have HA := Lib.hid ha
      clear e1 ha
      cases hd : s.data.toList.all (· == 46) with
      | true =>
        rw [show elemOk s.data.toList = false from by rw [elemOk_of H0.out HA.out hd rfl]; rfl]
        have e1 : trimS s.data.toList [46] = [] := by
          have := HQ.out
          rw [hd] at this
          exact beq_iff_eq.1 this
        have E2 := Lib.hid e1
        clear e1 hd
        go_enter Tryz.func96, Tryz.ntmps96
        go_wp2_with fail
        refine (trim_calls _ _ _ hs (by decide) (by decide)).mono ?_
        rintro e w1 ⟨rfl, hb1⟩
        rw [show (⟨#[97, 98, 99, 100, 101, 102, 103, 104, 105, 106, 107, 108, 109, 110, 111, 112, 113, 114, 115, 116, 117, 118, 119, 120, 121, 122, 48, 49, 50, 51, 52, 53, 54, 55, 56, 57, 46, 45, 95]⟩ : ByteArray).data.toList = elemSet from rfl, E1.out]
        go_wp2_with fail
        refine (trim_calls _ _ _ hs (by decide) (by decide)).mono ?_
        rintro e w2 ⟨rfl, hb2⟩
        rw [show (⟨#[46]⟩ : ByteArray).data.toList = [46] from rfl, E2.out]
        go_wp2_with fail
        go_ret
        exact ⟨rfl, below_step hb1 hb2⟩
      | false =>
        generalize hc : contains s.data.toList dots = c
        rw [show elemOk s.data.toList = !c from by rw [elemOk_of H0.out HA.out hd hc]; simp]
        have HC := Lib.hid hc
        have e1 : (trimS s.data.toList [46] == []) = false := by rw [HQ.out, hd]
        clear hd hc
        go_enter Tryz.func96, Tryz.ntmps96
        go_wp2_with fail
        refine (trim_calls _ _ _ hs (by decide) (by decide)).mono ?_
        rintro e w1 ⟨rfl, hb1⟩
        rw [show (⟨#[97, 98, 99, 100, 101, 102, 103, 104, 105, 106, 107, 108, 109, 110, 111, 112, 113, 114, 115, 116, 117, 118, 119, 120, 121, 122, 48, 49, 50, 51, 52, 53, 54, 55, 56, 57, 46, 45, 95]⟩ : ByteArray).data.toList = elemSet from rfl, E1.out]
        go_wp2_with fail
        refine (trim_calls _ _ _ hs (by decide) (by decide)).mono ?_
        rintro e w2 ⟨rfl, hb2⟩
        have hb12 := below_step hb1 hb2
        rw [show (⟨#[46]⟩ : ByteArray).data.toList = [46] from rfl]
        generalize trimS s.data.toList [46] = t at e1 ⊢
        have e2 : (⟨t.toArray⟩ : ByteArray).toList.isEmpty = false := by rw [toList_mk]; simpa using e1
        have e3 : t.isEmpty = false := by simpa using e1
        clear e1
        go_wp2_with fail
        refine (contains_calls _ _ _ (hE.below hb12).m hs).mono ?_
        rintro e w3 ⟨rfl, rfl⟩
        rw [show (⟨#[46, 46, 46]⟩ : ByteArray).data.toList = dots from rfl, HC.out]
        go_wp2_with fail
        go_ret
        exact ⟨rfl, hb12⟩
theorem itoa_calls (ks : List Nat) (A : Nat → Addr) (n : Nat) (w : World) (hE : EnvP ks A w) (hn : n ≤ 9223372036854775807) :
    Calls Tryz.prog 162 #[.int .i64 n] w fun e w' => e = .returned (.string ⟨(Lib.itoa n).toArray⟩) ∧ Below w.heap.size w w' :=
  (Tryz.strconv_Itoa n (by omega) (by omega) w hE.pow10).mono fun e w' ⟨h, k, os, h2⟩ => ⟨h, by subst h2; exact below_grow _ _ (Nat.le_refl _) _ _⟩
theorem suf_no {s : Str} (h : looksSuf s = false) : isSuf s = false ∧ sufWell s = true := by
  have h1 : isSuf s = false := by unfold isSuf; rw [h]; rfl
  exact ⟨h1, by unfold sufWell; rw [h]; rfl⟩
theorem suf_digits {s : Str} (h : looksSuf s = true) : sufWell s = isSuf s := by unfold sufWell; rw [h]; rfl
theorem suffix_no (ks : List Nat) (A : Nat → Addr) (s : ByteArray) (w : World) (_hE : EnvP ks A w) (hs : s.size ≤ 4000000000) (hl : looksSuf s.data.toList = false) :
    Calls Tryz.prog 94 #[.string s] w fun e w' => e = .returned (.tuple #[.int .i64 0, .bool false, .bool true]) ∧ Below w.heap.size w w' := by
  have ht : (trimPrefix s.data.toList [118]).length ≤ s.size := by rw [size_eq s]; exact trimPrefix_le _ _
  cases hp : hasPrefix s.data.toList [118] with
  | false =>
    go_enter Tryz.func94, Tryz.ntmps94
    go_wp2_with fail
    refine (cutPrefix_calls _ _ _).mono ?_
    rintro e w1 ⟨rfl, rfl⟩
    rw [show (⟨#[118]⟩ : ByteArray).data.toList = [118] from rfl, hp]
    clear hp hl
    go_wp2_with fail
    all_goals go_ret3
    all_goals exact ⟨rfl, Below.refl _ _⟩
  | true =>
    have hd : areDigits (trimPrefix s.data.toList [118]) = false := by
      have := hl
      unfold looksSuf sufD at this
      rw [hp] at this
      exact this
    have HP := Lib.hid hp
    have HQ := Lib.hid (trimS_nil_bool (trimPrefix s.data.toList [118]) digitsSet isDig digitsSet_ok)
    clear hp hl
    go_enter Tryz.func94, Tryz.ntmps94
    go_wp2_with fail
    refine (cutPrefix_calls _ _ _).mono ?_
    rintro e w1 ⟨rfl, rfl⟩
    rw [show (⟨#[118]⟩ : ByteArray).data.toList = [118] from rfl, HP.out]
    by_cases h0 : trimPrefix s.data.toList [118] = []
    · rw [h0]
      clear hd HQ h0
      go_wp2_with fail
      all_goals go_ret3
      all_goals exact ⟨rfl, Below.refl _ _⟩
    · have hne : (⟨(trimPrefix s.data.toList [118]).toArray⟩ : ByteArray).toList.isEmpty = false := by rw [toList_mk]; simpa using h0
      have hne2 : (trimPrefix s.data.toList [118]).isEmpty = false := by simpa using h0
      have hne3 : ((trimPrefix s.data.toList [118]) == []) = false := by simpa using h0
      have e1 : (trimS (trimPrefix s.data.toList [118]) digitsSet == []) = false := by
        rw [HQ.out]
        unfold areDigits at hd
        rw [hne2] at hd
        simpa using hd
      have ht4 : (⟨(trimPrefix s.data.toList [118]).toArray⟩ : ByteArray).size ≤ 4000000000 := Nat.le_trans ht hs
      generalize trimPrefix s.data.toList [118] = D at e1 hne hne2 hne3 ht4 ⊢
      clear hd HQ h0 ht
      go_wp2_with fail
      refine (trim_calls _ _ _ ht4 (by decide) (by decide)).mono ?_
      rintro e w2 ⟨rfl, hb2⟩
      rw [show (⟨#[48, 49, 50, 51, 52, 53, 54, 55, 56, 57]⟩ : ByteArray).data.toList = digitsSet from rfl, data_mk]
      generalize trimS D digitsSet = t at e1 ⊢
      have e2 : (⟨t.toArray⟩ : ByteArray).toList.isEmpty = false := by rw [toList_mk]; simpa using e1
      have e3 : t.isEmpty = false := by simpa using e1
      clear e1
      go_wp2_with fail
      go_ret3
      exact ⟨rfl, hb2⟩
theorem suffix_dig (ks : List Nat) (A : Nat → Addr) (s : ByteArray) (w : World) (hE : EnvP ks A w) (hs : s.size ≤ 4000000000) (hl : looksSuf s.data.toList = true) :
    Calls Tryz.prog 94 #[.string s] w fun e w' => (∃ n : Int, e = .returned (.tuple #[.int .i64 n, .bool (isSuf s.data.toList), .bool (isSuf s.data.toList)]) ∧ (isSuf s.data.toList = true → n = (sufNum s.data.toList : Nat))) ∧ Below w.heap.size w w' := by
  have ht : (trimPrefix s.data.toList [118]).length ≤ s.size := by rw [size_eq s]; exact trimPrefix_le _ _
  have hl2 : hasPrefix s.data.toList [118] = true ∧ areDigits (trimPrefix s.data.toList [118]) = true := by
    unfold looksSuf sufD at hl
    simpa using hl
  have his : isSuf s.data.toList = decide ((numberOf (trimPrefix s.data.toList [118])).2 = 0 ∧ 2 ≤ (numberOf (trimPrefix s.data.toList [118])).1) := by unfold isSuf; rw [hl]; rfl
  have hnu : sufNum s.data.toList = (numberOf (trimPrefix s.data.toList [118])).1 := rfl
  obtain ⟨hp, hd⟩ := hl2
  have HP := Lib.hid hp
  have ht4 : (⟨(trimPrefix s.data.toList [118]).toArray⟩ : ByteArray).size ≤ 4000000000 := Nat.le_trans ht hs
  generalize isSuf s.data.toList = R at his ⊢
  generalize sufNum s.data.toList = N at hnu ⊢
  generalize hD : trimPrefix s.data.toList [118] = D at hd ht4 his hnu
  have HR := Lib.hid his
  have HN := Lib.hid hnu
  have HDD := Lib.hid hD
  clear hp hl his hnu hD
  go_enter Tryz.func94, Tryz.ntmps94
  go_wp2_with fail
  refine (cutPrefix_calls _ _ _).mono ?_
  rintro e w1 ⟨rfl, rfl⟩
  rw [show (⟨#[118]⟩ : ByteArray).data.toList = [118] from rfl, HP.out, HDD.out]
  clear ht
  have h0 : D ≠ [] := by intro e; rw [e] at hd; exact absurd hd (by decide)
  have hne : (⟨D.toArray⟩ : ByteArray).toList.isEmpty = false := by rw [toList_mk]; simpa using h0
  have hne2 : D.isEmpty = false := by simpa using h0
  have hne3 : (D == []) = false := by simpa using h0
  have e1 : trimS D digitsSet = [] := by
    have := trimS_nil_bool D digitsSet isDig digitsSet_ok
    have hd2 := hd
    unfold areDigits at hd2
    rw [hne2] at hd2
    rw [show D.all isDig = true by simpa using hd2] at this
    exact beq_iff_eq.1 this
  have E1 := Lib.hid e1
  have HD := Lib.hid hd
  clear e1 hd h0
  go_wp2_with fail
  refine (trim_calls _ _ _ ht4 (by decide) (by decide)).mono ?_
  rintro e w2 ⟨rfl, hb2⟩
  rw [show (⟨#[48, 49, 50, 51, 52, 53, 54, 55, 56, 57]⟩ : ByteArray).data.toList = digitsSet from rfl, data_mk, E1.out]
  have hE2 := hE.below hb2
  go_wp2_with fail
  refine (atoi_calls ks A _ _ hE2 ht4 HD.out).mono ?_
  rintro e w3 ⟨hr, hb3⟩
  have hb23 := below_step hb2 hb3
  have hE3 := hE.below hb23
  rcases hr with ⟨x, te, pe, rfl, h7⟩ | rfl
  · have hf : ¬ ((numberOf D).2 = 0 ∧ 2 ≤ (numberOf D).1) := by
      rintro ⟨h, _⟩
      by_cases hz : areDigits D = false ∨ (1 < D.length ∧ D.head? = some 48)
      · rw [numberOf_text hz] at h; exact absurd h (by decide)
      · rw [numberOf_long hz h7] at h; exact absurd h (by decide)
    have HF := Lib.hid hf
    clear hf h7 hE3 hE2 hne hne2 hne3 ht4
    go_wp2_with fail
    go_ret3
    have hR : R = false := by rw [HR.out, decide_eq_false HF.out]
    rw [hR]
    exact ⟨⟨x, rfl, fun h => absurd h (by decide)⟩, hb23⟩
  · rw [data_mk]
    have hsm := decVal_small HD.out
    have hit := itoa_decVal HD.out
    have hnum : (1 < D.length ∧ D.head? = some 48) ∨ (¬ (1 < D.length ∧ D.head? = some 48)) := Decidable.em _
    have hv63 : decVal D ≤ 999999 ∨ 999999 < decVal D := Nat.lt_or_ge 999999 (decVal D) |>.symm
    generalize hv : decVal D = v at hsm hit hv63 ⊢
    have HV := Lib.hid hv
    clear hv
    by_cases h2 : v < 2
    · have HF : Hid (R = false) := by
        refine Lib.hid ?_
        rw [HR.out]
        apply decide_eq_false
        rintro ⟨h, h3⟩
        by_cases hz : areDigits D = false ∨ (1 < D.length ∧ D.head? = some 48)
        · rw [numberOf_text hz] at h; exact absurd h (by decide)
        · by_cases hl6 : 6 < D.length
          · rw [numberOf_long hz hl6] at h; exact absurd h (by decide)
          · rw [numberOf_ok hz hl6, HV.out] at h3; simp only at h3; omega
      clear hE3 hE2 hne hne2 hne3 ht4 hsm hit hnum hv63
      go_wp2_with fail
      go_ret3
      rw [HF.out]
      exact ⟨⟨_, rfl, fun h => absurd h (by decide)⟩, hb23⟩
    · rcases hv63 with hle | hgt
      · have hita := itoa_calls ks A v w3 hE3 (by omega)
        by_cases heq : itoa ((v : Nat) : Int) = D
        · have hz := hit.1 heq
          have hl6 := (hsm hz).1 hle
          have HF : Hid (R = true ∧ N = v) := by
            have hzz : ¬ (areDigits D = false ∨ (1 < D.length ∧ D.head? = some 48)) := by
              rintro (h | h)
              · rw [HD.out] at h; exact absurd h (by decide)
              · exact hz h
            have e := numberOf_ok hzz (Nat.not_lt.2 hl6)
            rw [HV.out] at e
            refine Lib.hid ⟨?_, ?_⟩
            · rw [HR.out, e]
              simp only
              rw [decide_eq_true]
              exact ⟨trivial, by omega⟩
            · rw [HN.out, e]
          have HQ := Lib.hid heq
          clear hE3 hE2 hne hne2 hne3 ht4 hsm hit hnum hz hl6 heq
          go_wp2_with fail
          refine hita.mono ?_
          rintro e w4 ⟨rfl, hb4⟩
          rw [HQ.out]
          have hb24 := below_step hb23 hb4
          clear hita
          go_wp2_with fail
          go_ret3
          rw [HF.out.1, HF.out.2]
          exact ⟨⟨_, rfl, fun _ => rfl⟩, hb24⟩
        · have hz : 1 < D.length ∧ D.head? = some 48 := Decidable.of_not_not fun h => heq (hit.2 h)
          have HF : Hid (R = false) := by
            refine Lib.hid ?_
            rw [HR.out]
            apply decide_eq_false
            rintro ⟨h, h3⟩
            rw [numberOf_text (.inr hz)] at h
            exact absurd h (by decide)
          generalize itoa ((v : Nat) : Int) = t at heq hita
          have hq1 : (t == D) = false := beq_eq_false_iff_ne.2 heq
          have hq2 : (⟨t.toArray⟩ : ByteArray) ≠ ⟨D.toArray⟩ := by
            intro e; injection e with e; exact heq (by simpa using congrArg Array.toList e)
          have hq4 : ((⟨t.toArray⟩ : ByteArray).toList == (⟨D.toArray⟩ : ByteArray).toList) = false := by rw [toList_mk, toList_mk]; exact hq1
          clear hE3 hE2 hne hne2 hne3 ht4 hsm hit hnum hz
          go_wp2_with fail
          refine hita.mono ?_
          rintro e w4 ⟨rfl, hb4⟩
          have hb24 := below_step hb23 hb4
          clear hita
          go_wp2_with fail
          go_ret3
          rw [HF.out]
          exact ⟨⟨_, rfl, fun h => absurd h (by decide)⟩, hb24⟩
      · have HF : Hid (R = false) := by
          refine Lib.hid ?_
          rw [HR.out]
          apply decide_eq_false
          rintro ⟨h, h3⟩
          by_cases hz : areDigits D = false ∨ (1 < D.length ∧ D.head? = some 48)
          · rw [numberOf_text hz] at h; exact absurd h (by decide)
          · by_cases hl6 : 6 < D.length
            · rw [numberOf_long hz hl6] at h; exact absurd h (by decide)
            · have := (hsm (fun e => hz (.inr e))).2 (by omega)
              omega
        clear hE3 hE2 hne hne2 hne3 ht4 hsm hit hnum
        go_wp2_with fail
        go_ret3
        rw [HF.out]
        exact ⟨⟨_, rfl, fun h => absurd h (by decide)⟩, hb23⟩
end Go.Proofs.Pw
