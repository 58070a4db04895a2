/- Po: walks and plain laws, joined: VerD VerSplitD. Conditions: at each theorem. -/
import Derived.Test.YtglhgbcebpeomaaGreatDoorPod
import Derived.Test.YtglhgbcebpeomaaGreatDoorPoa
import Derived.Test.YtglhgbcebpeomaaGreatDoorPol

namespace Go.Proofs.Pw
open Go.RowKit
open Go.Lib hiding intOf
theorem trimD_calls (s cs : ByteArray) (w : World) (hs : s.size ≤ 4000000000) (hc : cs.size ≤ 1000) (h2 : 2 ≤ cs.size) (h0 : 0 < s.size) (ha : ∀ b ∈ cs.data.toList, b.toNat < 128) :
    Calls Tryz.prog 145 #[.string s, .string cs] w fun e w' => e = .returned (.string ⟨(Lib.trimS s.data.toList cs.data.toList).toArray⟩) ∧ Bel w.heap.size w w' := by
  have hz := zero_of_info (P := Tryz.prog) (t := Tryz.lays160_ren.t 116) (v := .agg (Array.replicate 256 (.bool false))) (n := 256) (by kernel_rfl)
  refine (Any.strings_Trim_set Tryz.lays160 hz.1 hz.2 s cs w h2 h0 (by omega) (by omega) (fun j b h => ha b (List.mem_of_getElem? h))).mono ?_
  rintro e w' ⟨rfl, q, rfl⟩
  exact ⟨rfl, (((bel_alloc _ _).alloc (by simp) _)).drewN q⟩
theorem digitsD_calls (s : ByteArray) (w : World) (hs : s.size ≤ 4000000000) :
    Calls Tryz.prog 257 #[.string s] w fun e w' => e = .returned (.bool (areDigits s.data.toList)) ∧ Bel w.heap.size w w' := by
  have HT := Lib.hid (trimS_nil_bool s.data.toList digitsSet isDig digitsSet_ok)
  cases he : s.data.toList.isEmpty with
  | true =>
    have h1 : s.toList.isEmpty = true := by rw [isEmpty_toList, he]
    have h2 : s.toList = [] := by simpa using h1
    have HD : Hid (areDigits s.data.toList = false) := by unfold areDigits; show _ = _; rw [he]; rfl
    clear he
    go_enter Tryz.func257, Tryz.ntmps257
    go_wp2_with fail
    go_ret
    exact ⟨by rw [HD.out]; simp, Bel.refl _ _⟩
  | false =>
    have h00 : 0 < s.size := by
      rw [size_eq]
      cases hsd : s.data.toList with
      | nil => rw [hsd] at he; cases he
      | cons c r => simp
    have h1 : s.toList.isEmpty = false := by rw [isEmpty_toList, he]
    have h2 : (s.toList == []) = false := by simpa using h1
    have HD : Hid (areDigits s.data.toList = s.data.toList.all isDig) := by unfold areDigits; show _ = _; rw [he]; rfl
    clear he
    go_enter Tryz.func257, Tryz.ntmps257
    go_wp2_with fail
    refine (trimD_calls _ _ _ hs (by decide) (by decide) h00 (by decide)).mono ?_
    rintro e w1 ⟨rfl, hb1⟩
    cases ha : s.data.toList.all isDig with
    | true =>
      have e1 : trimS s.data.toList (⟨#[48, 49, 50, 51, 52, 53, 54, 55, 56, 57]⟩ : ByteArray).data.toList = [] := by
        have := HT.out
        rw [ha] at this
        exact beq_iff_eq.1 this
      rw [e1]
      clear e1
      go_wp2_with fail
      go_ret
      exact ⟨by rw [HD.out, ha]; simp, hb1⟩
    | false =>
      have e1 : (trimS s.data.toList (⟨#[48, 49, 50, 51, 52, 53, 54, 55, 56, 57]⟩ : ByteArray).data.toList == []) = false := by
        have := HT.out
        rw [ha] at this
        exact this
      generalize trimS s.data.toList (⟨#[48, 49, 50, 51, 52, 53, 54, 55, 56, 57]⟩ : ByteArray).data.toList = t at e1 ⊢
      have e2 : (⟨t.toArray⟩ : ByteArray).toList.isEmpty = false := by rw [toList_mk]; simpa using e1
      clear e1
      go_wp2_with fail
      go_ret
      exact ⟨by rw [HD.out, ha]; simp_all, hb1⟩
theorem atoiD_calls (s : ByteArray) (w : World) (hs : s.size ≤ 4000000000) (hd : areDigits s.data.toList = true) (h6 : ¬ 6 < s.size) :
    Calls Tryz.prog 135 #[.string s] w fun e w' => e = .returned (.tuple #[.int .i64 (decVal s.data.toList), .nilIface]) ∧ Bel w.heap.size w w' := by
  rcases atoiAll_digits hd with h | h
  · exact absurd (by rw [size_eq]; exact atoiAll_range_long hd h) h6
  · refine (Tryz.strconv_Atoi_ok s (by omega) _ h w).mono ?_
    rintro e w' ⟨rfl, hw⟩
    refine ⟨rfl, ?_⟩
    rcases hw with rfl | ⟨t, rfl⟩
    · exact Bel.refl _ _
    · exact ⟨Lib.bytesWorld_below _ _ _, by show w.drawn ≤ w.drawn + 1; omega⟩
set_option maxHeartbeats 400000 in
theorem numberOkD (ks : List Nat) (A : Nat → Addr) (s : ByteArray) (w : World) (hE : EnvP ks A w) (hs : s.size ≤ 4000000000) (hd : areDigits s.data.toList = true) (hz : ¬ (1 < s.data.toList.length ∧ s.data.toList.head? = some 48)) (h6 : ¬ 6 < s.size) :
    Calls Tryz.prog 167 #[.string s] w fun e w' => e = .returned (.tuple #[.int .i64 (decVal s.data.toList), errV A 0]) ∧ Bel w.heap.size w w' := by
  have HD := Lib.hid hd
  have hv := decVal_small hd hz
  rw [← size_eq] at hv
  have HS := Lib.hid hv
  have hne : 0 < s.size := by
    rw [size_eq]
    cases hsd : s.data.toList with
    | nil => rw [hsd] at hd; simp [areDigits] at hd
    | cons c r => simp
  have h01 : (1 < s.size ∧ (((s[0]'hne).toNat : Int) == 48) = false) ∨ ¬ 1 < s.size := by
    by_cases h1 : 1 < s.size
    · refine .inl ⟨h1, ?_⟩
      rw [beq_eq_false_iff_ne]
      intro e
      apply hz
      refine ⟨by rw [← size_eq]; exact h1, ?_⟩
      have h2 : s.data.toList[0]? = some (s[0]'hne) := by
        rw [List.getElem?_eq_getElem (by rw [← size_eq]; omega)]; rfl
      rw [List.head?_eq_getElem?, h2]
      have : (s[0]'hne).toNat = 48 := by exact_mod_cast e
      rw [show (48 : UInt8) = UInt8.ofNat 48 from rfl, ← this, UInt8.ofNat_toNat]
    · exact .inr h1
  clear hd hz hv
  rcases h01 with ⟨h1, h2⟩ | h1
  all_goals
    go_enter Tryz.func167, Tryz.ntmps167
    go_wp2_with fail
    refine (digitsD_calls _ _ hs).mono ?_
    rintro e w1 ⟨rfl, hb1⟩
    rw [HD.out]
    have hEa := hE.below hb1.b
    go_wp2_with fail
    refine (atoiD_calls _ _ hs HD.out h6).mono ?_
    rintro e w2 ⟨rfl, hb2⟩
    have hE2 := (hEa.below hb2.b).errs.var 2 hE.has.2
    simp only [errG] at hE2
    have hsm : decVal s.data.toList ≤ 999999 := HS.out.2 (by omega)
    go_wp2_with fail
    go_ret2
    exact ⟨rfl, bel_step hb1 hb2⟩
theorem numberD_calls (ks : List Nat) (A : Nat → Addr) (s : ByteArray) (w : World) (hE : EnvP ks A w) (hs : s.size ≤ 4000000000) (h0 : (numberOf s.data.toList).2 = 0) :
    Calls Tryz.prog 167 #[.string s] w fun e w' => e = .returned (.tuple #[.int .i64 ((numberOf s.data.toList).1 : Nat), errV A (numberOf s.data.toList).2]) ∧ Bel w.heap.size w w' := by
  obtain ⟨hd, hz, hv, h6⟩ := numberOf_err h0
  rw [h0, hv]
  exact numberOkD ks A s w hE hs hd hz (by rw [size_eq]; omega)
set_option maxHeartbeats 400000 in
theorem partD_calls (ks : List Nat) (A : Nat → Addr) (s : ByteArray) (w : World) (hE : EnvP ks A w) (hs : s.size ≤ 4000000000) (hok : partErr s.data.toList = 0) :
    Calls Tryz.prog 169 #[.string s] w fun e w' => e = .returned (errV A (partErr s.data.toList)) ∧ Bel w.heap.size w w' := by
  have hT := hE.errs.var 1 hE.has.1
  simp only [errG] at hT
  have HP := Lib.hid (trimS_nil_bool s.data.toList partSet isPartByte partSet_ok)
  have hsz := size_eq s
  by_cases he : s.data.toList = []
  · rw [partErr_text (.inl he)] at hok; cases hok
  · have h1 : s.toList.isEmpty = false := by rw [isEmpty_toList]; simpa using he
    have h2 : (s.toList == []) = false := by simpa using h1
    by_cases hl : 8 < s.size
    · rw [partErr_text (.inr (.inl (by rw [← hsz]; exact hl)))] at hok; cases hok
    · have HL := Lib.hid hsz
      have h00 : 0 < s.size := by
        rw [size_eq]
        cases hsd : s.data.toList with
        | nil => exact absurd hsd he
        | cons c r => simp
      have HE := Lib.hid he
      clear hsz he
      cases ha : s.data.toList.all isPartByte with
      | false => rw [partErr_text (.inr (.inr ha))] at hok; cases hok
      | true =>
        have e1 : trimS s.data.toList partSet = [] := by
          have := HP.out
          rw [ha] at this
          exact beq_iff_eq.1 this
        have hpe : partErr s.data.toList = if areDigits s.data.toList then (numberOf s.data.toList).2 else 0 := by
          unfold partErr
          rw [if_neg]
          rintro (h | h | h)
          · exact HE.out h
          · rw [← HL.out] at h; exact hl h
          · rw [ha] at h; exact absurd h (by decide)
        have HPE := Lib.hid (hpe.symm.trans hok)
        rw [hpe]
        clear hpe ha hok
        generalize hc : (if areDigits s.data.toList then (numberOf s.data.toList).2 else 0) = c
        have HC := Lib.hid hc
        clear hc
        have E1 := Lib.hid e1
        clear e1
        go_enter Tryz.func169, Tryz.ntmps169
        go_wp2_with fail
        refine (trimD_calls _ _ _ hs (by decide) (by decide) h00 (by decide)).mono ?_
        rintro e w1 ⟨rfl, hb1⟩
        rw [show (⟨#[97, 98, 99, 100, 101, 102, 103, 104, 105, 106, 107, 108, 109, 110, 111, 112, 113, 114, 115, 116, 117, 118, 119, 120, 121, 122, 65, 66, 67, 68, 69, 70, 71, 72, 73, 74, 75, 76, 77, 78, 79, 80, 81, 82, 83, 84, 85, 86, 87, 88, 89, 90, 48, 49, 50, 51, 52, 53, 54, 55, 56, 57, 45]⟩ : ByteArray).data.toList = partSet from rfl, E1.out]
        go_wp2_with fail
        refine (digitsD_calls _ _ hs).mono ?_
        rintro e w2 ⟨rfl, hb2⟩
        cases hd : areDigits s.data.toList with
        | false =>
          obtain rfl : c = 0 := by have := HC.out; rw [hd] at this; exact this.symm
          clear hd
          go_wp2_with fail
          go_ret
          exact ⟨rfl, bel_step hb1 hb2⟩
        | true =>
          obtain rfl : c = (numberOf s.data.toList).2 := by have := HC.out; rw [hd] at this; exact this.symm
          have HK : Hid ((numberOf s.data.toList).2 = 0) := Lib.hid (by have := HPE.out; rw [hd] at this; exact this)
          clear hd
          go_wp2_with fail
          refine (numberD_calls ks A _ _ ((hE.below hb1.b).below hb2.b) hs HK.out).mono ?_
          rintro e w3 ⟨rfl, hb3⟩
          go_wp2_with fail
          go_ret
          exact ⟨rfl, bel_step (bel_step hb1 hb2) hb3⟩
end Go.Proofs.Pw

namespace Go.Proofs.Pw
open Go.RowKit
open Go.Lib hiding intOf
theorem splitD_calls (s sep : ByteArray) (w : World) (hE : EnvM w) (hs : s.size ≤ 4000000000) (h1 : 1 ≤ sep.size) :
    Calls Tryz.prog 79 #[.string s, .string sep] w fun e w' => ∃ n, e = .returned (.slice (some ⟨w.heap.size, 0, none⟩) n n) ∧ 1 ≤ n ∧ n ≤ s.size + 1 ∧
      Hid (lstF n (splitL s sep) = split s.data.toList sep.data.toList) ∧ Bel w.heap.size w w' ∧ (∀ j, j < n → w'.cell? ⟨w.heap.size, j, none⟩ = some (.string (splitL s sep j))) ∧ w.heap.size < w'.heap.size := by
  obtain ⟨m, hm⟩ := hE.maxLen
  refine (Tryz.strings_Split s sep m w (by omega) hm h1).mono fun e w' ⟨h, h2⟩ => ?_
  refine ⟨_, h, by omega, by have := countB_le sep h1 s.size s (Nat.le_refl _); omega, splitL_lstF s sep h1, h2 ▸ bel_alloc _ _, ?_, by rw [h2]; simp⟩
  intro j hj
  have hl := splitB_all sep h1 0 _ s rfl
  rw [h2, World.cell?_alloc_at _ _ _ _ rfl]
  simp only [List.getElem?_toArray, List.getElem?_map, splitL]
  rw [List.getElem?_eq_getElem (by omega)]
  simp [List.getD_eq_getElem?_getD, List.getElem?_eq_getElem (show j < (splitB sep 0 (countB s sep) s).length by omega)]
theorem cutD_calls (s sep : ByteArray) (w : World) (hE : EnvM w) (hs : s.size ≤ 4000000000) :
    Calls Tryz.prog 68 #[.string s, .string sep] w fun e w' => e = .returned (.tuple #[.string ⟨(Lib.cut s.data.toList sep.data.toList).1.toArray⟩, .string ⟨(Lib.cut s.data.toList sep.data.toList).2.1.toArray⟩, .bool (Lib.cut s.data.toList sep.data.toList).2.2]) ∧ Bel w.heap.size w w' := by
  obtain ⟨m, hm⟩ := hE.maxLen
  refine (Tryz.strings_Cut s sep m w (by omega) hm).mono ?_
  rintro e w' ⟨rfl, n, rfl⟩
  exact ⟨rfl, Bel.drewN (Bel.refl _ _) _⟩
set_option maxHeartbeats 2000000 in
set_option maxRecDepth 100000 in
theorem verSplitD_calls (ks : List Nat) (A : Nat → Addr) (s : ByteArray) (w : World) (hE : EnvP ks A w) (hs : s.size ≤ 1000000000) (hok : verErr s.data.toList = 0) :
    Calls Tryz.prog 98 #[.string s] w fun e w' => Bel w.heap.size w w' ∧ ∃ v, e = .returned (.tuple #[.agg #[.int .i64 (verNum s.data.toList 0 : Nat), .int .i64 (verNum s.data.toList 1 : Nat), .int .i64 (verNum s.data.toList 2 : Nat), v], errV A (verErr s.data.toList)]) ∧ StrsAt w' v (verPre s.data.toList) := by
  obtain ⟨hf, hl, hws, hps, _⟩ := (verErr_zero s.data.toList).1 hok
  have HWS := Lib.hid hws
  have HPS := Lib.hid hps
  clear hws hps hok
  have ht : (trimPrefix s.data.toList [118]).length ≤ s.size := by rw [size_eq s]; exact trimPrefix_le _ _
  have hc1 := (cut_le (trimPrefix s.data.toList [118]) [45])
  have ht4 : (⟨(trimPrefix s.data.toList [118]).toArray⟩ : ByteArray).size ≤ 4000000000 := Nat.le_trans ht (by omega)
  have hc4 : (⟨(cut (trimPrefix s.data.toList [118]) [45]).1.toArray⟩ : ByteArray).size ≤ 4000000000 := Nat.le_trans hc1.1 (Nat.le_trans ht (by omega))
  have hp4 : (⟨(cut (trimPrefix s.data.toList [118]) [45]).2.1.toArray⟩ : ByteArray).size ≤ 1000000000 := Nat.le_trans hc1.2 (Nat.le_trans ht hs)
  have h5 : ∀ n L, (Hid (lstF n L = split (cut (trimPrefix s.data.toList [118]) [45]).1 [46])) → n = 3 ∧ lstF 3 L = verWords s.data.toList := fun n L h => by
    have := congrArg List.length h.out
    rw [lstF_length] at this
    have e : n = 3 := this.trans hl
    subst e
    exact ⟨rfl, h.out⟩
  have HW : Hid (verWords s.data.toList = split (cut (trimPrefix s.data.toList [118]) [45]).1 [46]) := Lib.hid rfl
  have HP : Hid (verPres s.data.toList = if (cut (trimPrefix s.data.toList [118]) [45]).2.2 then split (cut (trimPrefix s.data.toList [118]) [45]).2.1 [46] else []) := Lib.hid rfl
  have HV : Hid (verErr s.data.toList = verErrs s.data.toList) := Lib.hid (by unfold verErr; rw [if_neg]; rw [hf, hl]; simp)
  have HF := Lib.hid hf
  clear hf hl
  go_enter Tryz.func98, Tryz.ntmps98
  go_wp2_with fail
  have hb0 := bel_alloc w (.cells #[.int .i64 0, .int .i64 0, .int .i64 0, .slice none 0 0] 154)
  refine (cutPrefix_calls _ _ _).mono ?_
  rintro e w1 ⟨rfl, hw1⟩
  subst hw1
  rw [show (⟨#[118]⟩ : ByteArray).data.toList = [118] from rfl, HF.out]
  have hE0 := hE.below hb0.b
  go_wp2_with fail
  refine (cutD_calls _ _ _ hE0.m ht4).mono ?_
  rintro e w2 ⟨rfl, hb1⟩
  have hE1 := hE0.below hb1.b
  have hb01 := bel_step hb0 hb1
  have hz0 := (box4_alloc w (.int .i64 0) (.int .i64 0) (.int .i64 0) (.slice none 0 0) 154).below hb1.b
  have hz0s : w.heap.size < w2.heap.size := lt_of_cell hz0.c0
  rw [show (⟨#[45]⟩ : ByteArray).data.toList = [45] from rfl]
  rw [data_mk]
  generalize hH : (cut (trimPrefix s.data.toList [118]) [45]).1 = hd at hc4 h5 HW ⊢
  generalize hG : (cut (trimPrefix s.data.toList [118]) [45]).2.1 = pr at hp4 HP ⊢
  generalize hB : (cut (trimPrefix s.data.toList [118]) [45]).2.2 = has at HP ⊢
  clear hH hG hB hc1 ht4 ht
  go_wp2_with fail
  refine (splitD_calls _ ⟨#[46]⟩ _ hE1.m hc4 (by decide)).mono ?_
  rintro e w3 ⟨n, rfl, hn1, hn2, HL, hb2, hc2, hz2⟩
  obtain ⟨rfl, hn⟩ := h5 n _ HL
  have hE2 := hE1.below hb2.b
  have hb02 := bel_step hb01 hb2
  have hz2 := hz0.below hb2.b
  have HN := Lib.hid hn
  have hLs := lstF_mem_le (by decide) HL.out
  rw [data_mk] at hLs
  have hhd : hd.length ≤ 4000000000 := hc4
  generalize splitL ⟨hd.toArray⟩ ⟨#[46]⟩ = L at hc2 HN hLs ⊢
  have hLs4 : ∀ j, j < 3 → (L j).size ≤ 4000000000 := fun j hj => Nat.le_trans (hLs j hj) hhd
  have hHC := Lib.hid hc2
  clear hn h5 hb1 hb2 hb01 hE0 hE1 hz0 HL HW hn1 hn2 hc4 hLs hhd hc2
  go_wp2_with fail
  have hba := bel_alloc w3 (.cells #[.int .i64 0, .int .i64 0, .int .i64 0] 184)
  go_loopw [10, 41] (fun e i wr => ∃ k : Nat, k ≤ 3 ∧ i = .int .i64 k ∧ e = errV A (numErrs ((lstF 3 L).take k) 0) ∧ Bel w3.heap.size w3 wr ∧ Nums wr w3.heap.size L k) (fun _ i _ => 3 - (intOf i).toNat)
  case atStart => exact ⟨0, by omega, rfl, rfl, hba, nums_alloc _ _ _⟩
  case round =>
    obtain ⟨k, hk, rfl, rfl, hbr, hN⟩ := hrel
    have hEr := hE2.below hbr.b
    by_cases hlt : k < 3
    · have hck := Below.cell_some hbr.b (hHC.out k hlt)
      go_wp2_with fail
      refine (numberD_calls ks A (L k) wr hEr (hLs4 k hlt) (HWS.out _ (by rw [← HN.out]; exact List.mem_of_getElem? (lstF_get 3 L k hlt)))).mono ?_
      rintro e w4 ⟨rfl, hb4⟩
      have hN4 := hN.below hb4.b
      have hE4 := hEr.below hb4.b
      have hbr4 := bel_step hbr hb4
      have hn1 := hN4.c k hlt
      have hn2 := hN4.fr k
      go_wp2_with fail
      have hbs : Bel w3.heap.size w3 (w4.setCell ⟨w3.heap.size, k, none⟩ (.int .i64 ((numberOf (L k).data.toList).1 : Nat))) := hbr4.setCell (Nat.le_refl _) _
      have hE5 := hE2.below hbs.b
      have hN5 := hN4.step hlt
      refine (worse_calls ks A (numErrs ((lstF 3 L).take k) 0) (numberOf (L k).data.toList).2 _ hE5 ?_).mono ?_
      · have := numErrs_le ((lstF 3 L).take k) 0 (by decide)
        have h12 := hE.has
        rcases (by omega : numErrs ((lstF 3 L).take k) 0 = 0 ∨ numErrs ((lstF 3 L).take k) 0 = 1 ∨ numErrs ((lstF 3 L).take k) 0 = 2) with h | h | h
        · exact .inl h
        · rw [h]; exact .inr h12.1
        · rw [h]; exact .inr h12.2
      rintro e w5 ⟨rfl, hw5⟩
      subst hw5
      have hst := numErrs_snoc ((lstF 3 L).take k) (L k).data.toList 0
      rw [← lstF_take_succ 3 L k hlt] at hst
      rw [← hst]
      clear hst
      go_wp2_with fail
      go_roundw
      case rel => exact ⟨k + 1, by omega, by go_num, rfl, hbs, hN5⟩
      case measure => simp [intOf]; omega
    · obtain rfl : k = 3 := by omega
      have hn0 := hN.c 0 (by decide)
      have hn1 := hN.c 1 (by decide)
      have hn2 := hN.c 2 (by decide)
      rw [lstF_take_all, HN.out]
      have hbA := bel_alloc wr (.cells #[.int .i64 (numAt L 3 0), .int .i64 (numAt L 3 1), .int .i64 (numAt L 3 2), .slice none 0 0] 154)
      have hpA := box4_alloc wr (.int .i64 (numAt L 3 0)) (.int .i64 (numAt L 3 1)) (.int .i64 (numAt L 3 2)) (.slice none 0 0) 154
      have hb3A : Bel w3.heap.size w3 _ := bel_step hbr hbA
      have hEA := hE2.below hb3A.b
      have hnew : w.heap.size < wr.heap.size := Nat.lt_of_lt_of_le (lt_of_cell hz2.c0) hbr.size
      have hrs : w3.heap.size ≤ wr.heap.size := hbr.size
      have hE3' := hE2
      clear hba hE2 hEr hN hHC hLs4 hbr
      cases has
      case' false =>
        have hPr : verPres s.data.toList = [] := HP.out
        have hce : numErrs (verWords s.data.toList) 0 = verErrs s.data.toList := by unfold verErrs; rw [hPr]; rfl
        rw [hce]
        have hS : StrsAt' (wr.alloc (.cells #[.int .i64 (numAt L 3 0), .int .i64 (numAt L 3 1), .int .i64 (numAt L 3 2), .slice none 0 0] 154)) (.slice none 0 0) (verPres s.data.toList) w.heap.size := by
          rw [hPr]; exact ⟨StrsAt.nil _, by intro q n c h; cases h⟩
        have hzf := hz2.below hb3A.b
        have hbF := bel_step hb02 hb3A
        have hpF := hpA
        clear hPr hce
        go_wp2_with fail
        go_loop [10, 71] (fun e i => e = errV A (verErrs s.data.toList) ∧ i = .int .i64 0) (fun _ _ => 0)
        case atStart => exact ⟨rfl, rfl⟩
        case' round =>
          obtain ⟨rfl, rfl⟩ := hrel
          generalize hwF : wr.alloc (.cells #[.int .i64 (numAt L 3 0), .int .i64 (numAt L 3 1), .int .i64 (numAt L 3 2), .slice none 0 0] 154) = wF at hS hzf hbF hpF ⊢
          generalize wr.heap.size = pb at hpF hnew hrs ⊢
          clear hpA hbA hb3A hEA hE3' HP
      case' true =>
        have hPr : verPres s.data.toList = split pr [46] := HP.out
        go_wp2_with fail
        generalize wr.alloc (.cells #[.int .i64 (numAt L 3 0), .int .i64 (numAt L 3 1), .int .i64 (numAt L 3 2), .slice none 0 0] 154) = wA at hbA hpA hb3A hEA ⊢
        have hrA : wr.heap.size < wA.heap.size := lt_of_cell hpA.c0
        refine (splitD_calls _ ⟨#[46]⟩ _ hEA.m (Nat.le_trans hp4 (by decide)) (by decide)).mono ?_
        rintro e wB ⟨n, rfl, hm1, hm2, HLp, hbB, hcB, hzB⟩
        have hLp := lstF_mem_le (by decide) HLp.out
        have hn9 : n ≤ 1000000001 := Nat.le_trans hm2 (Nat.succ_le_succ hp4)
        have hPn : Hid (lstF n (splitL ⟨pr.toArray⟩ ⟨#[46]⟩) = verPres s.data.toList) := Lib.hid (HLp.out.trans hPr.symm)
        rw [data_mk] at hLp
        have hpr : pr.length ≤ 4000000000 := Nat.le_trans hp4 (by decide)
        generalize splitL ⟨pr.toArray⟩ ⟨#[46]⟩ = P at hcB hPn hLp ⊢
        have hPs : ∀ j, j < n → (P j).size ≤ 4000000000 := fun j hj => Nat.le_trans (hLp j hj) hpr
        have hpB := hpA.below hbB.b
        have pb3 := hpB.c3
        have pf3 := hpB.fr 3
        have hpC := hpB.set3 (.slice (some ⟨wA.heap.size, 0, none⟩) n n)
        have hb3B := bel_step hb3A hbB
        have hb3C : Bel w3.heap.size w3 (wB.setCell ⟨wr.heap.size, 3, none⟩ (.slice (some ⟨wA.heap.size, 0, none⟩) n n)) := hb3B.setCell (by have := lt_of_cell hpA.c0; exact hrs) _
        have hcC : ∀ j, j < n → (wB.setCell ⟨wr.heap.size, 3, none⟩ (.slice (some ⟨wA.heap.size, 0, none⟩) n n)).cell? ⟨wA.heap.size, j, none⟩ = some (.string (P j)) := fun j hj => by
          rw [World.cell?_setCell_other _ _ _ _ (by intro e; injection e with e1 _ _; omega)]; exact hcB j hj
        have HC := Lib.hid hcC
        have hE3 := hE3'.below hb3C.b
        clear hm1 hm2 HLp hLp hpr HP hPr hcB hbB hbA hEA hcC hpA hpB hzB
        go_wp2_with fail
        clear pb3 pf3
        generalize wB.setCell ⟨wr.heap.size, 3, none⟩ (.slice (some ⟨wA.heap.size, 0, none⟩) n n) = wC at hb3C HC hE3 hpC ⊢
        generalize wr.heap.size = pb at hpC hrA hnew hrs ⊢
        go_loopw [10, 71] (fun e i wr' => ∃ k : Nat, k ≤ n ∧ i = .int .i64 k ∧ e = errV A (partErrs ((lstF n P).take k) (numErrs (verWords s.data.toList) 0)) ∧ Bel wC.heap.size wC wr') (fun _ i _ => n - (intOf i).toNat)
        case atStart => exact ⟨0, by omega, rfl, rfl, Bel.refl _ _⟩
        case' round =>
          obtain ⟨k, hk, rfl, rfl, hbl⟩ := hrel
          have hEl := hE3.below hbl.b
          by_cases hlt : k < n
          case' pos =>
            have hck := Below.cell_some hbl.b (HC.out k hlt)
            go_wp2_with fail
            refine (partD_calls ks A (P k) _ hEl (hPs k hlt) (HPS.out _ (by rw [← hPn.out]; exact List.mem_of_getElem? (lstF_get n P k hlt)))).mono ?_
            rintro e w4 ⟨rfl, hb4⟩
            have hb4C := bel_step hbl hb4
            have hE4 := hEl.below hb4.b
            go_wp2_with fail
            refine (worse_calls ks A (partErrs ((lstF n P).take k) (numErrs (verWords s.data.toList) 0)) (partErr (P k).data.toList) _ hE4 ?_).mono ?_
            · have := partErrs_le ((lstF n P).take k) _ (numErrs_le (verWords s.data.toList) 0 (by decide))
              have h12 := hE.has
              generalize partErrs ((lstF n P).take k) (numErrs (verWords s.data.toList) 0) = c at this
              rcases (by omega : c = 0 ∨ c = 1 ∨ c = 2) with h | h | h
              · exact .inl h
              · rw [h]; exact .inr h12.1
              · rw [h]; exact .inr h12.2
            rintro e w5 ⟨rfl, hw5⟩
            subst hw5
            have hst := partErrs_snoc ((lstF n P).take k) (P k).data.toList (numErrs (verWords s.data.toList) 0)
            rw [← lstF_take_succ n P k hlt] at hst
            rw [← hst]
            clear hst
            go_wp2_with fail
            go_roundw
            case rel => exact ⟨k + 1, by omega, by go_num, rfl, hb4C⟩
            case measure => simp [intOf]; omega
          case' neg =>
            obtain rfl : k = n := by omega
            rw [lstF_take_all, hPn.out]
            have hzf := (hz2.below hb3C.b).below hbl.b
            have hbF := bel_step (bel_step hb02 hb3C) hbl
            have hpF := hpC.below hbl.b
            have hw0 : w.heap.size < wA.heap.size := Nat.lt_trans hnew hrA
            have hS : StrsAt' wr (.slice (some ⟨wA.heap.size, 0, none⟩) k k) (verPres s.data.toList) w.heap.size := ⟨⟨_, k, k, P, rfl, hPn.out.symm, Nat.le_refl _, Nat.le_trans hn9 (by decide), fun j hj => ⟨_, 0, rfl, by rw [Nat.zero_add]; exact Below.cell_some hbl.b (HC.out j hj)⟩⟩, by intro q n' c' h; injection h with h _ _; injection h with h; subst h; exact Nat.ne_of_gt hw0⟩
            have hlen : (verPres s.data.toList).length = k := by rw [← hPn.out, lstF_length]
            have hev : verErrs s.data.toList = if 5 < k then worseN (partErrs (verPres s.data.toList) (numErrs (verWords s.data.toList) 0)) 2 else partErrs (verPres s.data.toList) (numErrs (verWords s.data.toList) 0) := by unfold verErrs; rw [hlen]
            have hlec := partErrs_le (verPres s.data.toList) _ (numErrs_le (verWords s.data.toList) 0 (by decide))
            have p3 := hpF.c3
            clear hPn hb3C HC hpC hE3 hE3' hPs
            by_cases hk5 : 5 < k
            case' neg =>
              rw [if_neg hk5] at hev
              rw [← hev]
              clear hev hlec hlen p3 hEl hbl
            case' pos =>
              rw [if_pos hk5] at hev
              have g2 := hEl.errs.var 2 hE.has.2
              simp only [errG] at g2
              have h12 := hE.has
              have HEV := Lib.hid hev
              clear hev hlen hbl
              go_wp2_with fail
              clear p3 g2
              rw [show (Value.iface 371 (.pointer (some (A 2)))) = errV A 2 from (errV_pos A (c := 2) (by decide)).symm]
              refine (worse_calls ks A (partErrs (verPres s.data.toList) (numErrs (verWords s.data.toList) 0)) 2 _ hEl ?_).mono ?_
              · rcases (by omega : partErrs (verPres s.data.toList) (numErrs (verWords s.data.toList) 0) = 0 ∨ partErrs (verPres s.data.toList) (numErrs (verWords s.data.toList) 0) = 1 ∨ partErrs (verPres s.data.toList) (numErrs (verWords s.data.toList) 0) = 2) with h | h | h
                · exact .inl h
                · rw [h]; exact .inr h12.1
                · rw [h]; exact .inr h12.2
              rintro e w5 ⟨rfl, hw5⟩
              subst hw5
              rw [← HEV.out]
              clear HEV h12 hlec hEl
      all_goals
        have hne : w.heap.size ≠ pb := Nat.ne_of_lt hnew
        have hne' : pb ≠ w.heap.size := hne.symm
        obtain ⟨p0, p1, p2, p3, pf⟩ := hpF
        obtain ⟨z0, z1, z2, z3, zf⟩ := hzf
        have zf0 := zf 0
        have zf1 := zf 1
        have zf2 := zf 2
        have zf3 := zf 3
        have hn3 := numAt_three L s.data.toList HN.out
        clear pf zf
        by_cases hc : verErrs s.data.toList = 0
        · have hv0 := HV.out.trans hc
          have e0 := hn3 hv0 0 (by decide)
          have e1 := hn3 hv0 1 (by decide)
          have e2 := hn3 hv0 2 (by decide)
          have hpre := verPre_ok hv0
          have hS2 := fun u => ((((hS.set 0 (.int .i64 (numAt L 3 0))).set 1 (.int .i64 (numAt L 3 1))).set 2 (.int .i64 (numAt L 3 2))).set 3 u).at_
          have HX := Lib.hid (And.intro hpre (And.intro e0 (And.intro e1 (And.intro e2 hv0))))
          rw [hc, errV_zero]
          clear hS hn3 e0 e1 e2 hpre hv0 hc HV
          go_wp2_with fail
          refine bodyPost_ret (v := .tuple #[.agg #[.int .i64 (numAt L 3 0), .int .i64 (numAt L 3 1), .int .i64 (numAt L 3 2), _], .nilIface]) (by simp [results, Tryz.results98, go_sem, *]; rfl) rfl ?_
          obtain ⟨hpre, e0, e1, e2, hv0⟩ := HX.out
          rw [hpre, ← e0, ← e1, ← e2, hv0]
          exact ⟨((((hbF.setCell (Nat.le_refl _) _).setCell (Nat.le_refl _) _).setCell (Nat.le_refl _) _).setCell (Nat.le_refl _) _), _, rfl, hS2 _⟩
        · have hv0 : verErr s.data.toList ≠ 0 := by rw [HV.out]; exact hc
          have HX := Lib.hid (And.intro hv0 HV.out)
          rw [errV_pos A hc]
          clear hS hn3 hv0 hc HV
          go_wp2_with fail
          refine bodyPost_ret (v := .tuple #[.agg #[.int .i64 0, .int .i64 0, .int .i64 0, .slice none 0 0], .iface 371 (.pointer (some (A (verErrs s.data.toList))))]) (by simp [results, Tryz.results98, go_sem, *]) rfl ?_
          rw [verNum_bad HX.out.1, verNum_bad HX.out.1, verNum_bad HX.out.1, verPre_bad HX.out.1, errV_pos A HX.out.1, HX.out.2]
          exact ⟨((((hbF.setCell (Nat.le_refl _) _).setCell (Nat.le_refl _) _).setCell (Nat.le_refl _) _).setCell (Nat.le_refl _) _), _, rfl, StrsAt.nil _⟩
end Go.Proofs.Pw
