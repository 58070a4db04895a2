/- St: walks and plain laws, joined: Mod ModPath. Conditions: at each theorem. -/
import Derived.Test.YtglhgbcebpeomaaGreatDoorStg
import Derived.Test.YtglhgbcebpeomaaGreatDoorSta
import Derived.Lib.AppendIntMem

namespace Go.Proofs.Pw
open Go.RowKit
open Go.Lib hiding intOf
theorem elemOk_of {s : Str} {b1 b2 b3 b4 : Bool} (h1 : s.isEmpty = b1) (h2 : s.all isElemByte = b2) (h3 : s.all (· == 46) = b3) (h4 : contains s dots = b4) : elemOk s = (!b1 && b2 && !b3 && !b4) := by
  unfold elemOk; rw [h1, h2, h3, h4]
set_option maxHeartbeats 400000 in
theorem elem_calls (ks : List Nat) (A : Nat → Addr) (s : ByteArray) (w : World) (hE : EnvP ks A w) (hs : s.size ≤ 4000000000) :
    Calls Tryz.prog 83 #[.string s] w fun e w' => e = .returned (.bool (elemOk s.data.toList)) ∧ Below w.heap.size w w' := by
  have HP := Lib.hid (trimS_nil_bool s.data.toList elemSet isElemByte elemSet_ok)
  have HQ := Lib.hid (trimS_nil_bool s.data.toList [46] (· == 46) dotSet_ok)
  by_cases he : s.data.toList = []
  · have hr : elemOk s.data.toList = false := by rw [he]; rfl
    have h1 : s.toList.isEmpty = true := by rw [isEmpty_toList, he]; rfl
    have h2 : s.toList = [] := by simpa using h1
    rw [hr]
    clear he hr
    go_enter Tryz.func83, Tryz.ntmps83
    go_wp2_with fail
    go_ret
    exact ⟨rfl, Below.refl _ _⟩
  · have h1 : s.toList.isEmpty = false := by rw [isEmpty_toList]; simpa using he
    have h2 : (s.toList == []) = false := by simpa using h1
    have h0 : s.data.toList.isEmpty = false := by simpa using he
    have H0 := Lib.hid h0
    clear he h0
    cases ha : s.data.toList.all isElemByte with
    | false =>
      rw [show elemOk s.data.toList = false from by rw [elemOk_of H0.out ha rfl rfl]; rfl]
      have e1 : (trimS s.data.toList elemSet == []) = false := by rw [HP.out, ha]
      clear ha
      go_enter Tryz.func83, Tryz.ntmps83
      go_wp2_with fail
      refine (trim_calls _ _ _ hs (by decide) (by decide)).mono ?_
      rintro e w1 ⟨rfl, hb1⟩
      rw [show (⟨#[97, 98, 99, 100, 101, 102, 103, 104, 105, 106, 107, 108, 109, 110, 111, 112, 113, 114, 115, 116, 117, 118, 119, 120, 121, 122, 48, 49, 50, 51, 52, 53, 54, 55, 56, 57, 46, 45, 95]⟩ : ByteArray).data.toList = elemSet from rfl]
      generalize trimS s.data.toList elemSet = t at e1 ⊢
      have e2 : (⟨t.toArray⟩ : ByteArray).toList.isEmpty = false := by rw [toList_mk]; simpa using e1
      have e3 : t.isEmpty = false := by simpa using e1
      clear e1
      go_wp2_with fail
      go_ret
      exact ⟨rfl, hb1⟩
    | true =>
      have e1 : trimS s.data.toList elemSet = [] := by
        have := HP.out
        rw [ha] at this
        exact beq_iff_eq.1 this
      have E1 := Lib.hid e1
      have HA := Lib.hid ha
      clear e1 ha
      cases hd : s.data.toList.all (· == 46) with
      | true =>
        rw [show elemOk s.data.toList = false from by rw [elemOk_of H0.out HA.out hd rfl]; rfl]
        have e1 : trimS s.data.toList [46] = [] := by
          have := HQ.out
          rw [hd] at this
          exact beq_iff_eq.1 this
        have E2 := Lib.hid e1
        clear e1 hd
        go_enter Tryz.func83, Tryz.ntmps83
        go_wp2_with fail
        refine (trim_calls _ _ _ hs (by decide) (by decide)).mono ?_
        rintro e w1 ⟨rfl, hb1⟩
        rw [show (⟨#[97, 98, 99, 100, 101, 102, 103, 104, 105, 106, 107, 108, 109, 110, 111, 112, 113, 114, 115, 116, 117, 118, 119, 120, 121, 122, 48, 49, 50, 51, 52, 53, 54, 55, 56, 57, 46, 45, 95]⟩ : ByteArray).data.toList = elemSet from rfl, E1.out]
        go_wp2_with fail
        refine (trim_calls _ _ _ hs (by decide) (by decide)).mono ?_
        rintro e w2 ⟨rfl, hb2⟩
        rw [show (⟨#[46]⟩ : ByteArray).data.toList = [46] from rfl, E2.out]
        go_wp2_with fail
        go_ret
        exact ⟨rfl, below_step hb1 hb2⟩
      | false =>
        generalize hc : contains s.data.toList dots = c
        rw [show elemOk s.data.toList = !c from by rw [elemOk_of H0.out HA.out hd hc]; simp]
        have HC := Lib.hid hc
        have e1 : (trimS s.data.toList [46] == []) = false := by rw [HQ.out, hd]
        clear hd hc
        go_enter Tryz.func83, Tryz.ntmps83
        go_wp2_with fail
        refine (trim_calls _ _ _ hs (by decide) (by decide)).mono ?_
        rintro e w1 ⟨rfl, hb1⟩
        rw [show (⟨#[97, 98, 99, 100, 101, 102, 103, 104, 105, 106, 107, 108, 109, 110, 111, 112, 113, 114, 115, 116, 117, 118, 119, 120, 121, 122, 48, 49, 50, 51, 52, 53, 54, 55, 56, 57, 46, 45, 95]⟩ : ByteArray).data.toList = elemSet from rfl, E1.out]
        go_wp2_with fail
        refine (trim_calls _ _ _ hs (by decide) (by decide)).mono ?_
        rintro e w2 ⟨rfl, hb2⟩
        have hb12 := below_step hb1 hb2
        rw [show (⟨#[46]⟩ : ByteArray).data.toList = [46] from rfl]
        generalize trimS s.data.toList [46] = t at e1 ⊢
        have e2 : (⟨t.toArray⟩ : ByteArray).toList.isEmpty = false := by rw [toList_mk]; simpa using e1
        have e3 : t.isEmpty = false := by simpa using e1
        clear e1
        go_wp2_with fail
        refine (contains_calls _ _ _ (hE.below hb12).m hs).mono ?_
        rintro e w3 ⟨rfl, rfl⟩
        rw [show (⟨#[46, 46, 46]⟩ : ByteArray).data.toList = dots from rfl, HC.out]
        go_wp2_with fail
        go_ret
        exact ⟨rfl, hb12⟩
theorem itoa_calls (ks : List Nat) (A : Nat → Addr) (n : Nat) (w : World) (hE : EnvP ks A w) (hn : n ≤ 9223372036854775807) :
    Calls Tryz.prog 136 #[.int .i64 n] w fun e w' => e = .returned (.string ⟨(Lib.itoa n).toArray⟩) ∧ Below w.heap.size w w' :=
  (Tryz.strconv_Itoa n (by omega) (by omega) w hE.pow10).mono fun e w' ⟨h, k, os, h2⟩ => ⟨h, by subst h2; exact below_grow _ _ (Nat.le_refl _) _ _⟩
theorem suf_no {s : Str} (h : looksSuf s = false) : isSuf s = false ∧ sufWell s = true := by
  have h1 : isSuf s = false := by unfold isSuf; rw [h]; rfl
  exact ⟨h1, by unfold sufWell; rw [h]; rfl⟩
theorem suf_digits {s : Str} (h : looksSuf s = true) : sufWell s = isSuf s := by unfold sufWell; rw [h]; rfl
theorem suffix_no (ks : List Nat) (A : Nat → Addr) (s : ByteArray) (w : World) (_hE : EnvP ks A w) (hs : s.size ≤ 4000000000) (hl : looksSuf s.data.toList = false) :
    Calls Tryz.prog 80 #[.string s] w fun e w' => e = .returned (.tuple #[.int .i64 0, .bool false, .bool true]) ∧ Below w.heap.size w w' := by
  have ht : (trimPrefix s.data.toList [118]).length ≤ s.size := by rw [size_eq s]; exact trimPrefix_le _ _
  cases hp : hasPrefix s.data.toList [118] with
  | false =>
    go_enter Tryz.func80, Tryz.ntmps80
    go_wp2_with fail
    refine (cutPrefix_calls _ _ _).mono ?_
    rintro e w1 ⟨rfl, rfl⟩
    rw [show (⟨#[118]⟩ : ByteArray).data.toList = [118] from rfl, hp]
    clear hp hl
    go_wp2_with fail
    all_goals go_ret3
    all_goals exact ⟨rfl, Below.refl _ _⟩
  | true =>
    have hd : areDigits (trimPrefix s.data.toList [118]) = false := by
      have := hl
      unfold looksSuf sufD at this
      rw [hp] at this
      exact this
    have HP := Lib.hid hp
    have HQ := Lib.hid (trimS_nil_bool (trimPrefix s.data.toList [118]) digitsSet isDig digitsSet_ok)
    clear hp hl
    go_enter Tryz.func80, Tryz.ntmps80
    go_wp2_with fail
    refine (cutPrefix_calls _ _ _).mono ?_
    rintro e w1 ⟨rfl, rfl⟩
    rw [show (⟨#[118]⟩ : ByteArray).data.toList = [118] from rfl, HP.out]
    by_cases h0 : trimPrefix s.data.toList [118] = []
    · rw [h0]
      clear hd HQ h0
      go_wp2_with fail
      all_goals go_ret3
      all_goals exact ⟨rfl, Below.refl _ _⟩
    · have hne : (⟨(trimPrefix s.data.toList [118]).toArray⟩ : ByteArray).toList.isEmpty = false := by rw [toList_mk]; simpa using h0
      have hne2 : (trimPrefix s.data.toList [118]).isEmpty = false := by simpa using h0
      have hne3 : ((trimPrefix s.data.toList [118]) == []) = false := by simpa using h0
      have e1 : (trimS (trimPrefix s.data.toList [118]) digitsSet == []) = false := by
        rw [HQ.out]
        unfold areDigits at hd
        rw [hne2] at hd
        simpa using hd
      have ht4 : (⟨(trimPrefix s.data.toList [118]).toArray⟩ : ByteArray).size ≤ 4000000000 := Nat.le_trans ht hs
      generalize trimPrefix s.data.toList [118] = D at e1 hne hne2 hne3 ht4 ⊢
      clear hd HQ h0 ht
      go_wp2_with fail
      refine (trim_calls _ _ _ ht4 (by decide) (by decide)).mono ?_
      rintro e w2 ⟨rfl, hb2⟩
      rw [show (⟨#[48, 49, 50, 51, 52, 53, 54, 55, 56, 57]⟩ : ByteArray).data.toList = digitsSet from rfl, data_mk]
      generalize trimS D digitsSet = t at e1 ⊢
      have e2 : (⟨t.toArray⟩ : ByteArray).toList.isEmpty = false := by rw [toList_mk]; simpa using e1
      have e3 : t.isEmpty = false := by simpa using e1
      clear e1
      go_wp2_with fail
      go_ret3
      exact ⟨rfl, hb2⟩
theorem suffix_dig (ks : List Nat) (A : Nat → Addr) (s : ByteArray) (w : World) (hE : EnvP ks A w) (hs : s.size ≤ 4000000000) (hl : looksSuf s.data.toList = true) :
    Calls Tryz.prog 80 #[.string s] w fun e w' => (∃ n : Int, e = .returned (.tuple #[.int .i64 n, .bool (isSuf s.data.toList), .bool (isSuf s.data.toList)]) ∧ (isSuf s.data.toList = true → n = (sufNum s.data.toList : Nat))) ∧ Below w.heap.size w w' := by
  have ht : (trimPrefix s.data.toList [118]).length ≤ s.size := by rw [size_eq s]; exact trimPrefix_le _ _
  have hl2 : hasPrefix s.data.toList [118] = true ∧ areDigits (trimPrefix s.data.toList [118]) = true := by
    unfold looksSuf sufD at hl
    simpa using hl
  have his : isSuf s.data.toList = decide ((numberOf (trimPrefix s.data.toList [118])).2 = 0 ∧ 2 ≤ (numberOf (trimPrefix s.data.toList [118])).1) := by unfold isSuf; rw [hl]; rfl
  have hnu : sufNum s.data.toList = (numberOf (trimPrefix s.data.toList [118])).1 := rfl
  obtain ⟨hp, hd⟩ := hl2
  have HP := Lib.hid hp
  have ht4 : (⟨(trimPrefix s.data.toList [118]).toArray⟩ : ByteArray).size ≤ 4000000000 := Nat.le_trans ht hs
  generalize isSuf s.data.toList = R at his ⊢
  generalize sufNum s.data.toList = N at hnu ⊢
  generalize hD : trimPrefix s.data.toList [118] = D at hd ht4 his hnu
  have HR := Lib.hid his
  have HN := Lib.hid hnu
  have HDD := Lib.hid hD
  clear hp hl his hnu hD
  go_enter Tryz.func80, Tryz.ntmps80
  go_wp2_with fail
  refine (cutPrefix_calls _ _ _).mono ?_
  rintro e w1 ⟨rfl, rfl⟩
  rw [show (⟨#[118]⟩ : ByteArray).data.toList = [118] from rfl, HP.out, HDD.out]
  clear ht
  have h0 : D ≠ [] := by intro e; rw [e] at hd; exact absurd hd (by decide)
  have hne : (⟨D.toArray⟩ : ByteArray).toList.isEmpty = false := by rw [toList_mk]; simpa using h0
  have hne2 : D.isEmpty = false := by simpa using h0
  have hne3 : (D == []) = false := by simpa using h0
  have e1 : trimS D digitsSet = [] := by
    have := trimS_nil_bool D digitsSet isDig digitsSet_ok
    have hd2 := hd
    unfold areDigits at hd2
    rw [hne2] at hd2
    rw [show D.all isDig = true by simpa using hd2] at this
    exact beq_iff_eq.1 this
  have E1 := Lib.hid e1
  have HD := Lib.hid hd
  clear e1 hd h0
  go_wp2_with fail
  refine (trim_calls _ _ _ ht4 (by decide) (by decide)).mono ?_
  rintro e w2 ⟨rfl, hb2⟩
  rw [show (⟨#[48, 49, 50, 51, 52, 53, 54, 55, 56, 57]⟩ : ByteArray).data.toList = digitsSet from rfl, data_mk, E1.out]
  have hE2 := hE.below hb2
  go_wp2_with fail
  refine (atoi_calls ks A _ _ hE2 ht4 HD.out).mono ?_
  rintro e w3 ⟨hr, hb3⟩
  have hb23 := below_step hb2 hb3
  have hE3 := hE.below hb23
  rcases hr with ⟨x, te, pe, rfl, h7⟩ | rfl
  · have hf : ¬ ((numberOf D).2 = 0 ∧ 2 ≤ (numberOf D).1) := by
      rintro ⟨h, _⟩
      by_cases hz : areDigits D = false ∨ (1 < D.length ∧ D.head? = some 48)
      · rw [numberOf_text hz] at h; exact absurd h (by decide)
      · rw [numberOf_long hz h7] at h; exact absurd h (by decide)
    have HF := Lib.hid hf
    clear hf h7 hE3 hE2 hne hne2 hne3 ht4
    go_wp2_with fail
    go_ret3
    have hR : R = false := by rw [HR.out, decide_eq_false HF.out]
    rw [hR]
    exact ⟨⟨x, rfl, fun h => absurd h (by decide)⟩, hb23⟩
  · rw [data_mk]
    have hsm := decVal_small HD.out
    have hit := itoa_decVal HD.out
    have hnum : (1 < D.length ∧ D.head? = some 48) ∨ (¬ (1 < D.length ∧ D.head? = some 48)) := Decidable.em _
    have hv63 : decVal D ≤ 999999 ∨ 999999 < decVal D := Nat.lt_or_ge 999999 (decVal D) |>.symm
    generalize hv : decVal D = v at hsm hit hv63 ⊢
    have HV := Lib.hid hv
    clear hv
    by_cases h2 : v < 2
    · have HF : Hid (R = false) := by
        refine Lib.hid ?_
        rw [HR.out]
        apply decide_eq_false
        rintro ⟨h, h3⟩
        by_cases hz : areDigits D = false ∨ (1 < D.length ∧ D.head? = some 48)
        · rw [numberOf_text hz] at h; exact absurd h (by decide)
        · by_cases hl6 : 6 < D.length
          · rw [numberOf_long hz hl6] at h; exact absurd h (by decide)
          · rw [numberOf_ok hz hl6, HV.out] at h3; simp only at h3; omega
      clear hE3 hE2 hne hne2 hne3 ht4 hsm hit hnum hv63
      go_wp2_with fail
      go_ret3
      rw [HF.out]
      exact ⟨⟨_, rfl, fun h => absurd h (by decide)⟩, hb23⟩
    · rcases hv63 with hle | hgt
      · have hita := itoa_calls ks A v w3 hE3 (by omega)
        by_cases heq : itoa ((v : Nat) : Int) = D
        · have hz := hit.1 heq
          have hl6 := (hsm hz).1 hle
          have HF : Hid (R = true ∧ N = v) := by
            have hzz : ¬ (areDigits D = false ∨ (1 < D.length ∧ D.head? = some 48)) := by
              rintro (h | h)
              · rw [HD.out] at h; exact absurd h (by decide)
              · exact hz h
            have e := numberOf_ok hzz (Nat.not_lt.2 hl6)
            rw [HV.out] at e
            refine Lib.hid ⟨?_, ?_⟩
            · rw [HR.out, e]
              simp only
              rw [decide_eq_true]
              exact ⟨trivial, by omega⟩
            · rw [HN.out, e]
          have HQ := Lib.hid heq
          clear hE3 hE2 hne hne2 hne3 ht4 hsm hit hnum hz hl6 heq
          go_wp2_with fail
          refine hita.mono ?_
          rintro e w4 ⟨rfl, hb4⟩
          rw [HQ.out]
          have hb24 := below_step hb23 hb4
          clear hita
          go_wp2_with fail
          go_ret3
          rw [HF.out.1, HF.out.2]
          exact ⟨⟨_, rfl, fun _ => rfl⟩, hb24⟩
        · have hz : 1 < D.length ∧ D.head? = some 48 := Decidable.of_not_not fun h => heq (hit.2 h)
          have HF : Hid (R = false) := by
            refine Lib.hid ?_
            rw [HR.out]
            apply decide_eq_false
            rintro ⟨h, h3⟩
            rw [numberOf_text (.inr hz)] at h
            exact absurd h (by decide)
          generalize itoa ((v : Nat) : Int) = t at heq hita
          have hq1 : (t == D) = false := beq_eq_false_iff_ne.2 heq
          have hq2 : (⟨t.toArray⟩ : ByteArray) ≠ ⟨D.toArray⟩ := by
            intro e; injection e with e; exact heq (by simpa using congrArg Array.toList e)
          have hq4 : ((⟨t.toArray⟩ : ByteArray).toList == (⟨D.toArray⟩ : ByteArray).toList) = false := by rw [toList_mk, toList_mk]; exact hq1
          clear hE3 hE2 hne hne2 hne3 ht4 hsm hit hnum hz
          go_wp2_with fail
          refine hita.mono ?_
          rintro e w4 ⟨rfl, hb4⟩
          have hb24 := below_step hb23 hb4
          clear hita
          go_wp2_with fail
          go_ret3
          rw [HF.out]
          exact ⟨⟨_, rfl, fun h => absurd h (by decide)⟩, hb24⟩
      · have HF : Hid (R = false) := by
          refine Lib.hid ?_
          rw [HR.out]
          apply decide_eq_false
          rintro ⟨h, h3⟩
          by_cases hz : areDigits D = false ∨ (1 < D.length ∧ D.head? = some 48)
          · rw [numberOf_text hz] at h; exact absurd h (by decide)
          · by_cases hl6 : 6 < D.length
            · rw [numberOf_long hz hl6] at h; exact absurd h (by decide)
            · have := (hsm (fun e => hz (.inr e))).2 (by omega)
              omega
        clear hE3 hE2 hne hne2 hne3 ht4 hsm hit hnum
        go_wp2_with fail
        go_ret3
        rw [HF.out]
        exact ⟨⟨_, rfl, fun h => absurd h (by decide)⟩, hb23⟩
end Go.Proofs.Pw

namespace Go.Proofs.Pw
open Go.RowKit
open Go.Lib hiding intOf
def Tests (g : Nat) (lb : Array Value) (p : Str → Bool) (n : Nat) (L : Nat → ByteArray) (w : World) : Prop :=
  ∀ w', Below w.heap.size w w' → ∀ j, j < n → Calls Tryz.prog g (#[.string (L j)] ++ lb) w' fun e w'' => e = .returned (.bool (p (L j).data.toList)) ∧ Below w'.heap.size w' w''
theorem any_lstF (p : Str → Bool) (L : Nat → ByteArray) : ∀ n, (lstF n L).any p = true ↔ ∃ j, j < n ∧ p (L j).data.toList = true := fun n => by
  simp [lstF]
set_option maxHeartbeats 400000 in
theorem indexFunc_calls (g : Nat) (lb : Array Value) (eg : ∀ args w, (callFunc g args).run Tryz.prog w = .ok (.enter g args) w) (p : Str → Bool) (b o n cap : Nat) (L : Nat → ByteArray) (w : World) (hn : n ≤ 4000000001)
    (hc : ∀ j, j < n → w.cell? ⟨b, o + j, none⟩ = some (.string (L j))) (hT : Tests g lb p n L w) :
    Calls Tryz.prog 146 #[.slice (some ⟨b, o, none⟩) n cap, .func (.func g) #[] lb] w fun e w' => (∃ i : Int, e = .returned (.int .i64 i) ∧ (0 ≤ i ↔ (lstF n L).any p = true)) ∧ Below w.heap.size w w' := by
  have HC := Lib.hid hc
  have HT := Lib.hid hT
  clear hc hT
  go_enter Tryz.func146, Tryz.ntmps146
  go_wp2_with fail
  go_loopw [8] (fun i wr => ∃ k : Nat, k ≤ n ∧ i = .int .i64 k ∧ Below w.heap.size w wr ∧ Hid (∀ j, j < k → p (L j).data.toList = false)) (fun i _ => n - (intOf i).toNat)
  case atStart => exact ⟨0, by omega, rfl, Below.refl _ _, Lib.hid (fun j hj => absurd hj (Nat.not_lt_zero _))⟩
  case round =>
    obtain ⟨k, hk, rfl, hb, HA⟩ := hrel
    by_cases hlt : k < n
    · have hck := Below.cell_some hb (HC.out k hlt)
      have hcall := HT.out wr hb k hlt
      have HL := Lib.hid (rfl : L k = L k)
      cases hq : p (L k).data.toList with
      | true =>
        rw [hq] at hcall
        have HQ := Lib.hid hq
        clear hq
        go_wp2_with (go_at_fn g; refine hcall.mono ?_; rintro e w' ⟨rfl, hb2⟩)
        go_ret
        exact ⟨⟨_, rfl, iff_of_true (by omega) ((any_lstF p L n).2 ⟨k, hlt, HQ.out⟩)⟩, below_step hb hb2⟩
      | false =>
        rw [hq] at hcall
        have HQ := Lib.hid hq
        clear hq
        go_wp2_with (go_at_fn g; refine hcall.mono ?_; rintro e w' ⟨rfl, hb2⟩)
        go_roundw
        case rel =>
          refine ⟨k + 1, by omega, by go_num, below_step hb hb2, Lib.hid (fun j hj => ?_)⟩
          by_cases e : j = k
          · subst e; exact HQ.out
          · exact HA.out j (by omega)
        case measure => simp [intOf]; omega
    · obtain rfl : k = n := by omega
      go_wp2_with fail
      go_ret
      refine ⟨⟨_, rfl, iff_of_false (by decide) ?_⟩, hb⟩
      intro h
      obtain ⟨j, hj, h2⟩ := (any_lstF p L k).1 h
      rw [HA.out j hj] at h2
      cases h2
theorem containsFunc_calls (g : Nat) (lb : Array Value) (eg : ∀ args w, (callFunc g args).run Tryz.prog w = .ok (.enter g args) w) (p : Str → Bool) (b o n cap : Nat) (L : Nat → ByteArray) (w : World) (hn : n ≤ 4000000001)
    (hc : ∀ j, j < n → w.cell? ⟨b, o + j, none⟩ = some (.string (L j))) (hT : Tests g lb p n L w) :
    Calls Tryz.prog 81 #[.slice (some ⟨b, o, none⟩) n cap, .func (.func g) #[] lb] w fun e w' => e = .returned (.bool ((lstF n L).any p)) ∧ Below w.heap.size w w' := by
  have H := indexFunc_calls g lb eg p b o n cap L w hn hc hT
  clear hc hT
  go_enter Tryz.func81, Tryz.ntmps81
  go_wp2_with fail
  refine H.mono ?_
  rintro e w1 ⟨⟨i, rfl, hi⟩, hb⟩
  cases ha : (lstF n L).any p with
  | true =>
    have h0 : 0 ≤ i := hi.2 ha
    have HA := Lib.hid ha
    clear hi ha H
    go_wp2_with fail
    go_ret
    rw [HA.out]
    exact ⟨rfl, hb⟩
  | false =>
    have h0 : ¬ 0 ≤ i := fun h => by rw [hi.1 h] at ha; cases ha
    have HA := Lib.hid ha
    clear hi ha H
    go_wp2_with fail
    go_ret
    rw [HA.out]
    exact ⟨congrArg (fun b => Ending.returned (Value.bool b)) (decide_eq_false (by omega)), hb⟩
theorem enters_path1 : ∀ args w, (callFunc 82 args).run Tryz.prog w = .ok (.enter 82 args) w := Go.Proofs.enters_of Tryz.func82 (by kernel_rfl) rfl
theorem enters_path2 : ∀ args w, (callFunc 84 args).run Tryz.prog w = .ok (.enter 84 args) w := Go.Proofs.enters_of Tryz.func84 (by kernel_rfl) rfl
theorem tests_path1 (ks : List Nat) (A : Nat → Addr) (n : Nat) (L : Nat → ByteArray) (w : World) (hE : EnvP ks A w) (hL : ∀ j, j < n → (L j).size ≤ 4000000000) : Tests 82 #[] (fun s => !elemOk s) n L w := by
  intro w' hb j hj
  have hE' := hE.below hb
  have hLj := hL j hj
  clear hL hE hb
  generalize L j = s at hLj ⊢
  show Calls Tryz.prog _ #[.string s] w' fun e w'' => e = .returned (.bool (!elemOk s.data.toList)) ∧ Below w'.heap.size w' w''
  go_enter Tryz.func82, Tryz.ntmps82
  go_wp2_with fail
  refine (elem_calls ks A s w' hE' hLj).mono ?_
  rintro e w1 ⟨rfl, hb1⟩
  go_wp2_with fail
  go_ret
  exact ⟨rfl, hb1⟩
theorem tests_path2 (n : Nat) (L : Nat → ByteArray) (w : World) : Tests 84 #[] (fun s => decide (10 < s.length)) n L w := by
  intro w' hb j hj
  have hsz := size_eq (L j)
  clear hb
  generalize L j = s at hsz ⊢
  show Calls Tryz.prog _ #[.string s] w' fun e w'' => e = .returned (.bool (decide (10 < s.data.toList.length))) ∧ Below w'.heap.size w' w''
  rw [← hsz]
  clear hsz
  by_cases h : 10 < s.size
  · rw [decide_eq_true h]
    go_enter Tryz.func84, Tryz.ntmps84
    go_wp2_with fail
    go_ret
    exact ⟨congrArg (fun b => Ending.returned (Value.bool b)) (decide_eq_true (by omega)), Below.refl _ _⟩
  · rw [decide_eq_false h]
    go_enter Tryz.func84, Tryz.ntmps84
    go_wp2_with fail
    go_ret
    exact ⟨congrArg (fun b => Ending.returned (Value.bool b)) (decide_eq_false (by omega)), Below.refl _ _⟩
theorem getLast_lstF (n : Nat) (L : Nat → ByteArray) (h : 1 ≤ n) : (lstF n L).getLast?.getD [] = (L (n - 1)).data.toList := by
  rw [List.getLast?_eq_getElem?, lstF_length, lstF_get n L (n - 1) (by omega)]
  rfl
theorem suffixWell_calls (ks : List Nat) (A : Nat → Addr) (s : ByteArray) (w : World) (hE : EnvP ks A w) (hs : s.size ≤ 4000000000) :
    Calls Tryz.prog 80 #[.string s] w fun e w' => (∃ n : Int, e = .returned (.tuple #[.int .i64 n, .bool (isSuf s.data.toList), .bool (sufWell s.data.toList)]) ∧ (isSuf s.data.toList = true → n = (sufNum s.data.toList : Nat))) ∧ Below w.heap.size w w' := by
  cases hl : looksSuf s.data.toList with
  | false =>
    rw [(suf_no hl).1, (suf_no hl).2]
    exact (suffix_no ks A s w hE hs hl).mono fun e w' ⟨h, hb⟩ => ⟨⟨0, h, fun h => absurd h (by decide)⟩, hb⟩
  | true =>
    rw [suf_digits hl]
    exact suffix_dig ks A s w hE hs hl
set_option maxHeartbeats 1000000 in
theorem path_calls (ks : List Nat) (A : Nat → Addr) (h4 : 4 ∈ ks) (s : ByteArray) (w : World) (hE : EnvP ks A w) (hs : s.size ≤ 1000000000) :
    Calls Tryz.prog 30 #[.string s] w fun e w' => e = .returned (errV A (pathErr s.data.toList)) ∧ Below w.heap.size w w' := by
  have hpe : pathErr s.data.toList = (let l := split s.data.toList [47]; if l.any (fun w => !elemOk w) then 1 else if 5 < l.length ∨ l.any (fun w => decide (10 < w.length)) then 2 else if 1 < l.length ∧ sufWell (l.getLast?.getD []) = false then 4 else 0) := rfl
  generalize pathErr s.data.toList = R at hpe ⊢
  have HR := Lib.hid hpe
  clear hpe
  go_enter Tryz.func30, Tryz.ntmps30
  go_wp2_with fail
  refine (split_calls _ ⟨#[47]⟩ _ hE.m (Nat.le_trans hs (by decide)) (by decide)).mono ?_
  rintro e w1 ⟨n, rfl, hn1, hn2, HL, hb1, hc1, hz1⟩
  have hLs := lstF_mem_le (by decide) HL.out
  have hE1 := hE.below hb1
  have hn9 : n ≤ 1000000001 := Nat.le_trans hn2 (Nat.succ_le_succ hs)
  have hLs4 : ∀ j, j < n → (splitL s ⟨#[47]⟩ j).size ≤ 4000000000 := fun j hj => Nat.le_trans (hLs j hj) (by rw [← size_eq]; omega)
  have HR2 : Hid (R = if (lstF n (splitL s ⟨#[47]⟩)).any (fun w => !elemOk w) then 1 else if 5 < n ∨ (lstF n (splitL s ⟨#[47]⟩)).any (fun w => decide (10 < w.length)) then 2 else if 1 < n ∧ sufWell (splitL s ⟨#[47]⟩ (n - 1)).data.toList = false then 4 else 0) := by
    refine Lib.hid ?_
    rw [HR.out]
    show (let l := split s.data.toList (⟨#[47]⟩ : ByteArray).data.toList; _) = _
    rw [← HL.out]
    simp only
    rw [lstF_length, getLast_lstF n _ hn1]
  generalize splitL s ⟨#[47]⟩ = L at hc1 hLs4 HR2 ⊢
  have HC := Lib.hid hc1
  clear HR HL hLs hn2 hc1
  obtain ⟨m, rfl⟩ : ∃ m, n = m + 1 := ⟨n - 1, by omega⟩
  rw [Nat.add_sub_cancel] at HR2
  have hck := HC.out m (by omega)
  have hLm := hLs4 m (by omega)
  have T1 := containsFunc_calls 82 #[] enters_path1 (fun s => !elemOk s) w.heap.size 0 (m + 1) (m + 1) L
  have T2 := containsFunc_calls 84 #[] enters_path2 (fun s => decide (10 < s.length)) w.heap.size 0 (m + 1) (m + 1) L
  have HT1 := Lib.hid T1
  have HT2 := Lib.hid T2
  clear T1 T2
  go_wp2_with fail
  refine (suffixWell_calls ks A (L m) _ hE1 hLm).mono ?_
  rintro e w2 ⟨⟨q, rfl, _⟩, hb2⟩
  have hE2 := hE1.below hb2
  have hb12 := below_step hb1 hb2
  clear hck
  go_wp2_with fail
  have hC2 : ∀ j, j < m + 1 → w2.cell? ⟨w.heap.size, 0 + j, none⟩ = some (.string (L j)) := fun j hj => by rw [Nat.zero_add]; exact Below.cell_some hb2 (HC.out j hj)
  refine (HT1.out w2 (by omega) hC2 (tests_path1 ks A _ L w2 hE2 hLs4)).mono ?_
  rintro e w3 ⟨rfl, hb3⟩
  have hb13 := below_step hb12 hb3
  have hE3 := hE2.below hb3
  have g1 := hE3.errs.var 1 hE.has.1
  have g2 := hE3.errs.var 2 hE.has.2
  simp only [errG] at g1 g2
  clear HT1 hb1 hE1 hE2
  cases ha1 : (lstF (m + 1) L).any (fun w => !elemOk w) with
  | true =>
    have HF : Hid (R = 1) := Lib.hid (by rw [HR2.out, if_pos ha1])
    clear ha1 hC2 g2
    go_wp2_with fail
    go_ret
    rw [HF.out]
    exact ⟨rfl, hb13⟩
  | false =>
    have HA1 := Lib.hid ha1
    clear ha1
    by_cases h5 : 5 < m + 1
    · have HF : Hid (R = 2) := Lib.hid (by rw [HR2.out, if_neg (by rw [HA1.out]; decide), if_pos (.inl h5)])
      clear hC2 g1
      go_wp2_with fail
      go_ret
      rw [HF.out]
      exact ⟨rfl, hb13⟩
    · have hC3 : ∀ j, j < m + 1 → w3.cell? ⟨w.heap.size, 0 + j, none⟩ = some (.string (L j)) := fun j hj => Below.cell_some hb3 (hC2 j hj)
      have T3 := HT2.out w3 (by omega) hC3 (tests_path2 _ L w3)
      have HT3 := Lib.hid T3
      clear T3 hC2 hC3 HT2 g1 g2
      go_wp2_with fail
      refine HT3.out.mono ?_
      rintro e w4 ⟨rfl, hb4⟩
      have hb14 := below_step hb13 hb4
      have hE4 := hE3.below hb4
      have g2 := hE4.errs.var 2 hE.has.2
      have g4 := hE4.errs.var 4 h4
      simp only [errG] at g2 g4
      clear HT3
      cases ha2 : (lstF (m + 1) L).any (fun w => decide (10 < w.length)) with
      | true =>
        have HF : Hid (R = 2) := Lib.hid (by rw [HR2.out, if_neg (by rw [HA1.out]; decide), if_pos (.inr ha2)])
        clear ha2 g4
        go_wp2_with fail
        go_ret
        rw [HF.out]
        exact ⟨rfl, hb14⟩
      | false =>
        have HA2 := Lib.hid ha2
        clear ha2 g2
        by_cases h1 : 1 < m + 1
        · cases hw : sufWell (L m).data.toList with
          | true =>
            have HF : Hid (R = 0) := Lib.hid (by rw [HR2.out, if_neg (by rw [HA1.out]; decide), if_neg (by rintro (h | h); exact h5 h; rw [HA2.out] at h; cases h), if_neg (by rintro ⟨_, h⟩; rw [hw] at h; cases h)])
            clear hw g4
            go_wp2_with fail
            go_ret
            rw [HF.out]
            exact ⟨rfl, hb14⟩
          | false =>
            have HF : Hid (R = 4) := Lib.hid (by rw [HR2.out, if_neg (by rw [HA1.out]; decide), if_neg (by rintro (h | h); exact h5 h; rw [HA2.out] at h; cases h), if_pos ⟨h1, hw⟩])
            clear hw
            go_wp2_with fail
            go_ret
            rw [HF.out]
            exact ⟨rfl, hb14⟩
        · have HF : Hid (R = 0) := Lib.hid (by rw [HR2.out, if_neg (by rw [HA1.out]; decide), if_neg (by rintro (h | h); exact h5 h; rw [HA2.out] at h; cases h), if_neg (fun h => h1 h.1)])
          clear g4
          go_wp2_with fail
          go_ret
          rw [HF.out]
          exact ⟨rfl, hb14⟩
end Go.Proofs.Pw
