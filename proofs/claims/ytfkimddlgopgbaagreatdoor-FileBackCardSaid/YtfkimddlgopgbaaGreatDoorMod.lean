/- The walks of package mod, part 1: elem, suffix. -/
import Derived.Test.YtfkimddlgopgbaaGreatDoorVer3
import Derived.Test.YtfkimddlgopgbaaGreatDoorModMath
import Derived.Lib.AppendIntMem
namespace Go.Proofs.Pw
open Go.RowKit
open Go.Lib hiding intOf

theorem elemOk_of {s : Str} {b1 b2 b3 b4 : Bool} (h1 : s.isEmpty = b1) (h2 : s.all isElemByte = b2) (h3 : s.all (· == 46) = b3) (h4 : contains s dots = b4) : elemOk s = (!b1 && b2 && !b3 && !b4) := by
  unfold elemOk; rw [h1, h2, h3, h4]

set_option maxHeartbeats 400000 in
/-- mod.elem -/
theorem elem_calls (ks : List Nat) (A : Nat → Addr) (s : ByteArray) (w : World) (hE : EnvP ks A w) (hs : s.size ≤ 4000000000) :
    Calls Tryz.prog 80 #[.string s] w fun e w' => e = .returned (.bool (elemOk s.data.toList)) ∧ Below w.heap.size w w' := by
  have HP := Lib.hid (trimS_nil_bool s.data.toList elemSet isElemByte elemSet_ok)
  have HQ := Lib.hid (trimS_nil_bool s.data.toList [46] (· == 46) dotSet_ok)
  by_cases he : s.data.toList = []
  · have hr : elemOk s.data.toList = false := by rw [he]; rfl
    have h1 : s.toList.isEmpty = true := by rw [isEmpty_toList, he]; rfl
    have h2 : s.toList = [] := by simpa using h1
    rw [hr]
    clear he hr
    go_enter Tryz.func80, Tryz.ntmps80
    go_wp2_with fail
    go_ret
    exact ⟨rfl, Below.refl _ _⟩
  · have h1 : s.toList.isEmpty = false := by rw [isEmpty_toList]; simpa using he
    have h2 : (s.toList == []) = false := by simpa using h1
    have h0 : s.data.toList.isEmpty = false := by simpa using he
    have H0 := Lib.hid h0
    clear he h0
    cases ha : s.data.toList.all isElemByte with
    | false =>
      rw [show elemOk s.data.toList = false from by rw [elemOk_of H0.out ha rfl rfl]; rfl]
      have e1 : (trimS s.data.toList elemSet == []) = false := by rw [HP.out, ha]
      clear ha
      go_enter Tryz.func80, Tryz.ntmps80
      go_wp2_with fail
      refine (trim_calls _ _ _ hs (by decide) (by decide)).mono ?_
      rintro e w1 ⟨rfl, hb1⟩
      rw [show (⟨#[97, 98, 99, 100, 101, 102, 103, 104, 105, 106, 107, 108, 109, 110, 111, 112, 113, 114, 115, 116, 117, 118, 119, 120, 121, 122, 48, 49, 50, 51, 52, 53, 54, 55, 56, 57, 46, 45, 95]⟩ : ByteArray).data.toList = elemSet from rfl]
      generalize trimS s.data.toList elemSet = t at e1 ⊢
      have e2 : (⟨t.toArray⟩ : ByteArray).toList.isEmpty = false := by rw [toList_mk]; simpa using e1
      have e3 : t.isEmpty = false := by simpa using e1
      clear e1
      go_wp2_with fail
      go_ret
      exact ⟨rfl, hb1⟩
    | true =>
      have e1 : trimS s.data.toList elemSet = [] := by
        have := HP.out
        rw [ha] at this
        exact beq_iff_eq.1 this
      have E1 := Lib.hid e1
      have HA := Lib.hid ha
      clear e1 ha
      cases hd : s.data.toList.all (· == 46) with
      | true =>
        rw [show elemOk s.data.toList = false from by rw [elemOk_of H0.out HA.out hd rfl]; rfl]
        have e1 : trimS s.data.toList [46] = [] := by
          have := HQ.out
          rw [hd] at this
          exact beq_iff_eq.1 this
        have E2 := Lib.hid e1
        clear e1 hd
        go_enter Tryz.func80, Tryz.ntmps80
        go_wp2_with fail
        refine (trim_calls _ _ _ hs (by decide) (by decide)).mono ?_
        rintro e w1 ⟨rfl, hb1⟩
        rw [show (⟨#[97, 98, 99, 100, 101, 102, 103, 104, 105, 106, 107, 108, 109, 110, 111, 112, 113, 114, 115, 116, 117, 118, 119, 120, 121, 122, 48, 49, 50, 51, 52, 53, 54, 55, 56, 57, 46, 45, 95]⟩ : ByteArray).data.toList = elemSet from rfl, E1.out]
        go_wp2_with fail
        refine (trim_calls _ _ _ hs (by decide) (by decide)).mono ?_
        rintro e w2 ⟨rfl, hb2⟩
        rw [show (⟨#[46]⟩ : ByteArray).data.toList = [46] from rfl, E2.out]
        go_wp2_with fail
        go_ret
        exact ⟨rfl, below_step hb1 hb2⟩
      | false =>
        generalize hc : contains s.data.toList dots = c
        rw [show elemOk s.data.toList = !c from by rw [elemOk_of H0.out HA.out hd hc]; simp]
        have HC := Lib.hid hc
        have e1 : (trimS s.data.toList [46] == []) = false := by rw [HQ.out, hd]
        clear hd hc
        go_enter Tryz.func80, Tryz.ntmps80
        go_wp2_with fail
        refine (trim_calls _ _ _ hs (by decide) (by decide)).mono ?_
        rintro e w1 ⟨rfl, hb1⟩
        rw [show (⟨#[97, 98, 99, 100, 101, 102, 103, 104, 105, 106, 107, 108, 109, 110, 111, 112, 113, 114, 115, 116, 117, 118, 119, 120, 121, 122, 48, 49, 50, 51, 52, 53, 54, 55, 56, 57, 46, 45, 95]⟩ : ByteArray).data.toList = elemSet from rfl, E1.out]
        go_wp2_with fail
        refine (trim_calls _ _ _ hs (by decide) (by decide)).mono ?_
        rintro e w2 ⟨rfl, hb2⟩
        have hb12 := below_step hb1 hb2
        rw [show (⟨#[46]⟩ : ByteArray).data.toList = [46] from rfl]
        generalize trimS s.data.toList [46] = t at e1 ⊢
        have e2 : (⟨t.toArray⟩ : ByteArray).toList.isEmpty = false := by rw [toList_mk]; simpa using e1
        have e3 : t.isEmpty = false := by simpa using e1
        clear e1
        go_wp2_with fail
        refine (contains_calls _ _ _ (hE.below hb12).m hs).mono ?_
        rintro e w3 ⟨rfl, rfl⟩
        rw [show (⟨#[46, 46, 46]⟩ : ByteArray).data.toList = dots from rfl, HC.out]
        go_wp2_with fail
        go_ret
        exact ⟨rfl, hb12⟩
theorem itoa_calls (ks : List Nat) (A : Nat → Addr) (n : Nat) (w : World) (hE : EnvP ks A w) (hn : n ≤ 9223372036854775807) :
    Calls Tryz.prog 113 #[.int .i64 n] w fun e w' => e = .returned (.string ⟨(Lib.itoa n).toArray⟩) ∧ Below w.heap.size w w' :=
  (Tryz.strconv_Itoa n (by omega) (by omega) w hE.pow10).mono fun e w' ⟨h, k, os, h2⟩ => ⟨h, by subst h2; exact below_grow _ _ (Nat.le_refl _) _ _⟩

theorem sufD_eq (s : Str) : sufD s = trimPrefix s [118] := rfl
theorem suf_no {s : Str} (h : looksSuf s = false) : isSuf s = false ∧ sufWell s = true := by
  have h1 : isSuf s = false := by unfold isSuf; rw [h]; rfl
  exact ⟨h1, by unfold sufWell; rw [h]; rfl⟩
theorem suf_digits {s : Str} (h : looksSuf s = true) : sufWell s = isSuf s := by unfold sufWell; rw [h]; rfl

theorem suffix_no (ks : List Nat) (A : Nat → Addr) (s : ByteArray) (w : World) (_hE : EnvP ks A w) (hs : s.size ≤ 4000000000) (hl : looksSuf s.data.toList = false) :
    Calls Tryz.prog 77 #[.string s] w fun e w' => e = .returned (.tuple #[.int .i64 0, .bool false, .bool true]) ∧ Below w.heap.size w w' := by
  have ht : (trimPrefix s.data.toList [118]).length ≤ s.size := by rw [size_eq s]; exact trimPrefix_le _ _
  cases hp : hasPrefix s.data.toList [118] with
  | false =>
    go_enter Tryz.func77, Tryz.ntmps77
    go_wp2_with fail
    refine (cutPrefix_calls _ _ _).mono ?_
    rintro e w1 ⟨rfl, rfl⟩
    rw [show (⟨#[118]⟩ : ByteArray).data.toList = [118] from rfl, hp]
    clear hp hl
    go_wp2_with fail
    all_goals go_ret3
    all_goals exact ⟨rfl, Below.refl _ _⟩
  | true =>
    have hd : areDigits (trimPrefix s.data.toList [118]) = false := by
      have := hl
      unfold looksSuf sufD at this
      rw [hp] at this
      exact this
    have HP := Lib.hid hp
    have HQ := Lib.hid (trimS_nil_bool (trimPrefix s.data.toList [118]) digitsSet isDig digitsSet_ok)
    clear hp hl
    go_enter Tryz.func77, Tryz.ntmps77
    go_wp2_with fail
    refine (cutPrefix_calls _ _ _).mono ?_
    rintro e w1 ⟨rfl, rfl⟩
    rw [show (⟨#[118]⟩ : ByteArray).data.toList = [118] from rfl, HP.out]
    by_cases h0 : trimPrefix s.data.toList [118] = []
    · rw [h0]
      clear hd HQ h0
      go_wp2_with fail
      all_goals go_ret3
      all_goals exact ⟨rfl, Below.refl _ _⟩
    · have hne : (⟨(trimPrefix s.data.toList [118]).toArray⟩ : ByteArray).toList.isEmpty = false := by rw [toList_mk]; simpa using h0
      have hne2 : (trimPrefix s.data.toList [118]).isEmpty = false := by simpa using h0
      have hne3 : ((trimPrefix s.data.toList [118]) == []) = false := by simpa using h0
      have e1 : (trimS (trimPrefix s.data.toList [118]) digitsSet == []) = false := by
        rw [HQ.out]
        unfold areDigits at hd
        rw [hne2] at hd
        simpa using hd
      have ht4 : (⟨(trimPrefix s.data.toList [118]).toArray⟩ : ByteArray).size ≤ 4000000000 := Nat.le_trans ht hs
      generalize trimPrefix s.data.toList [118] = D at e1 hne hne2 hne3 ht4 ⊢
      clear hd HQ h0 ht
      go_wp2_with fail
      refine (trim_calls _ _ _ ht4 (by decide) (by decide)).mono ?_
      rintro e w2 ⟨rfl, hb2⟩
      rw [show (⟨#[48, 49, 50, 51, 52, 53, 54, 55, 56, 57]⟩ : ByteArray).data.toList = digitsSet from rfl, data_mk]
      generalize trimS D digitsSet = t at e1 ⊢
      have e2 : (⟨t.toArray⟩ : ByteArray).toList.isEmpty = false := by rw [toList_mk]; simpa using e1
      have e3 : t.isEmpty = false := by simpa using e1
      clear e1
      go_wp2_with fail
      go_ret3
      exact ⟨rfl, hb2⟩

/-- digits behind v: any case but the comparison of the numeral -/
theorem suffix_dig (ks : List Nat) (A : Nat → Addr) (s : ByteArray) (w : World) (hE : EnvP ks A w) (hs : s.size ≤ 4000000000) (hl : looksSuf s.data.toList = true) :
    Calls Tryz.prog 77 #[.string s] w fun e w' => (∃ n : Int, e = .returned (.tuple #[.int .i64 n, .bool (isSuf s.data.toList), .bool (isSuf s.data.toList)]) ∧ (isSuf s.data.toList = true → n = (sufNum s.data.toList : Nat))) ∧ Below w.heap.size w w' := by
  have ht : (trimPrefix s.data.toList [118]).length ≤ s.size := by rw [size_eq s]; exact trimPrefix_le _ _
  have hl2 : hasPrefix s.data.toList [118] = true ∧ areDigits (trimPrefix s.data.toList [118]) = true := by
    unfold looksSuf sufD at hl
    simpa using hl
  have his : isSuf s.data.toList = decide ((numberOf (trimPrefix s.data.toList [118])).2 = 0 ∧ 2 ≤ (numberOf (trimPrefix s.data.toList [118])).1) := by unfold isSuf; rw [hl]; rfl
  have hnu : sufNum s.data.toList = (numberOf (trimPrefix s.data.toList [118])).1 := rfl
  obtain ⟨hp, hd⟩ := hl2
  have HP := Lib.hid hp
  have ht4 : (⟨(trimPrefix s.data.toList [118]).toArray⟩ : ByteArray).size ≤ 4000000000 := Nat.le_trans ht hs
  generalize isSuf s.data.toList = R at his ⊢
  generalize sufNum s.data.toList = N at hnu ⊢
  generalize hD : trimPrefix s.data.toList [118] = D at hd ht4 his hnu
  have HR := Lib.hid his
  have HN := Lib.hid hnu
  have HDD := Lib.hid hD
  clear hp hl his hnu hD
  go_enter Tryz.func77, Tryz.ntmps77
  go_wp2_with fail
  refine (cutPrefix_calls _ _ _).mono ?_
  rintro e w1 ⟨rfl, rfl⟩
  rw [show (⟨#[118]⟩ : ByteArray).data.toList = [118] from rfl, HP.out, HDD.out]
  clear ht
  have h0 : D ≠ [] := by intro e; rw [e] at hd; exact absurd hd (by decide)
  have hne : (⟨D.toArray⟩ : ByteArray).toList.isEmpty = false := by rw [toList_mk]; simpa using h0
  have hne2 : D.isEmpty = false := by simpa using h0
  have hne3 : (D == []) = false := by simpa using h0
  have e1 : trimS D digitsSet = [] := by
    have := trimS_nil_bool D digitsSet isDig digitsSet_ok
    have hd2 := hd
    unfold areDigits at hd2
    rw [hne2] at hd2
    rw [show D.all isDig = true by simpa using hd2] at this
    exact beq_iff_eq.1 this
  have E1 := Lib.hid e1
  have HD := Lib.hid hd
  clear e1 hd h0
  go_wp2_with fail
  refine (trim_calls _ _ _ ht4 (by decide) (by decide)).mono ?_
  rintro e w2 ⟨rfl, hb2⟩
  rw [show (⟨#[48, 49, 50, 51, 52, 53, 54, 55, 56, 57]⟩ : ByteArray).data.toList = digitsSet from rfl, data_mk, E1.out]
  have hE2 := hE.below hb2
  go_wp2_with fail
  refine (atoi_calls ks A _ _ hE2 ht4 HD.out).mono ?_
  rintro e w3 ⟨hr, hb3⟩
  have hb23 := below_step hb2 hb3
  have hE3 := hE.below hb23
  rcases hr with ⟨x, te, pe, rfl, h7⟩ | rfl
  · have hf : ¬ ((numberOf D).2 = 0 ∧ 2 ≤ (numberOf D).1) := by
      rintro ⟨h, _⟩
      by_cases hz : areDigits D = false ∨ (1 < D.length ∧ D.head? = some 48)
      · rw [numberOf_text hz] at h; exact absurd h (by decide)
      · rw [numberOf_long hz h7] at h; exact absurd h (by decide)
    have HF := Lib.hid hf
    clear hf h7 hE3 hE2 hne hne2 hne3 ht4
    go_wp2_with fail
    go_ret3
    have hR : R = false := by rw [HR.out, decide_eq_false HF.out]
    rw [hR]
    exact ⟨⟨x, rfl, fun h => absurd h (by decide)⟩, hb23⟩
  · rw [data_mk]
    have hsm := decVal_small HD.out
    have hit := itoa_decVal HD.out
    have hnum : (1 < D.length ∧ D.head? = some 48) ∨ (¬ (1 < D.length ∧ D.head? = some 48)) := Decidable.em _
    have hv63 : decVal D ≤ 999999 ∨ 999999 < decVal D := Nat.lt_or_ge 999999 (decVal D) |>.symm
    generalize hv : decVal D = v at hsm hit hv63 ⊢
    have HV := Lib.hid hv
    clear hv
    by_cases h2 : v < 2
    · have HF : Hid (R = false) := by
        refine Lib.hid ?_
        rw [HR.out]
        apply decide_eq_false
        rintro ⟨h, h3⟩
        by_cases hz : areDigits D = false ∨ (1 < D.length ∧ D.head? = some 48)
        · rw [numberOf_text hz] at h; exact absurd h (by decide)
        · by_cases hl6 : 6 < D.length
          · rw [numberOf_long hz hl6] at h; exact absurd h (by decide)
          · rw [numberOf_ok hz hl6, HV.out] at h3; simp only at h3; omega
      clear hE3 hE2 hne hne2 hne3 ht4 hsm hit hnum hv63
      go_wp2_with fail
      go_ret3
      rw [HF.out]
      exact ⟨⟨_, rfl, fun h => absurd h (by decide)⟩, hb23⟩
    · rcases hv63 with hle | hgt
      · have hita := itoa_calls ks A v w3 hE3 (by omega)
        by_cases heq : itoa ((v : Nat) : Int) = D
        · have hz := hit.1 heq
          have hl6 := (hsm hz).1 hle
          have HF : Hid (R = true ∧ N = v) := by
            have hzz : ¬ (areDigits D = false ∨ (1 < D.length ∧ D.head? = some 48)) := by
              rintro (h | h)
              · rw [HD.out] at h; exact absurd h (by decide)
              · exact hz h
            have e := numberOf_ok hzz (Nat.not_lt.2 hl6)
            rw [HV.out] at e
            refine Lib.hid ⟨?_, ?_⟩
            · rw [HR.out, e]
              simp only
              rw [decide_eq_true]
              exact ⟨trivial, by omega⟩
            · rw [HN.out, e]
          have HQ := Lib.hid heq
          clear hE3 hE2 hne hne2 hne3 ht4 hsm hit hnum hz hl6 heq
          go_wp2_with fail
          refine hita.mono ?_
          rintro e w4 ⟨rfl, hb4⟩
          rw [HQ.out]
          have hb24 := below_step hb23 hb4
          clear hita
          go_wp2_with fail
          go_ret3
          rw [HF.out.1, HF.out.2]
          exact ⟨⟨_, rfl, fun _ => rfl⟩, hb24⟩
        · have hz : 1 < D.length ∧ D.head? = some 48 := Decidable.of_not_not fun h => heq (hit.2 h)
          have HF : Hid (R = false) := by
            refine Lib.hid ?_
            rw [HR.out]
            apply decide_eq_false
            rintro ⟨h, h3⟩
            rw [numberOf_text (.inr hz)] at h
            exact absurd h (by decide)
          generalize itoa ((v : Nat) : Int) = t at heq hita
          have hq1 : (t == D) = false := beq_eq_false_iff_ne.2 heq
          have hq2 : (⟨t.toArray⟩ : ByteArray) ≠ ⟨D.toArray⟩ := by
            intro e; injection e with e; exact heq (by simpa using congrArg Array.toList e)
          have hq4 : ((⟨t.toArray⟩ : ByteArray).toList == (⟨D.toArray⟩ : ByteArray).toList) = false := by rw [toList_mk, toList_mk]; exact hq1
          clear hE3 hE2 hne hne2 hne3 ht4 hsm hit hnum hz
          go_wp2_with fail
          refine hita.mono ?_
          rintro e w4 ⟨rfl, hb4⟩
          have hb24 := below_step hb23 hb4
          clear hita
          go_wp2_with fail
          go_ret3
          rw [HF.out]
          exact ⟨⟨_, rfl, fun h => absurd h (by decide)⟩, hb24⟩
      · have HF : Hid (R = false) := by
          refine Lib.hid ?_
          rw [HR.out]
          apply decide_eq_false
          rintro ⟨h, h3⟩
          by_cases hz : areDigits D = false ∨ (1 < D.length ∧ D.head? = some 48)
          · rw [numberOf_text hz] at h; exact absurd h (by decide)
          · by_cases hl6 : 6 < D.length
            · rw [numberOf_long hz hl6] at h; exact absurd h (by decide)
            · have := (hsm (fun e => hz (.inr e))).2 (by omega)
              omega
        clear hE3 hE2 hne hne2 hne3 ht4 hsm hit hnum
        go_wp2_with fail
        go_ret3
        rw [HF.out]
        exact ⟨⟨_, rfl, fun h => absurd h (by decide)⟩, hb23⟩
end Go.Proofs.Pw
