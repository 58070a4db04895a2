/- The walks of package ver's small functions at right versions, the tape's place told. MADE BY mkd.py out of XVer. -/
import Derived.Test.YtaelindfneoajaaGreatDoorVer3
import Derived.Test.YtaelindfneoajaaGreatDoorVerTxt
import Derived.Test.YtaelindfneoajaaGreatDoorBel
namespace Go.Proofs.Pw
open Go.RowKit
open Go.Lib hiding intOf

theorem trimD_calls (s cs : ByteArray) (w : World) (hs : s.size ≤ 4000000000) (hc : cs.size ≤ 1000) (h2 : 2 ≤ cs.size) (h0 : 0 < s.size) (ha : ∀ b ∈ cs.data.toList, b.toNat < 128) :
    Calls Tryz.prog 172 #[.string s, .string cs] w fun e w' => e = .returned (.string ⟨(Lib.trimS s.data.toList cs.data.toList).toArray⟩) ∧ Bel w.heap.size w w' := by
  have hz := zero_of_info (P := Tryz.prog) (t := Tryz.lays160_ren.t 116) (v := .agg (Array.replicate 256 (.bool false))) (n := 256) (by kernel_rfl)
  refine (Any.strings_Trim_set Tryz.lays160 hz.1 hz.2 s cs w h2 h0 (by omega) (by omega) (fun j b h => ha b (List.mem_of_getElem? h))).mono ?_
  rintro e w' ⟨rfl, q, rfl⟩
  exact ⟨rfl, (((bel_alloc _ _).alloc (by simp) _)).drewN q⟩

theorem digitsD_calls (s : ByteArray) (w : World) (hs : s.size ≤ 4000000000) :
    Calls Tryz.prog 170 #[.string s] w fun e w' => e = .returned (.bool (areDigits s.data.toList)) ∧ Bel w.heap.size w w' := by
  have HT := Lib.hid (trimS_nil_bool s.data.toList digitsSet isDig digitsSet_ok)
  cases he : s.data.toList.isEmpty with
  | true =>
    have h1 : s.toList.isEmpty = true := by rw [isEmpty_toList, he]
    have h2 : s.toList = [] := by simpa using h1
    have HD : Hid (areDigits s.data.toList = false) := by unfold areDigits; show _ = _; rw [he]; rfl
    clear he
    go_enter Tryz.func170, Tryz.ntmps170
    go_wp2_with fail
    go_ret
    exact ⟨by rw [HD.out]; simp, Bel.refl _ _⟩
  | false =>
    have h00 : 0 < s.size := by
      rw [size_eq]
      cases hsd : s.data.toList with
      | nil => rw [hsd] at he; cases he
      | cons c r => simp
    have h1 : s.toList.isEmpty = false := by rw [isEmpty_toList, he]
    have h2 : (s.toList == []) = false := by simpa using h1
    have HD : Hid (areDigits s.data.toList = s.data.toList.all isDig) := by unfold areDigits; show _ = _; rw [he]; rfl
    clear he
    go_enter Tryz.func170, Tryz.ntmps170
    go_wp2_with fail
    refine (trimD_calls _ _ _ hs (by decide) (by decide) h00 (by decide)).mono ?_
    rintro e w1 ⟨rfl, hb1⟩
    cases ha : s.data.toList.all isDig with
    | true =>
      have e1 : trimS s.data.toList (⟨#[48, 49, 50, 51, 52, 53, 54, 55, 56, 57]⟩ : ByteArray).data.toList = [] := by
        have := HT.out
        rw [ha] at this
        exact beq_iff_eq.1 this
      rw [e1]
      clear e1
      go_wp2_with fail
      go_ret
      exact ⟨by rw [HD.out, ha]; simp, hb1⟩
    | false =>
      have e1 : (trimS s.data.toList (⟨#[48, 49, 50, 51, 52, 53, 54, 55, 56, 57]⟩ : ByteArray).data.toList == []) = false := by
        have := HT.out
        rw [ha] at this
        exact this
      generalize trimS s.data.toList (⟨#[48, 49, 50, 51, 52, 53, 54, 55, 56, 57]⟩ : ByteArray).data.toList = t at e1 ⊢
      have e2 : (⟨t.toArray⟩ : ByteArray).toList.isEmpty = false := by rw [toList_mk]; simpa using e1
      clear e1
      go_wp2_with fail
      go_ret
      exact ⟨by rw [HD.out, ha]; simp_all, hb1⟩


theorem atoiD_calls (s : ByteArray) (w : World) (hs : s.size ≤ 4000000000) (hd : areDigits s.data.toList = true) (h6 : ¬ 6 < s.size) :
    Calls Tryz.prog 171 #[.string s] w fun e w' => e = .returned (.tuple #[.int .i64 (decVal s.data.toList), .nilIface]) ∧ Bel w.heap.size w w' := by
  rcases atoiAll_digits hd with h | h
  · exact absurd (by rw [size_eq]; exact atoiAll_range_long hd h) h6
  · refine (Tryz.strconv_Atoi_ok s (by omega) _ h w).mono ?_
    rintro e w' ⟨rfl, hw⟩
    refine ⟨rfl, ?_⟩
    rcases hw with rfl | ⟨t, rfl⟩
    · exact Bel.refl _ _
    · exact ⟨Lib.bytesWorld_below _ _ _, by show w.drawn ≤ w.drawn + 1; omega⟩

set_option maxHeartbeats 400000 in
/-- ver.number at digits without needless zeros -/
theorem numberOkD (ks : List Nat) (A : Nat → Addr) (s : ByteArray) (w : World) (hE : EnvP ks A w) (hs : s.size ≤ 4000000000) (hd : areDigits s.data.toList = true) (hz : ¬ (1 < s.data.toList.length ∧ s.data.toList.head? = some 48)) (h6 : ¬ 6 < s.size) :
    Calls Tryz.prog 98 #[.string s] w fun e w' => e = .returned (.tuple #[.int .i64 (decVal s.data.toList), errV A 0]) ∧ Bel w.heap.size w w' := by
  have HD := Lib.hid hd
  have hv := decVal_small hd hz
  rw [← size_eq] at hv
  have HS := Lib.hid hv
  have hne : 0 < s.size := by
    rw [size_eq]
    cases hsd : s.data.toList with
    | nil => rw [hsd] at hd; simp [areDigits] at hd
    | cons c r => simp
  have h01 : (1 < s.size ∧ (((s[0]'hne).toNat : Int) == 48) = false) ∨ ¬ 1 < s.size := by
    by_cases h1 : 1 < s.size
    · refine .inl ⟨h1, ?_⟩
      rw [beq_eq_false_iff_ne]
      intro e
      apply hz
      refine ⟨by rw [← size_eq]; exact h1, ?_⟩
      have h2 : s.data.toList[0]? = some (s[0]'hne) := by
        rw [List.getElem?_eq_getElem (by rw [← size_eq]; omega)]; rfl
      rw [List.head?_eq_getElem?, h2]
      have : (s[0]'hne).toNat = 48 := by exact_mod_cast e
      rw [show (48 : UInt8) = UInt8.ofNat 48 from rfl, ← this, UInt8.ofNat_toNat]
    · exact .inr h1
  clear hd hz hv
  rcases h01 with ⟨h1, h2⟩ | h1
  all_goals
    go_enter Tryz.func98, Tryz.ntmps98
    go_wp2_with fail
    refine (digitsD_calls _ _ hs).mono ?_
    rintro e w1 ⟨rfl, hb1⟩
    rw [HD.out]
    have hEa := hE.below hb1.b
    go_wp2_with fail
    refine (atoiD_calls _ _ hs HD.out h6).mono ?_
    rintro e w2 ⟨rfl, hb2⟩
    have hE2 := (hEa.below hb2.b).errs.var 2 hE.has.2
    simp only [errG] at hE2
    have hsm : decVal s.data.toList ≤ 999999 := HS.out.2 (by omega)
    go_wp2_with fail
    go_ret2
    exact ⟨rfl, bel_step hb1 hb2⟩

theorem numberD_calls (ks : List Nat) (A : Nat → Addr) (s : ByteArray) (w : World) (hE : EnvP ks A w) (hs : s.size ≤ 4000000000) (h0 : (numberOf s.data.toList).2 = 0) :
    Calls Tryz.prog 98 #[.string s] w fun e w' => e = .returned (.tuple #[.int .i64 ((numberOf s.data.toList).1 : Nat), errV A (numberOf s.data.toList).2]) ∧ Bel w.heap.size w w' := by
  obtain ⟨hd, hz, hv, h6⟩ := numberOf_err h0
  rw [h0, hv]
  exact numberOkD ks A s w hE hs hd hz (by rw [size_eq]; omega)

set_option maxHeartbeats 400000 in
/-- ver.part: a part's error -/
theorem partD_calls (ks : List Nat) (A : Nat → Addr) (s : ByteArray) (w : World) (hE : EnvP ks A w) (hs : s.size ≤ 4000000000) (hok : partErr s.data.toList = 0) :
    Calls Tryz.prog 100 #[.string s] w fun e w' => e = .returned (errV A (partErr s.data.toList)) ∧ Bel w.heap.size w w' := by
  have hT := hE.errs.var 1 hE.has.1
  simp only [errG] at hT
  have HP := Lib.hid (trimS_nil_bool s.data.toList partSet isPartByte partSet_ok)
  have hsz := size_eq s
  by_cases he : s.data.toList = []
  · rw [partErr_text (.inl he)] at hok; cases hok
  · have h1 : s.toList.isEmpty = false := by rw [isEmpty_toList]; simpa using he
    have h2 : (s.toList == []) = false := by simpa using h1
    by_cases hl : 8 < s.size
    · rw [partErr_text (.inr (.inl (by rw [← hsz]; exact hl)))] at hok; cases hok
    · have HL := Lib.hid hsz
      have h00 : 0 < s.size := by
        rw [size_eq]
        cases hsd : s.data.toList with
        | nil => exact absurd hsd he
        | cons c r => simp
      have HE := Lib.hid he
      clear hsz he
      cases ha : s.data.toList.all isPartByte with
      | false => rw [partErr_text (.inr (.inr ha))] at hok; cases hok
      | true =>
        have e1 : trimS s.data.toList partSet = [] := by
          have := HP.out
          rw [ha] at this
          exact beq_iff_eq.1 this
        have hpe : partErr s.data.toList = if areDigits s.data.toList then (numberOf s.data.toList).2 else 0 := by
          unfold partErr
          rw [if_neg]
          rintro (h | h | h)
          · exact HE.out h
          · rw [← HL.out] at h; exact hl h
          · rw [ha] at h; exact absurd h (by decide)
        have HPE := Lib.hid (hpe.symm.trans hok)
        rw [hpe]
        clear hpe ha hok
        generalize hc : (if areDigits s.data.toList then (numberOf s.data.toList).2 else 0) = c
        have HC := Lib.hid hc
        clear hc
        have E1 := Lib.hid e1
        clear e1
        go_enter Tryz.func100, Tryz.ntmps100
        go_wp2_with fail
        refine (trimD_calls _ _ _ hs (by decide) (by decide) h00 (by decide)).mono ?_
        rintro e w1 ⟨rfl, hb1⟩
        rw [show (⟨#[97, 98, 99, 100, 101, 102, 103, 104, 105, 106, 107, 108, 109, 110, 111, 112, 113, 114, 115, 116, 117, 118, 119, 120, 121, 122, 65, 66, 67, 68, 69, 70, 71, 72, 73, 74, 75, 76, 77, 78, 79, 80, 81, 82, 83, 84, 85, 86, 87, 88, 89, 90, 48, 49, 50, 51, 52, 53, 54, 55, 56, 57, 45]⟩ : ByteArray).data.toList = partSet from rfl, E1.out]
        go_wp2_with fail
        refine (digitsD_calls _ _ hs).mono ?_
        rintro e w2 ⟨rfl, hb2⟩
        cases hd : areDigits s.data.toList with
        | false =>
          obtain rfl : c = 0 := by have := HC.out; rw [hd] at this; exact this.symm
          clear hd
          go_wp2_with fail
          go_ret
          exact ⟨rfl, bel_step hb1 hb2⟩
        | true =>
          obtain rfl : c = (numberOf s.data.toList).2 := by have := HC.out; rw [hd] at this; exact this.symm
          have HK : Hid ((numberOf s.data.toList).2 = 0) := Lib.hid (by have := HPE.out; rw [hd] at this; exact this)
          clear hd
          go_wp2_with fail
          refine (numberD_calls ks A _ _ ((hE.below hb1.b).below hb2.b) hs HK.out).mono ?_
          rintro e w3 ⟨rfl, hb3⟩
          go_wp2_with fail
          go_ret
          exact ⟨rfl, bel_step (bel_step hb1 hb2) hb3⟩

end Go.Proofs.Pw
