/- Da: walks and plain laws, joined: LongIdx LongMath DnArgs DnTells. Conditions: at each theorem. -/
import Derived.Test.YtnanklfbmmionaaGreatDoorDag
import Derived.Test.YtnanklfbmmionaaGreatDoorDae
import Derived.Test.YtnanklfbmmionaaGreatDoorDaw
import Derived.Test.YtnanklfbmmionaaGreatDoorDaz
import Derived.Test.YtnanklfbmmionaaGreatDoorDaza
import Derived.Test.YtnanklfbmmionaaGreatDoorDat
import Derived.Test.YtnanklfbmmionaaGreatDoorDau
import Derived.Test.YtnanklfbmmionaaGreatDoorDav

namespace Go.Proofs.Pw
open Go.RowKit
open Go.Lib hiding intOf
def longEn (e : En) : Bool := decide (70 < e.md.1.length) || (decide (60 < e.md.2.length) || (longMods e.reqs 25 || (decide (15 < e.packs.length) || e.packs.any fun s => decide (70 < s.length))))
def longIdx (l : List En) : Bool := decide (30 < l.length ∧ l.length ≠ 101) || l.any longEn
def longII (l : List En) : Int := if longIdx l = true then 1 else 0
theorem longIdx_hit {l : List En} {k : Nat} (hk : k < l.length) (h : longEn (enAt l k) = true) : longII l = 1 := by
  unfold longII longIdx
  rw [if_pos]
  rw [Bool.or_eq_true]
  exact .inr (List.any_eq_true.2 ⟨_, enAt_mem hk, h⟩)
theorem longIdx_none {l : List En} (h0 : ¬ (30 < l.length ∧ l.length ≠ 101)) (h : ∀ j, j < l.length → longEn (enAt l j) = false) : longII l = 0 := by
  unfold longII longIdx
  rw [if_neg]
  rw [Bool.or_eq_true]
  rintro (h1 | h1)
  · exact h0 (of_decide_eq_true h1)
  · obtain ⟨e, he, h2⟩ := List.any_eq_true.1 h1
    obtain ⟨i, hi⟩ := List.getElem?_of_mem he
    have hl := (List.getElem?_eq_some_iff.1 hi).1
    rw [enAt_get hl] at hi
    rw [← Option.some.inj hi, h i hl] at h2
    cases h2
set_option maxHeartbeats 4000000 in
set_option maxRecDepth 100000 in
theorem longIndex_in (a : Option Addr) (n cap : Nat) (P V : Nat → ByteArray) (R : Nat → List Md) (K : Nat → List Str) (Bk : Nat → Bool) (Rv Kv : Nat → Value) (w : World) (h : EntsIn w a n cap P V R K Bk Rv Kv) :
    Calls Tryz.prog 14 #[.slice a n cap] w fun e w' => e = .returned (.int .i64 (longII (enF n P V R K Bk))) ∧ w = w' := by
  have hcap := h.cap
  have hle := h.le
  have H := Lib.hid h
  clear h
  by_cases h30 : 30 < n ∧ n ≠ 101
  · have HF : Hid (longII (enF n P V R K Bk) = 1) := Lib.hid (by
      unfold longII longIdx
      rw [if_pos]
      rw [Bool.or_eq_true, enF_length]
      exact .inl (decide_eq_true h30))
    have h1 : (30 : Int) < (n : Int) := by omega
    have h2 : ((n : Int) != 101) = true := bne_iff_ne.2 (by omega)
    have h3 : ((n : Int) == 101) = false := beq_eq_false_iff_ne.2 (by omega)
    clear h30
    go_enter Tryz.func14, Tryz.ntmps14
    go_wp2_with fail
    go_ret
    rw [HF.out]
    exact ⟨rfl, rfl⟩
  · have hn101 : n ≤ 101 := by omega
    by_cases h31 : n = 101
    · have h1 : (30 : Int) < (n : Int) := by omega
      have h2 : ((n : Int) != 101) = false := by subst h31; rfl
      have h3 : ((n : Int) == 101) = true := by subst h31; rfl
      clear h31
      go_enter Tryz.func14, Tryz.ntmps14
      go_wp2_with fail
      go_loop [3] (fun i => ∃ k : Nat, k ≤ n ∧ i = .int .i64 k ∧ Hid (∀ j, j < k → longEn (enAt (enF n P V R K Bk) j) = false)) (fun i => n - (intOf i).toNat)
      case atStart => exact ⟨0, Nat.zero_le _, rfl, Lib.hid (fun j hj => absurd hj (Nat.not_lt_zero _))⟩
      case round =>
        obtain ⟨k, hk, rfl, HA⟩ := hrel
        by_cases hlt : k < n
        · have hkn : (k : Int) < (n : Int) := by omega
          obtain ⟨b1, o1, ea, hcell⟩ := H.out.at_ k hlt
          have hM := H.out.reqs k hlt
          obtain ⟨aK, nK, cK, LK, eK, eKl, _, _, hKc⟩ := H.out.packs k hlt
          obtain ⟨aM, nM, cM, _, _, eM, _⟩ := id hM
          rw [eM, eK] at hcell
          rw [eM] at hM
          have hlm := longMods_calls (.slice aM nM cM) (R k) 25 w hM
          have hEn : longEn (enAt (enF n P V R K Bk) k) = (decide (70 < (P k).size) || (decide (60 < (V k).size) || (longMods (R k) 25 || (decide (15 < nK) || (lstF nK LK).any fun s => decide (70 < s.length))))) := by
            rw [enAt_enF hlt]
            unfold longEn
            simp only [← size_eq, eKl, lstF_length]
          have hhit : longEn (enAt (enF n P V R K Bk) k) = true → longII (enF n P V R K Bk) = 1 := longIdx_hit (by rw [enF_length]; exact hlt)
          subst ea
          obtain ⟨d0, d1, d2, d3, d4⟩ := hcell
          replace hhit := Lib.hid hhit
          replace hEn := Lib.hid hEn
          replace hlm := Lib.hid hlm
          replace hKc := Lib.hid hKc
          clear hM eM eK eKl
          by_cases c1 : 70 < (P k).size
          · have HF : Hid (longII (enF n P V R K Bk) = 1) := Lib.hid (hhit.out (by rw [hEn.out, decide_eq_true c1]; rfl))
            have c1' : (70 : Int) < ((P k).size : Int) := by omega
            go_wp2_with fail
            go_ret
            rw [HF.out]
            exact ⟨rfl, rfl⟩
          · have c1' : ¬ (70 : Int) < ((P k).size : Int) := by omega
            by_cases c2 : 60 < (V k).size
            · have HF : Hid (longII (enF n P V R K Bk) = 1) := Lib.hid (hhit.out (by rw [hEn.out, decide_eq_false c1, decide_eq_true c2]; rfl))
              have c2' : (60 : Int) < ((V k).size : Int) := by omega
              go_wp2_with fail
              go_ret
              rw [HF.out]
              exact ⟨rfl, rfl⟩
            · have c2' : ¬ (60 : Int) < ((V k).size : Int) := by omega
              cases c3 : longMods (R k) 25 with
              | true =>
                have HF : Hid (longII (enF n P V R K Bk) = 1) := Lib.hid (hhit.out (by rw [hEn.out, decide_eq_false c1, decide_eq_false c2, c3]; rfl))
                rw [longI_yes c3] at hlm
                clear c3
                go_wp2_with fail
                refine hlm.out.mono ?_
                rintro e w' ⟨rfl, rfl⟩
                go_wp2_with fail
                go_ret
                rw [HF.out]
                exact ⟨rfl, rfl⟩
              | false =>
                rw [longI_no c3] at hlm
                by_cases c4 : 15 < nK
                · have HF : Hid (longII (enF n P V R K Bk) = 1) := Lib.hid (hhit.out (by rw [hEn.out, decide_eq_false c1, decide_eq_false c2, c3, decide_eq_true c4]; rfl))
                  have c4' : (15 : Int) < (nK : Int) := by omega
                  clear c3
                  go_wp2_with fail
                  refine hlm.out.mono ?_
                  rintro e w' ⟨rfl, rfl⟩
                  go_wp2_with fail
                  go_ret
                  rw [HF.out]
                  exact ⟨rfl, rfl⟩
                · have c4' : ¬ (15 : Int) < (nK : Int) := by omega
                  have HE2 : Hid (longEn (enAt (enF n P V R K Bk) k) = (lstF nK LK).any fun s => decide (70 < s.length)) := Lib.hid (by rw [hEn.out, decide_eq_false c1, decide_eq_false c2, c3, decide_eq_false c4]; rfl)
                  clear c3
                  go_wp2_with fail
                  refine hlm.out.mono ?_
                  rintro e w' ⟨rfl, rfl⟩
                  go_wp2_with fail
                  go_loop [4] (fun i => ∃ q : Nat, q ≤ nK ∧ i = .int .i64 q ∧ Hid (∀ j, j < q → ¬ 70 < (LK j).size)) (fun i => nK - (intOf i).toNat)
                  case atStart => exact ⟨0, Nat.zero_le _, rfl, Lib.hid (fun j hj => absurd hj (Nat.not_lt_zero _))⟩
                  case round =>
                    obtain ⟨q, hq, rfl, HA2⟩ := hrel
                    by_cases hq2 : q < nK
                    · have hqn : (q : Int) < (nK : Int) := by omega
                      obtain ⟨b2, o2, ek, r0⟩ := hKc.out q hq2
                      subst ek
                      by_cases c5 : 70 < (LK q).size
                      · have HF : Hid (longII (enF n P V R K Bk) = 1) := Lib.hid (hhit.out (by
                          rw [HE2.out, List.any_eq_true]
                          refine ⟨_, List.mem_of_getElem? (show (lstF nK LK)[q]? = some (LK q).data.toList by simp [lstF, hq2]), ?_⟩
                          rw [← size_eq]; exact decide_eq_true c5))
                        have c5' : (70 : Int) < ((LK q).size : Int) := by omega
                        go_wp2_with fail
                        go_ret
                        rw [HF.out]
                        exact ⟨rfl, rfl⟩
                      · have c5' : ¬ (70 : Int) < ((LK q).size : Int) := by omega
                        have HN : Hid (∀ j, j < q + 1 → ¬ 70 < (LK j).size) := Lib.hid (fun j hj => by
                          by_cases e : j = q
                          · subst e; exact c5
                          · exact HA2.out j (by omega))
                        go_wp2_with fail
                        go_round
                        case rel => exact ⟨q + 1, by omega, by go_num, HN⟩
                        case measure => simp [intOf]; omega
                    · obtain rfl : nK = q := by omega
                      have HN : Hid (∀ j, j < k + 1 → longEn (enAt (enF n P V R K Bk) j) = false) := Lib.hid (fun j hj => by
                        by_cases e : j = k
                        · subst e
                          rw [HE2.out, List.any_eq_false]
                          intro s hs
                          obtain ⟨i, hi⟩ := List.getElem?_of_mem hs
                          have hil : i < nK := by have := (List.getElem?_eq_some_iff.1 hi).1; simpa [lstF] using this
                          have : (lstF nK LK)[i]? = some (LK i).data.toList := by simp [lstF, hil]
                          rw [this] at hi
                          rw [← Option.some.inj hi, ← size_eq]
                          have := HA2.out i hil
                          simpa using this
                        · exact HA.out j (by omega))
                      go_wp2_with fail
                      go_round
                      case rel => exact ⟨k + 1, by omega, by go_num, HN⟩
                      case measure => simp [intOf]; omega
        · obtain rfl : n = k := by omega
          have HF : Hid (longII (enF n P V R K Bk) = 0) := Lib.hid (longIdx_none (by rw [enF_length]; exact h30) (by rw [enF_length]; exact HA.out))
          go_wp2_with fail
          go_ret
          rw [HF.out]
          exact ⟨rfl, rfl⟩
    · have h1 : ¬ (30 : Int) < (n : Int) := by omega
      clear h31
      go_enter Tryz.func14, Tryz.ntmps14
      go_wp2_with fail
      go_loop [3] (fun i => ∃ k : Nat, k ≤ n ∧ i = .int .i64 k ∧ Hid (∀ j, j < k → longEn (enAt (enF n P V R K Bk) j) = false)) (fun i => n - (intOf i).toNat)
      case atStart => exact ⟨0, Nat.zero_le _, rfl, Lib.hid (fun j hj => absurd hj (Nat.not_lt_zero _))⟩
      case round =>
        obtain ⟨k, hk, rfl, HA⟩ := hrel
        by_cases hlt : k < n
        · have hkn : (k : Int) < (n : Int) := by omega
          obtain ⟨b1, o1, ea, hcell⟩ := H.out.at_ k hlt
          have hM := H.out.reqs k hlt
          obtain ⟨aK, nK, cK, LK, eK, eKl, _, _, hKc⟩ := H.out.packs k hlt
          obtain ⟨aM, nM, cM, _, _, eM, _⟩ := id hM
          rw [eM, eK] at hcell
          rw [eM] at hM
          have hlm := longMods_calls (.slice aM nM cM) (R k) 25 w hM
          have hEn : longEn (enAt (enF n P V R K Bk) k) = (decide (70 < (P k).size) || (decide (60 < (V k).size) || (longMods (R k) 25 || (decide (15 < nK) || (lstF nK LK).any fun s => decide (70 < s.length))))) := by
            rw [enAt_enF hlt]
            unfold longEn
            simp only [← size_eq, eKl, lstF_length]
          have hhit : longEn (enAt (enF n P V R K Bk) k) = true → longII (enF n P V R K Bk) = 1 := longIdx_hit (by rw [enF_length]; exact hlt)
          subst ea
          obtain ⟨d0, d1, d2, d3, d4⟩ := hcell
          replace hhit := Lib.hid hhit
          replace hEn := Lib.hid hEn
          replace hlm := Lib.hid hlm
          replace hKc := Lib.hid hKc
          clear hM eM eK eKl
          by_cases c1 : 70 < (P k).size
          · have HF : Hid (longII (enF n P V R K Bk) = 1) := Lib.hid (hhit.out (by rw [hEn.out, decide_eq_true c1]; rfl))
            have c1' : (70 : Int) < ((P k).size : Int) := by omega
            go_wp2_with fail
            go_ret
            rw [HF.out]
            exact ⟨rfl, rfl⟩
          · have c1' : ¬ (70 : Int) < ((P k).size : Int) := by omega
            by_cases c2 : 60 < (V k).size
            · have HF : Hid (longII (enF n P V R K Bk) = 1) := Lib.hid (hhit.out (by rw [hEn.out, decide_eq_false c1, decide_eq_true c2]; rfl))
              have c2' : (60 : Int) < ((V k).size : Int) := by omega
              go_wp2_with fail
              go_ret
              rw [HF.out]
              exact ⟨rfl, rfl⟩
            · have c2' : ¬ (60 : Int) < ((V k).size : Int) := by omega
              cases c3 : longMods (R k) 25 with
              | true =>
                have HF : Hid (longII (enF n P V R K Bk) = 1) := Lib.hid (hhit.out (by rw [hEn.out, decide_eq_false c1, decide_eq_false c2, c3]; rfl))
                rw [longI_yes c3] at hlm
                clear c3
                go_wp2_with fail
                refine hlm.out.mono ?_
                rintro e w' ⟨rfl, rfl⟩
                go_wp2_with fail
                go_ret
                rw [HF.out]
                exact ⟨rfl, rfl⟩
              | false =>
                rw [longI_no c3] at hlm
                by_cases c4 : 15 < nK
                · have HF : Hid (longII (enF n P V R K Bk) = 1) := Lib.hid (hhit.out (by rw [hEn.out, decide_eq_false c1, decide_eq_false c2, c3, decide_eq_true c4]; rfl))
                  have c4' : (15 : Int) < (nK : Int) := by omega
                  clear c3
                  go_wp2_with fail
                  refine hlm.out.mono ?_
                  rintro e w' ⟨rfl, rfl⟩
                  go_wp2_with fail
                  go_ret
                  rw [HF.out]
                  exact ⟨rfl, rfl⟩
                · have c4' : ¬ (15 : Int) < (nK : Int) := by omega
                  have HE2 : Hid (longEn (enAt (enF n P V R K Bk) k) = (lstF nK LK).any fun s => decide (70 < s.length)) := Lib.hid (by rw [hEn.out, decide_eq_false c1, decide_eq_false c2, c3, decide_eq_false c4]; rfl)
                  clear c3
                  go_wp2_with fail
                  refine hlm.out.mono ?_
                  rintro e w' ⟨rfl, rfl⟩
                  go_wp2_with fail
                  go_loop [4] (fun i => ∃ q : Nat, q ≤ nK ∧ i = .int .i64 q ∧ Hid (∀ j, j < q → ¬ 70 < (LK j).size)) (fun i => nK - (intOf i).toNat)
                  case atStart => exact ⟨0, Nat.zero_le _, rfl, Lib.hid (fun j hj => absurd hj (Nat.not_lt_zero _))⟩
                  case round =>
                    obtain ⟨q, hq, rfl, HA2⟩ := hrel
                    by_cases hq2 : q < nK
                    · have hqn : (q : Int) < (nK : Int) := by omega
                      obtain ⟨b2, o2, ek, r0⟩ := hKc.out q hq2
                      subst ek
                      by_cases c5 : 70 < (LK q).size
                      · have HF : Hid (longII (enF n P V R K Bk) = 1) := Lib.hid (hhit.out (by
                          rw [HE2.out, List.any_eq_true]
                          refine ⟨_, List.mem_of_getElem? (show (lstF nK LK)[q]? = some (LK q).data.toList by simp [lstF, hq2]), ?_⟩
                          rw [← size_eq]; exact decide_eq_true c5))
                        have c5' : (70 : Int) < ((LK q).size : Int) := by omega
                        go_wp2_with fail
                        go_ret
                        rw [HF.out]
                        exact ⟨rfl, rfl⟩
                      · have c5' : ¬ (70 : Int) < ((LK q).size : Int) := by omega
                        have HN : Hid (∀ j, j < q + 1 → ¬ 70 < (LK j).size) := Lib.hid (fun j hj => by
                          by_cases e : j = q
                          · subst e; exact c5
                          · exact HA2.out j (by omega))
                        go_wp2_with fail
                        go_round
                        case rel => exact ⟨q + 1, by omega, by go_num, HN⟩
                        case measure => simp [intOf]; omega
                    · obtain rfl : nK = q := by omega
                      have HN : Hid (∀ j, j < k + 1 → longEn (enAt (enF n P V R K Bk) j) = false) := Lib.hid (fun j hj => by
                        by_cases e : j = k
                        · subst e
                          rw [HE2.out, List.any_eq_false]
                          intro s hs
                          obtain ⟨i, hi⟩ := List.getElem?_of_mem hs
                          have hil : i < nK := by have := (List.getElem?_eq_some_iff.1 hi).1; simpa [lstF] using this
                          have : (lstF nK LK)[i]? = some (LK i).data.toList := by simp [lstF, hil]
                          rw [this] at hi
                          rw [← Option.some.inj hi, ← size_eq]
                          have := HA2.out i hil
                          simpa using this
                        · exact HA.out j (by omega))
                      go_wp2_with fail
                      go_round
                      case rel => exact ⟨k + 1, by omega, by go_num, HN⟩
                      case measure => simp [intOf]; omega
        · obtain rfl : n = k := by omega
          have HF : Hid (longII (enF n P V R K Bk) = 0) := Lib.hid (longIdx_none (by rw [enF_length]; exact h30) (by rw [enF_length]; exact HA.out))
          go_wp2_with fail
          go_ret
          rw [HF.out]
          exact ⟨rfl, rfl⟩
end Go.Proofs.Pw

namespace Go.Proofs.Pw
open Go.Lib hiding intOf
theorem longMods_small {l : List Md} {k : Nat} (h : longMods l k = false) : l.length ≤ k ∧ ∀ m ∈ l, m.1.length ≤ 70 ∧ m.2.length ≤ 60 := by
  unfold longMods at h
  rw [Bool.or_eq_false_iff] at h
  refine ⟨by have := of_decide_eq_false h.1; omega, fun m hm => ?_⟩
  have h2 := List.any_eq_false.1 h.2 m hm
  simp only [Bool.or_eq_true, decide_eq_true_eq] at h2
  omega
theorem longEn_small {e : En} (h : longEn e = false) : e.md.1.length ≤ 70 ∧ e.md.2.length ≤ 60 ∧ longMods e.reqs 25 = false ∧ e.packs.length ≤ 15 ∧ ∀ s ∈ e.packs, s.length ≤ 70 := by
  unfold longEn at h
  rw [Bool.or_eq_false_iff, Bool.or_eq_false_iff, Bool.or_eq_false_iff, Bool.or_eq_false_iff] at h
  obtain ⟨h1, h2, h3, h4, h5⟩ := h
  refine ⟨by have := of_decide_eq_false h1; omega, by have := of_decide_eq_false h2; omega, h3, by have := of_decide_eq_false h4; omega, fun s hs => ?_⟩
  have := List.any_eq_false.1 h5 s hs
  simp only [decide_eq_true_eq] at this
  omega
theorem longIdx_small {l : List En} (h : longIdx l = false) : l.length ≤ 101 ∧ ∀ e ∈ l, longEn e = false := by
  unfold longIdx at h
  rw [Bool.or_eq_false_iff] at h
  refine ⟨by have := of_decide_eq_false h.1; omega, fun e he => ?_⟩
  have := List.any_eq_false.1 h.2 e he
  simpa using this
theorem longIdx_short {l : List En} (h : longIdx l = false) : ShortI l := by
  obtain ⟨h1, h2⟩ := longIdx_small h
  refine ⟨by omega, fun e he => ?_, fun e he => ?_, fun e he => ?_⟩
  · have := longEn_small (h2 e he); omega
  · have h3 := longMods_small (longEn_small (h2 e he)).2.2.1
    exact ⟨by omega, fun m hm => by have := h3.2 m hm; omega⟩
  · have h3 := longEn_small (h2 e he)
    exact ⟨by omega, fun s hs => by have := h3.2.2.2.2 s hs; omega⟩
theorem longII_no {l : List En} (h : longIdx l = false) : longII l = 0 := by unfold longII; rw [h]; rfl
theorem longII_yes {l : List En} (h : longIdx l = true) : longII l = 1 := by unfold longII; rw [h]; rfl
end Go.Proofs.Pw

namespace Go.Proofs.Pw
open Go.RowKit
open Go.Lib hiding intOf
theorem capsErr_le (caps : List Md) : (capsErr caps).1 ≤ 10 := by
  unfold capsErr
  refine firstE_le (fun j => ?_) _
  unfold capE
  split
  · unfold cap1
    split
    · exact Nat.le_trans (pathErr_le _) (by decide)
    · split
      · decide
      · exact Nat.le_trans (verErr_le _) (by decide)
  · split <;> decide
theorem badErr_le (l : List En) (caps : List Md) : (badErr l caps).1 ≤ 10 := orE_le (idxErr_le l) (capsErr_le caps)
theorem toErr_le (l : List En) (roots caps : List Md) : (toErr l roots caps).1 ≤ 10 := orE_le (badErr_le l caps) (rootsErr_le l roots)
theorem longI_isD (l : List Md) (most : Nat) : longI l most = if longMods l most then 1 else 0 := rfl
structure DnArgs (ks : List Nat) (A : Nat → Addr) (la : Option Addr) (ln lc : Nat) (P V : Nat → ByteArray) (R : Nat → List Md) (K : Nat → List Str) (Bk : Nat → Bool) (Rv Kv : Nat → Value) (av bv : Value) (Am Bm : List Md) (w : World) : Prop where
  idx : IdxKs ks
  env : EnvP ks A w
  l : EntsIn w la ln lc P V R K Bk Rv Kv
  a : ModsAt w av Am
  b : ModsAt w bv Bm
theorem BlsAt.congr {w : World} {v : Value} {n : Nat} {M M' : Nat → Bool} (h : BlsAt w v n M) (he : ∀ j, j < n → M j = M' j) : BlsAt w v n M' := by
  obtain ⟨a, c, e, h1⟩ := h
  exact ⟨a, c, e, fun j hj => by rw [← he j hj]; exact h1 j hj⟩
theorem BlsAt.nil (w : World) (M : Nat → Bool) : BlsAt w (.slice none 0 0) 0 M := ⟨none, 0, rfl, fun _ hj => absurd hj (Nat.not_lt_zero _)⟩
theorem bools_both {w : World} {x y : Value} {l : List En} {caps : List Md} (h : BadAt w x l caps) (g : BoolsAt w y l caps) : ∃ N Y, N = l.length ∧ BlsAt w x N Y ∧ BlsAt w y N Y := by
  obtain ⟨b, M, rfl, h1, h2⟩ := h
  obtain ⟨M', g1, g2⟩ := g
  exact ⟨l.length, M', rfl, h1.bls.congr fun j hj => Bool.eq_iff_iff.2 ((h2 j hj).trans (g2 j hj).symm), g1⟩
theorem BlsAt.cells2 {w : World} {x : Value} {n : Nat} {Y : Nat → Bool} (h : BlsAt w x n Y) : ∃ a c, x = .slice a n c ∧ ∀ W, Below w.heap.size w W → ∀ j, j < n → ∃ b o, a = some ⟨b, o, none⟩ ∧ W.cell? ⟨b, o + j, none⟩ = some (.bool (Y j)) := by
  obtain ⟨a, c, e, h1⟩ := h
  exact ⟨a, c, e, fun W hW j hj => let ⟨b, o, e2, h2⟩ := h1 j hj; ⟨b, o, e2, Below.cell_some hW h2⟩⟩
end Go.Proofs.Pw

namespace Go.Proofs.Pw
open Go.RowKit
open Go.Lib hiding intOf
set_option maxHeartbeats 4000000 in
set_option maxRecDepth 100000 in
theorem downTells_long (ks : List Nat) (A : Nat → Addr) (la : Option Addr) (ln lc : Nat) (P V : Nat → ByteArray) (R : Nat → List Md) (K : Nat → List Str) (Bk : Nat → Bool) (Rv Kv : Nat → Value) (av bv : Value) (Am Bm : List Md) (w : World) (H : DnArgs ks A la ln lc P V R K Bk Rv Kv av bv Am Bm w)
    (hlong : longIdx (enF ln P V R K Bk) = true ∨ (longIdx (enF ln P V R K Bk) = false ∧ (30 < ln ∨ (ln ≤ 30 ∧ ¬ (longMods Am 15 = false ∧ longMods Bm 15 = false))))) :
    Calls Tryz.prog 8 #[.slice la ln lc, av, bv] w fun e w' => e = .returned (.bool true) ∧ Below w.heap.size w w' := by
  obtain ⟨a1, n1, c1, _, _, rfl, _⟩ := id H.a
  obtain ⟨a2, n2, c2, _, _, rfl, _⟩ := id H.b
  have hre := lowered_calls ks A H.idx w H.env
  have hlx := fun (W : World) (hb : Below w.heap.size w W) => longIndex_in la ln lc P V R K Bk Rv Kv W (H.l.below hb)
  have hlm1 := fun (W : World) (hb : Below w.heap.size w W) => longMods_calls (.slice a1 n1 c1) Am 15 W (H.a.below hb)
  have hlm2 := fun (W : World) (hb : Below w.heap.size w W) => longMods_calls (.slice a2 n2 c2) Bm 15 W (H.b.below hb)
  replace hre := Lib.hid hre
  replace hlx := Lib.hid hlx
  replace hlm1 := Lib.hid hlm1
  replace hlm2 := Lib.hid hlm2
  clear H
  rcases hlong with h1 | ⟨h1, h2 | ⟨h2, h3⟩⟩
  · rw [longII_yes h1] at hlx
    clear h1
    go_enter Tryz.func8, Tryz.ntmps8
    go_wp2_with fail
    refine hre.out.mono ?_
    rintro e w1 ⟨rfl, hB⟩
    go_wp2_with fail
    refine (hlx.out _ hB).mono ?_
    rintro e w' ⟨rfl, rfl⟩
    go_wp2_with fail
    go_ret
    exact ⟨rfl, hB⟩
  · rw [longII_no h1] at hlx
    have h2' : (30 : Int) < (ln : Int) := by omega
    clear h1
    go_enter Tryz.func8, Tryz.ntmps8
    go_wp2_with fail
    refine hre.out.mono ?_
    rintro e w1 ⟨rfl, hB⟩
    go_wp2_with fail
    refine (hlx.out _ hB).mono ?_
    rintro e w' ⟨rfl, rfl⟩
    go_wp2_with fail
    go_ret
    exact ⟨rfl, hB⟩
  · rw [longII_no h1] at hlx
    have h2' : ¬ (30 : Int) < (ln : Int) := by omega
    clear h1
    cases h4 : longMods Am 15 <;> cases h5 : longMods Bm 15
    · exact absurd ⟨h4, h5⟩ h3
    all_goals
      clear h3
      have e1 := longI_isD Am 15
      have e2 := longI_isD Bm 15
      rw [h4] at e1
      rw [h5] at e2
      simp only [e1, e2] at hlm1 hlm2
      clear h4 h5 e1 e2
      go_enter Tryz.func8, Tryz.ntmps8
      go_wp2_with fail
      refine hre.out.mono ?_
      rintro e w1 ⟨rfl, hB⟩
      go_wp2_with fail
      refine (hlx.out _ hB).mono ?_
      rintro e w' ⟨rfl, rfl⟩
      go_wp2_with fail
      refine (hlm1.out _ hB).mono ?_
      rintro e w' ⟨rfl, rfl⟩
      go_wp2_with fail
      refine (hlm2.out _ hB).mono ?_
      rintro e w' ⟨rfl, rfl⟩
      go_wp2_with fail
      go_ret
      exact ⟨rfl, hB⟩
set_option maxHeartbeats 8000000 in
set_option maxRecDepth 100000 in
theorem downTells_main (ks : List Nat) (A : Nat → Addr) (la : Option Addr) (ln lc : Nat) (P V : Nat → ByteArray) (R : Nat → List Md) (K : Nat → List Str) (Bk : Nat → Bool) (Rv Kv : Nat → Value) (av bv : Value) (Am Bm : List Md) (w : World) (H : DnArgs ks A la ln lc P V R K Bk Rv Kv av bv Am Bm w) (hC0 : EnvC A w)
    (h1 : longIdx (enF ln P V R K Bk) = false) (h2 : ln ≤ 30) (h3 : longMods Am 15 = false) (h4 : longMods Bm 15 = false) :
    Calls Tryz.prog 8 #[.slice la ln lc, av, bv] w fun e w' => e = .returned (.bool true) ∧ Below w.heap.size w w' := by
  obtain ⟨a1, n1, c1, _, _, rfl, _⟩ := id H.a
  obtain ⟨a2, n2, c2, _, _, rfl, _⟩ := id H.b
  have hre := lowered_calls ks A H.idx w H.env
  have hlx := fun (W : World) (hb : Below w.heap.size w W) => longIndex_in la ln lc P V R K Bk Rv Kv W (H.l.below hb)
  have hlm1 := fun (W : World) (hb : Below w.heap.size w W) => longMods_calls (.slice a1 n1 c1) Am 15 W (H.a.below hb)
  have hlm2 := fun (W : World) (hb : Below w.heap.size w W) => longMods_calls (.slice a2 n2 c2) Bm 15 W (H.b.below hb)
  have hsi := longIdx_short h1
  have hsm := longIdx_small h1
  have hA1 := longMods_small h3
  have hA2 := longMods_small h4
  have HH := Lib.hid H
  have HSI := Lib.hid hsi
  have how := fun (W : World) (hb : Below w.heap.size w W) => ownIndex_calls (.slice la ln lc) (enF ln P V R K Bk) W ⟨la, ln, lc, P, V, R, K, Bk, Rv, Kv, rfl, rfl, HH.out.l.below hb⟩ (by have := hsm.1; omega) (fun e he => by
    have h4 := longEn_small (hsm.2 e he)
    have h5 := longMods_small h4.2.2.1
    exact ⟨by omega, by omega⟩)
  have hom1 := fun (W : World) (hb : Below w.heap.size w W) => ownMods_calls (.slice a1 n1 c1) Am W (HH.out.a.below hb) (by omega)
  have hom2 := fun (W : World) (hb : Below w.heap.size w W) => ownMods_calls (.slice a2 n2 c2) Bm W (HH.out.b.below hb) (by omega)
  have hE := fun (W : World) (hb : Below w.heap.size w W) => HH.out.env.below hb
  rw [longII_no h1] at hlx
  rw [longI_no h3] at hlm1
  rw [longI_no h4] at hlm2
  have HAS := Lib.hid (And.intro hA1.2 hA2.2)
  have HAL := Lib.hid (And.intro hA1.1 hA2.1)
  have HI := Lib.hid HH.out.idx
  have hEC := fun (W : World) (hb : Below w.heap.size w W) => hC0.below hb
  have h2' : ¬ (30 : Int) < (ln : Int) := by omega
  have hsA : Short Am := ⟨by omega, fun m hm => by have := hA1.2 m hm; omega⟩
  have hsB : Short Bm := ⟨by omega, fun m hm => by have := hA2.2 m hm; omega⟩
  have HSB := Lib.hid hsB
  have HSA := Lib.hid hsA
  have hcf := fun (W : World) (hb : Below w.heap.size w W) => capsFault_calls (.slice a2 n2 c2) Bm W (HH.out.b.below hb) hsB
  have hbo := fun (W : World) (hb : Below w.heap.size w W) => badOf_in la ln lc P V R K Bk Rv Kv (.slice a2 n2 c2) Bm W (HH.out.l.below hb) (HH.out.b.below hb) hsi hsB
  have htf := fun (W : World) (hb : Below w.heap.size w W) => toOf_in la ln lc P V R K Bk Rv Kv (.slice a1 n1 c1) (.slice a2 n2 c2) Am Bm W (HH.out.l.below hb) (HH.out.a.below hb) (HH.out.b.below hb) hsi (by omega) hsA hsB
  generalize hl0 : enF ln P V R K Bk = l at *
  have hck := fun (W : World) (hb : Below w.heap.size w W) (cv : Value) (hr : ModsAt W cv Bm) => downCheck_calls ks A HI.out cv Bm W (hE W hb) hr HSB.out
  have hbd := fun (oa : Option Addr) (on oc : Nat) P' V' R' K' B' Rv' Kv' (hOl : l = enF on P' V' R' K' B') (W : World) (hb : Below w.heap.size w W) (hO : EntsIn W oa on oc P' V' R' K' B' Rv' Kv') (cv : Value) (hr : ModsAt W cv Bm) => bad_in ks A HI.out oa on oc P' V' R' K' B' Rv' Kv' cv Bm W (hE W hb) hO (by rw [← hOl]; exact HSI.out) hr HSB.out
  have hto := fun (oa : Option Addr) (on oc : Nat) P' V' R' K' B' Rv' Kv' (hOl : l = enF on P' V' R' K' B') (W : World) (hb : Below w.heap.size w W) (hO : EntsIn W oa on oc P' V' R' K' B' Rv' Kv') (rv cv : Value) (hr : ModsAt W rv Am) (hc : ModsAt W cv Bm) => to_in ks A HI.out oa on oc P' V' R' K' B' Rv' Kv' rv cv Am Bm W (hE W hb) hO (by rw [← hOl]; exact HSI.out) hr (by have := HAL.out; omega) HSA.out hc HSB.out
  have lC := capsErr_le Bm
  have lB := badErr_le l Bm
  have lT := toErr_le l Am Bm
  have hfC := fun (W : World) (ev : Value) (h1 : Below w.heap.size w W) (h2 : FaultAt A W ev (capsErr Bm)) => faulted2_calls A ev _ W (hEC W h1) h2 lC
  have hfB := fun (W : World) (ev : Value) (h1 : Below w.heap.size w W) (h2 : FaultAt A W ev (badErr l Bm)) => faulted2_calls A ev _ W (hEC W h1) h2 lB
  have hfT := fun (W : World) (ev : Value) (h1 : Below w.heap.size w W) (h2 : FaultAt A W ev (toErr l Am Bm)) => faulted2_calls A ev _ W (hEC W h1) h2 lT
  unfold fltV at hcf hbo htf
  obtain ⟨CE, hCE⟩ : ∃ x, x = capsErr Bm := ⟨_, rfl⟩
  obtain ⟨BE, hBE⟩ : ∃ x, x = badErr l Bm := ⟨_, rfl⟩
  obtain ⟨TE, hTE⟩ : ∃ x, x = toErr l Am Bm := ⟨_, rfl⟩
  simp only [← hCE] at hcf hfC
  simp only [← hBE] at hbo hfB
  simp only [← hTE] at htf hfT
  obtain ⟨cc, ca⟩ := CE
  obtain ⟨bc, ba⟩ := BE
  obtain ⟨tc, ta⟩ := TE
  simp only at hcf hbo htf hfC hfB hfT
  have HEE := Lib.hid (And.intro hCE (And.intro hBE hTE))
  clear hCE hBE hTE
  replace hre := Lib.hid hre
  replace hlx := Lib.hid hlx
  replace hlm1 := Lib.hid hlm1
  replace hlm2 := Lib.hid hlm2
  replace how := Lib.hid how
  replace hom1 := Lib.hid hom1
  replace hom2 := Lib.hid hom2
  replace hE := Lib.hid hE
  replace hcf := Lib.hid hcf
  replace hbo := Lib.hid hbo
  replace htf := Lib.hid htf
  replace hck := Lib.hid hck
  replace hbd := Lib.hid hbd
  replace hto := Lib.hid hto
  replace hfC := Lib.hid hfC
  replace hfB := Lib.hid hfB
  replace hfT := Lib.hid hfT
  clear h1 h2 h3 h4 hsi hsm hA1 hA2 H hl0 hEC hC0 lC lB lT hsA hsB
  go_enter Tryz.func8, Tryz.ntmps8
  go_wp2_with fail
  refine hre.out.mono ?_
  rintro e w1 ⟨rfl, hB⟩
  go_wp2_with fail
  refine (hlx.out _ hB).mono ?_
  rintro e w' ⟨rfl, rfl⟩
  go_wp2_with fail
  refine (hlm1.out _ hB).mono ?_
  rintro e w' ⟨rfl, rfl⟩
  go_wp2_with fail
  refine (hlm2.out _ hB).mono ?_
  rintro e w' ⟨rfl, rfl⟩
  clear hre hlx hlm1 hlm2
  go_wp2_with fail
  refine (how.out _ hB).mono ?_
  rintro e w2 ⟨⟨ov, rfl, hOE⟩, hb⟩
  replace hB := below_step hB hb
  obtain ⟨oa, on, oc, P', V', R', K', B', Rv', Kv', rfl, hOl, hO⟩ := hOE
  have HO := Lib.hid hO
  have HOL := Lib.hid hOl
  have hC := Below.refl w2.heap.size w2
  clear hO hOl hb how
  go_wp2_with fail
  refine (hom2.out _ hB).mono ?_
  rintro e w3 ⟨⟨v3, rfl, hM3, _⟩, hb⟩
  replace hB := below_step hB hb
  replace hC := below_step hC hb
  obtain ⟨a3, n3, c3, _, _, rfl, _⟩ := id hM3
  have hr4 := hck.out _ hB _ hM3
  rw [← HEE.out.1] at hr4
  replace hr4 := Lib.hid hr4
  clear hb hM3 hck
  go_wp2_with fail
  refine hr4.out.mono ?_
  rintro e w4 ⟨⟨ev4, rfl, hf4⟩, hb⟩
  replace hB := below_step hB hb
  replace hC := below_step hC hb
  have HF4 := Lib.hid hf4
  clear hb hr4 hf4
  go_wp2_with fail
  refine (hcf.out _ hB).mono ?_
  rintro e w5 ⟨rfl, hb⟩
  replace hB := below_step hB hb
  replace hC := below_step hC hb
  have hft := hfC.out _ ev4 hB (HF4.out.below hb)
  replace hft := Lib.hid hft
  clear hb hcf hfC HF4
  go_wp2_with fail
  refine hft.out.mono ?_
  rintro e w6 ⟨rfl, hb⟩
  replace hB := below_step hB hb
  replace hC := below_step hC hb
  clear hb hft
  go_wp2_with fail
  refine (hom2.out _ hB).mono ?_
  rintro e w7 ⟨⟨v7, rfl, hM7, _⟩, hb⟩
  replace hB := below_step hB hb
  replace hC := below_step hC hb
  obtain ⟨a7, n7, c7, _, _, rfl, _⟩ := id hM7
  have hr8 := hbd.out oa on oc _ _ _ _ _ _ _ HOL.out _ hB (HO.out.below hC) _ hM7
  rw [← HOL.out, ← HEE.out.2.1] at hr8
  replace hr8 := Lib.hid hr8
  clear hb hM7 hbd
  go_wp2_with fail
  refine hr8.out.mono ?_
  rintro e w8 ⟨⟨x8, ev8, rfl, hf8, hx8, hn8⟩, hb⟩
  replace hB := below_step hB hb
  replace hC := below_step hC hb
  have HF8 := Lib.hid hf8
  have HX8 := Lib.hid (And.intro hx8 hn8)
  clear hb hr8 hf8 hx8 hn8
  go_wp2_with fail
  refine (hbo.out _ hB).mono ?_
  rintro e w9 ⟨⟨x9, rfl, hx9, hn9⟩, hb⟩
  have hBB : ∃ N Y, N ≤ 100 ∧ BlsAt w9 x8 N Y ∧ BlsAt w9 x9 N Y := by
    by_cases h0 : bc = 0
    · obtain ⟨N, Y, hN, h⟩ := bools_both ((HX8.out.1 h0).below hb) (hx9 h0)
      have hR : RightI l := rightI_of (by
        have h1 := HEE.out.2.1
        rw [h0] at h1
        have h2 := congrArg Prod.fst h1.symm
        unfold badErr at h2
        exact (orE_zero.1 h2).1)
      exact ⟨N, Y, by rw [hN]; exact hR.len, h⟩
    · rw [HX8.out.2 h0, hn9 h0]
      exact ⟨0, fun _ => false, by omega, BlsAt.nil _ _, BlsAt.nil _ _⟩
  obtain ⟨N, Y, hN100, hy8, hy9⟩ := hBB
  obtain ⟨a8, c8, rfl, h8⟩ := hy8.cells2
  obtain ⟨a9, c9, rfl, h9⟩ := hy9.cells2
  have hba := below_alloc w9 (.cells #[.int .i64 (bc : Nat), .int .i64 ba] 46)
  have hz := box2_alloc w9 (.int .i64 (bc : Nat)) (.int .i64 ba) 46
  have HX9 : Hid (∀ W, Below (w9.alloc (.cells #[.int .i64 (bc : Nat), .int .i64 ba] 46)).heap.size (w9.alloc (.cells #[.int .i64 (bc : Nat), .int .i64 ba] 46)) W → ∀ j, j < N → (∃ b o, a8 = some ⟨b, o, none⟩ ∧ W.cell? ⟨b, o + j, none⟩ = some (.bool (Y j))) ∧ ∃ b o, a9 = some ⟨b, o, none⟩ ∧ W.cell? ⟨b, o + j, none⟩ = some (.bool (Y j))) := Lib.hid (fun W hW j hj => ⟨h8 W (below_step hba hW) j hj, h9 W (below_step hba hW) j hj⟩)
  replace hC := below_step hC hb
  have hs5 := hC.size
  have hsb5 := (below_step hB hb).size
  replace hb := below_step hb hba
  replace hC := below_step hC hba
  replace hB := below_step hB hb
  have hft := hfB.out _ ev8 hB (HF8.out.below hb)
  replace hft := Lib.hid hft
  clear hb hba hbo hfB HF8 HX8 hx9 hn9 h8 h9 hy8 hy9
  obtain ⟨z0, z1, zf⟩ := id hz
  go_wp2_with fail
  generalize w9.alloc (.cells #[.int .i64 (bc : Nat), .int .i64 ba] 46) = w10 at *
  generalize w9.heap.size = bf at *
  refine hft.out.mono ?_
  rintro e w11 ⟨rfl, hb⟩
  replace hB := below_step hB hb
  replace hC := below_step hC hb
  replace hz := hz.below hb
  have hD := hb
  clear hb hft z0 z1 zf
  go_wp2_with fail
  go_loopw [13] (fun x wr => ∃ k : Nat, k ≤ N ∧ x = .int .i64 k ∧ Below w11.heap.size w11 wr) (fun x _ => N - (intOf x).toNat)
  case atStart => exact ⟨0, Nat.zero_le _, rfl, Below.refl _ _⟩
  case round =>
    obtain ⟨k, hk, rfl, hBr⟩ := hrel
    by_cases hlt : k < N
    · have hkn : (k : Int) < (N : Int) := by omega
      obtain ⟨⟨b1, o1, e1, d0⟩, ⟨b2, o2, e2, d1⟩⟩ := HX9.out wr (below_step hD hBr) k hlt
      subst e1
      subst e2
      generalize Y k = yk at *
      cases yk
      all_goals
        go_wp2_with fail
        have kqd0 := fun d os => cell_patch (d := d) (os := os) d0
        have kqd1 := fun d os => cell_patch (d := d) (os := os) d1
        refine wp_region_quiet_patch (by kernel_rfl) (by kernel_rfl) ?_
        repeat (go_big_quiet_step (fail))
        refine wpQuiet_nil ?_
        intro _ hw'
        obtain ⟨⟨dq, osq⟩, hw''⟩ := hw'
        subst hw''
        clear kqd0 kqd1
        have hb := below_patch wr dq osq
        replace hBr := below_step hBr hb
        clear hb
        generalize patch wr dq osq = wq at hBr ⊢
        go_wp2_with fail
        go_roundw
        case rel => exact ⟨k + 1, by omega, by go_num, hBr⟩
        case measure => simp [intOf]; omega
    · have hkn : ¬ (k : Int) < (N : Int) := by omega
      replace hB := below_step hB hBr
      replace hC := below_step hC hBr
      replace hz := hz.below hBr
      clear hlt hk hBr hD HX9
      go_wp2_with fail
      clear hkn
      generalize wr = w12 at *
      refine (hom1.out _ hB).mono ?_
      rintro e w13 ⟨⟨v13, rfl, hM13, _⟩, hb⟩
      replace hB := below_step hB hb
      replace hC := below_step hC hb
      replace hz := hz.below hb
      obtain ⟨a13, n13, c13, _, _, rfl, _⟩ := id hM13
      have HM13 := Lib.hid hM13
      clear hb hM13
      go_wp2_with fail
      refine (hom2.out _ hB).mono ?_
      rintro e w14 ⟨⟨v14, rfl, hM14, _⟩, hb⟩
      replace hB := below_step hB hb
      replace hC := below_step hC hb
      replace hz := hz.below hb
      obtain ⟨a14, n14, c14, _, _, rfl, _⟩ := id hM14
      have hs15 := hto.out oa on oc _ _ _ _ _ _ _ HOL.out _ hB (HO.out.below hC) _ _ (HM13.out.below hb) hM14
      rw [← HOL.out, ← HEE.out.2.2] at hs15
      replace hs15 := Lib.hid hs15
      clear hb hM14 HM13 hom1 hom2 hto
      go_wp2_with fail
      refine hs15.out.mono ?_
      rintro e w15 ⟨⟨x15, ev15, rfl, hf15, hx15, hn15⟩, hb⟩
      replace hB := below_step hB hb
      replace hC := below_step hC hb
      replace hz := hz.below hb
      have hT15 : ∃ T, ModsAt w15 x15 T ∧ (tc = 0 → ToP l Bm Am T) ∧ (tc ≠ 0 → T = []) := by
        by_cases h0 : tc = 0
        · obtain ⟨T, h3, h4⟩ := hx15 h0
          exact ⟨T, h3, fun _ => h4, fun h => absurd h0 h⟩
        · rw [hn15 h0]
          exact ⟨[], ModsAt.nil _, fun h => absurd h h0, fun _ => rfl⟩
      obtain ⟨T15, hx15, hT15⟩ := hT15
      obtain ⟨a15, n15, c15, _, _, rfl, _⟩ := id hx15
      have HT15 := Lib.hid (And.intro hx15 hT15)
      have HF15 := Lib.hid hf15
      clear hb hs15 hf15 hx15 hT15 hn15
      go_wp2_with fail
      obtain ⟨z0, z1, zf⟩ := id hz
      refine (htf.out _ hB).mono ?_
      rintro e w16 ⟨⟨x16, T16, rfl, hx16, hn16, hu16⟩, hb⟩
      replace hz := hz.below hb
      replace hB := below_step hB hb
      replace hC := below_step hC hb
      have hsb := hB.size
      have hTT : T15 = T16 := by
        by_cases h0 : tc = 0
        · exact hu16 h0 _ (HT15.out.2.1 h0)
        · rw [hn16 h0, HT15.out.2.2 h0]
      subst hTT
      have hf16 := HF15.out.below hb
      have hx17 := HT15.out.1.below hb
      clear z0 z1 zf hb
      obtain ⟨z0, z1, zf⟩ := id hz
      obtain ⟨a16, n16, c16, _, _, rfl, _⟩ := id hx16
      have hx18 := hx16.flt hz (.int .i64 (tc : Nat)) (.int .i64 ta)
      replace hx17 := hx17.flt hz (.int .i64 (tc : Nat)) (.int .i64 ta)
      have hf18 := hf16.flt hz (.int .i64 (tc : Nat)) (.int .i64 ta)
      replace hz := hz.sto (.int .i64 (tc : Nat)) (.int .i64 ta)
      replace hB := below_sto2 hB (b := bf) (by omega) (.int .i64 (tc : Nat)) (.int .i64 ta)
      have hft := hfT.out _ _ hB hf18
      obtain ⟨q0, q1, qf⟩ := id hz
      have HXX := Lib.hid (And.intro hx17 hx18)
      replace hft := Lib.hid hft
      clear hx16 hx17 hx18 hf16 hf18 htf HT15 HF15 hn16 hu16 hfT hC hz
      go_wp2_with fail
      generalize (w16.setCell ⟨bf, 0, none⟩ (.int .i64 (tc : Nat))).setCell ⟨bf, 1, none⟩ (.int .i64 ta) = w17 at *
      clear z0 z1 zf
      refine hft.out.mono ?_
      rintro e w18 ⟨rfl, hb⟩
      replace hB := below_step hB hb
      have hsm := sameMods_calls _ _ _ _ _ (HXX.out.1.below hb) (HXX.out.2.below hb)
      rw [decide_eq_true rfl] at hsm
      replace hsm := Lib.hid hsm
      clear hb hft q0 q1 qf HXX
      go_wp2_with fail
      refine hsm.out.mono ?_
      rintro e w19 ⟨rfl, hb⟩
      replace hB := below_step hB hb
      clear hb hsm
      go_wp2_with fail
      go_ret
      exact ⟨rfl, hB⟩
set_option maxHeartbeats 4000000 in
theorem downTells_calls (ks : List Nat) (A : Nat → Addr) (hks : IdxKs ks) (lv av bv : Value) (l : List En) (Am Bm : List Md) (w : World) (hE : EnvP ks A w) (hC : EnvC A w) (hl : EntsAt w lv l) (ha : ModsAt w av Am) (hb : ModsAt w bv Bm) :
    Calls Tryz.prog 8 #[lv, av, bv] w fun e w' => e = .returned (.bool true) ∧ Below w.heap.size w w' := by
  obtain ⟨la, ln, lc, P, V, R, K, Bk, Rv, Kv, rfl, rfl, hin⟩ := hl
  have H : DnArgs ks A la ln lc P V R K Bk Rv Kv av bv Am Bm w := ⟨hks, hE, hin, ha, hb⟩
  cases h1 : longIdx (enF ln P V R K Bk)
  · by_cases h2 : ln ≤ 30
    · by_cases h3 : longMods Am 15 = false ∧ longMods Bm 15 = false
      · exact downTells_main ks A la ln lc P V R K Bk Rv Kv av bv Am Bm w H hC h1 h2 h3.1 h3.2
      · exact downTells_long ks A la ln lc P V R K Bk Rv Kv av bv Am Bm w H (.inr ⟨h1, .inr ⟨h2, h3⟩⟩)
    · exact downTells_long ks A la ln lc P V R K Bk Rv Kv av bv Am Bm w H (.inr ⟨h1, .inl (by omega)⟩)
  · exact downTells_long ks A la ln lc P V R K Bk Rv Kv av bv Am Bm w H (.inl h1)
end Go.Proofs.Pw
