/- Nq: walks and plain laws, joined: LongIdx LongMath UpNewsL Env EnvP Open OpenE Law Facts. Conditions: at each theorem. -/
import Derived.Test.YtnkcobdgaldkfaaGreatDoorMpb
import Derived.Test.YtnkcobdgaldkfaaGreatDoorNqa
import Derived.Test.YtnkcobdgaldkfaaGreatDoorMpc
import Derived.Deep.RegionHeld2
import Derived.Test.YtnkcobdgaldkfaaGreatDoorMpa
import Derived.Stop.LaidErr
import Derived.LaidHandle
import Derived.SliceStrings
import Derived.Deep.Slices
import Derived.Deep.Fields
import Derived.ChangeArms
import Derived.ProofKit
import Derived.LaidMore
import Derived.Lay
import Derived.OpenShut
import Derived.SevenTiedAt
import Derived.Stop.Joined
import Derived.HandedShaped
import Derived.Test.YtnkcobdgaldkfaaGreatDoorRows

/- LongIndex of the statements. -/
namespace Go.Proofs.Pw
open Go.RowKit
open Go.Lib hiding intOf

def longEn (e : En) : Bool := decide (70 < e.md.1.length) || (decide (60 < e.md.2.length) || (longMods e.reqs 25 || (decide (15 < e.packs.length) || e.packs.any fun s => decide (70 < s.length))))
def longIdx (l : List En) : Bool := decide (30 < l.length ∧ l.length ≠ 101) || l.any longEn
def longII (l : List En) : Int := if longIdx l = true then 1 else 0
theorem longIdx_hit {l : List En} {k : Nat} (hk : k < l.length) (h : longEn (enAt l k) = true) : longII l = 1 := by
  unfold longII longIdx
  rw [if_pos]
  rw [Bool.or_eq_true]
  exact .inr (List.any_eq_true.2 ⟨_, enAt_mem hk, h⟩)
theorem longIdx_none {l : List En} (h0 : ¬ (30 < l.length ∧ l.length ≠ 101)) (h : ∀ j, j < l.length → longEn (enAt l j) = false) : longII l = 0 := by
  unfold longII longIdx
  rw [if_neg]
  rw [Bool.or_eq_true]
  rintro (h1 | h1)
  · exact h0 (of_decide_eq_true h1)
  · obtain ⟨e, he, h2⟩ := List.any_eq_true.1 h1
    obtain ⟨i, hi⟩ := List.getElem?_of_mem he
    have hl := (List.getElem?_eq_some_iff.1 hi).1
    rw [enAt_get hl] at hi
    rw [← Option.some.inj hi, h i hl] at h2
    cases h2


set_option maxHeartbeats 4000000 in
set_option maxRecDepth 100000 in
theorem longIndex_in (a : Option Addr) (n cap : Nat) (P V : Nat → ByteArray) (R : Nat → List Md) (K : Nat → List Str) (Bk : Nat → Bool) (Rv Kv : Nat → Value) (w : World) (h : EntsIn w a n cap P V R K Bk Rv Kv) :
    Calls Tryz.prog 12 #[.slice a n cap] w fun e w' => e = .returned (.int .i64 (longII (enF n P V R K Bk))) ∧ w = w' := by
  have hcap := h.cap
  have hle := h.le
  have H := Lib.hid h
  clear h
  by_cases h30 : 30 < n ∧ n ≠ 101
  · have HF : Hid (longII (enF n P V R K Bk) = 1) := Lib.hid (by
      unfold longII longIdx
      rw [if_pos]
      rw [Bool.or_eq_true, enF_length]
      exact .inl (decide_eq_true h30))
    have h1 : (30 : Int) < (n : Int) := by omega
    have h2 : ((n : Int) != 101) = true := bne_iff_ne.2 (by omega)
    have h3 : ((n : Int) == 101) = false := beq_eq_false_iff_ne.2 (by omega)
    clear h30
    go_enter Tryz.func12, Tryz.ntmps12
    go_wp2_with fail
    go_ret
    rw [HF.out]
    exact ⟨rfl, rfl⟩
  · have hn101 : n ≤ 101 := by omega
    by_cases h31 : n = 101
    · have h1 : (30 : Int) < (n : Int) := by omega
      have h2 : ((n : Int) != 101) = false := by subst h31; rfl
      have h3 : ((n : Int) == 101) = true := by subst h31; rfl
      clear h31
      go_enter Tryz.func12, Tryz.ntmps12
      go_wp2_with fail
      go_loop [3] (fun i => ∃ k : Nat, k ≤ n ∧ i = .int .i64 k ∧ Hid (∀ j, j < k → longEn (enAt (enF n P V R K Bk) j) = false)) (fun i => n - (intOf i).toNat)
      case atStart => exact ⟨0, Nat.zero_le _, rfl, Lib.hid (fun j hj => absurd hj (Nat.not_lt_zero _))⟩
      case round =>
        obtain ⟨k, hk, rfl, HA⟩ := hrel
        by_cases hlt : k < n
        · have hkn : (k : Int) < (n : Int) := by omega
          obtain ⟨b1, o1, ea, hcell⟩ := H.out.at_ k hlt
          have hM := H.out.reqs k hlt
          obtain ⟨aK, nK, cK, LK, eK, eKl, _, _, hKc⟩ := H.out.packs k hlt
          obtain ⟨aM, nM, cM, _, _, eM, _⟩ := id hM
          rw [eM, eK] at hcell
          rw [eM] at hM
          have hlm := longMods_calls (.slice aM nM cM) (R k) 25 w hM
          have hEn : longEn (enAt (enF n P V R K Bk) k) = (decide (70 < (P k).size) || (decide (60 < (V k).size) || (longMods (R k) 25 || (decide (15 < nK) || (lstF nK LK).any fun s => decide (70 < s.length))))) := by
            rw [enAt_enF hlt]
            unfold longEn
            simp only [← size_eq, eKl, lstF_length]
          have hhit : longEn (enAt (enF n P V R K Bk) k) = true → longII (enF n P V R K Bk) = 1 := longIdx_hit (by rw [enF_length]; exact hlt)
          subst ea
          obtain ⟨d0, d1, d2, d3, d4⟩ := hcell
          replace hhit := Lib.hid hhit
          replace hEn := Lib.hid hEn
          replace hlm := Lib.hid hlm
          replace hKc := Lib.hid hKc
          clear hM eM eK eKl
          by_cases c1 : 70 < (P k).size
          · have HF : Hid (longII (enF n P V R K Bk) = 1) := Lib.hid (hhit.out (by rw [hEn.out, decide_eq_true c1]; rfl))
            have c1' : (70 : Int) < ((P k).size : Int) := by omega
            go_wp2_with fail
            go_ret
            rw [HF.out]
            exact ⟨rfl, rfl⟩
          · have c1' : ¬ (70 : Int) < ((P k).size : Int) := by omega
            by_cases c2 : 60 < (V k).size
            · have HF : Hid (longII (enF n P V R K Bk) = 1) := Lib.hid (hhit.out (by rw [hEn.out, decide_eq_false c1, decide_eq_true c2]; rfl))
              have c2' : (60 : Int) < ((V k).size : Int) := by omega
              go_wp2_with fail
              go_ret
              rw [HF.out]
              exact ⟨rfl, rfl⟩
            · have c2' : ¬ (60 : Int) < ((V k).size : Int) := by omega
              cases c3 : longMods (R k) 25 with
              | true =>
                have HF : Hid (longII (enF n P V R K Bk) = 1) := Lib.hid (hhit.out (by rw [hEn.out, decide_eq_false c1, decide_eq_false c2, c3]; rfl))
                rw [longI_yes c3] at hlm
                clear c3
                go_wp2_with fail
                refine hlm.out.mono ?_
                rintro e w' ⟨rfl, rfl⟩
                go_wp2_with fail
                go_ret
                rw [HF.out]
                exact ⟨rfl, rfl⟩
              | false =>
                rw [longI_no c3] at hlm
                by_cases c4 : 15 < nK
                · have HF : Hid (longII (enF n P V R K Bk) = 1) := Lib.hid (hhit.out (by rw [hEn.out, decide_eq_false c1, decide_eq_false c2, c3, decide_eq_true c4]; rfl))
                  have c4' : (15 : Int) < (nK : Int) := by omega
                  clear c3
                  go_wp2_with fail
                  refine hlm.out.mono ?_
                  rintro e w' ⟨rfl, rfl⟩
                  go_wp2_with fail
                  go_ret
                  rw [HF.out]
                  exact ⟨rfl, rfl⟩
                · have c4' : ¬ (15 : Int) < (nK : Int) := by omega
                  have HE2 : Hid (longEn (enAt (enF n P V R K Bk) k) = (lstF nK LK).any fun s => decide (70 < s.length)) := Lib.hid (by rw [hEn.out, decide_eq_false c1, decide_eq_false c2, c3, decide_eq_false c4]; rfl)
                  clear c3
                  go_wp2_with fail
                  refine hlm.out.mono ?_
                  rintro e w' ⟨rfl, rfl⟩
                  go_wp2_with fail
                  go_loop [4] (fun i => ∃ q : Nat, q ≤ nK ∧ i = .int .i64 q ∧ Hid (∀ j, j < q → ¬ 70 < (LK j).size)) (fun i => nK - (intOf i).toNat)
                  case atStart => exact ⟨0, Nat.zero_le _, rfl, Lib.hid (fun j hj => absurd hj (Nat.not_lt_zero _))⟩
                  case round =>
                    obtain ⟨q, hq, rfl, HA2⟩ := hrel
                    by_cases hq2 : q < nK
                    · have hqn : (q : Int) < (nK : Int) := by omega
                      obtain ⟨b2, o2, ek, r0⟩ := hKc.out q hq2
                      subst ek
                      by_cases c5 : 70 < (LK q).size
                      · have HF : Hid (longII (enF n P V R K Bk) = 1) := Lib.hid (hhit.out (by
                          rw [HE2.out, List.any_eq_true]
                          refine ⟨_, List.mem_of_getElem? (show (lstF nK LK)[q]? = some (LK q).data.toList by simp [lstF, hq2]), ?_⟩
                          rw [← size_eq]; exact decide_eq_true c5))
                        have c5' : (70 : Int) < ((LK q).size : Int) := by omega
                        go_wp2_with fail
                        go_ret
                        rw [HF.out]
                        exact ⟨rfl, rfl⟩
                      · have c5' : ¬ (70 : Int) < ((LK q).size : Int) := by omega
                        have HN : Hid (∀ j, j < q + 1 → ¬ 70 < (LK j).size) := Lib.hid (fun j hj => by
                          by_cases e : j = q
                          · subst e; exact c5
                          · exact HA2.out j (by omega))
                        go_wp2_with fail
                        go_round
                        case rel => exact ⟨q + 1, by omega, by go_num, HN⟩
                        case measure => simp [intOf]; omega
                    · obtain rfl : nK = q := by omega
                      have HN : Hid (∀ j, j < k + 1 → longEn (enAt (enF n P V R K Bk) j) = false) := Lib.hid (fun j hj => by
                        by_cases e : j = k
                        · subst e
                          rw [HE2.out, List.any_eq_false]
                          intro s hs
                          obtain ⟨i, hi⟩ := List.getElem?_of_mem hs
                          have hil : i < nK := by have := (List.getElem?_eq_some_iff.1 hi).1; simpa [lstF] using this
                          have : (lstF nK LK)[i]? = some (LK i).data.toList := by simp [lstF, hil]
                          rw [this] at hi
                          rw [← Option.some.inj hi, ← size_eq]
                          have := HA2.out i hil
                          simpa using this
                        · exact HA.out j (by omega))
                      go_wp2_with fail
                      go_round
                      case rel => exact ⟨k + 1, by omega, by go_num, HN⟩
                      case measure => simp [intOf]; omega
        · obtain rfl : n = k := by omega
          have HF : Hid (longII (enF n P V R K Bk) = 0) := Lib.hid (longIdx_none (by rw [enF_length]; exact h30) (by rw [enF_length]; exact HA.out))
          go_wp2_with fail
          go_ret
          rw [HF.out]
          exact ⟨rfl, rfl⟩
    · have h1 : ¬ (30 : Int) < (n : Int) := by omega
      clear h31
      go_enter Tryz.func12, Tryz.ntmps12
      go_wp2_with fail
      go_loop [3] (fun i => ∃ k : Nat, k ≤ n ∧ i = .int .i64 k ∧ Hid (∀ j, j < k → longEn (enAt (enF n P V R K Bk) j) = false)) (fun i => n - (intOf i).toNat)
      case atStart => exact ⟨0, Nat.zero_le _, rfl, Lib.hid (fun j hj => absurd hj (Nat.not_lt_zero _))⟩
      case round =>
        obtain ⟨k, hk, rfl, HA⟩ := hrel
        by_cases hlt : k < n
        · have hkn : (k : Int) < (n : Int) := by omega
          obtain ⟨b1, o1, ea, hcell⟩ := H.out.at_ k hlt
          have hM := H.out.reqs k hlt
          obtain ⟨aK, nK, cK, LK, eK, eKl, _, _, hKc⟩ := H.out.packs k hlt
          obtain ⟨aM, nM, cM, _, _, eM, _⟩ := id hM
          rw [eM, eK] at hcell
          rw [eM] at hM
          have hlm := longMods_calls (.slice aM nM cM) (R k) 25 w hM
          have hEn : longEn (enAt (enF n P V R K Bk) k) = (decide (70 < (P k).size) || (decide (60 < (V k).size) || (longMods (R k) 25 || (decide (15 < nK) || (lstF nK LK).any fun s => decide (70 < s.length))))) := by
            rw [enAt_enF hlt]
            unfold longEn
            simp only [← size_eq, eKl, lstF_length]
          have hhit : longEn (enAt (enF n P V R K Bk) k) = true → longII (enF n P V R K Bk) = 1 := longIdx_hit (by rw [enF_length]; exact hlt)
          subst ea
          obtain ⟨d0, d1, d2, d3, d4⟩ := hcell
          replace hhit := Lib.hid hhit
          replace hEn := Lib.hid hEn
          replace hlm := Lib.hid hlm
          replace hKc := Lib.hid hKc
          clear hM eM eK eKl
          by_cases c1 : 70 < (P k).size
          · have HF : Hid (longII (enF n P V R K Bk) = 1) := Lib.hid (hhit.out (by rw [hEn.out, decide_eq_true c1]; rfl))
            have c1' : (70 : Int) < ((P k).size : Int) := by omega
            go_wp2_with fail
            go_ret
            rw [HF.out]
            exact ⟨rfl, rfl⟩
          · have c1' : ¬ (70 : Int) < ((P k).size : Int) := by omega
            by_cases c2 : 60 < (V k).size
            · have HF : Hid (longII (enF n P V R K Bk) = 1) := Lib.hid (hhit.out (by rw [hEn.out, decide_eq_false c1, decide_eq_true c2]; rfl))
              have c2' : (60 : Int) < ((V k).size : Int) := by omega
              go_wp2_with fail
              go_ret
              rw [HF.out]
              exact ⟨rfl, rfl⟩
            · have c2' : ¬ (60 : Int) < ((V k).size : Int) := by omega
              cases c3 : longMods (R k) 25 with
              | true =>
                have HF : Hid (longII (enF n P V R K Bk) = 1) := Lib.hid (hhit.out (by rw [hEn.out, decide_eq_false c1, decide_eq_false c2, c3]; rfl))
                rw [longI_yes c3] at hlm
                clear c3
                go_wp2_with fail
                refine hlm.out.mono ?_
                rintro e w' ⟨rfl, rfl⟩
                go_wp2_with fail
                go_ret
                rw [HF.out]
                exact ⟨rfl, rfl⟩
              | false =>
                rw [longI_no c3] at hlm
                by_cases c4 : 15 < nK
                · have HF : Hid (longII (enF n P V R K Bk) = 1) := Lib.hid (hhit.out (by rw [hEn.out, decide_eq_false c1, decide_eq_false c2, c3, decide_eq_true c4]; rfl))
                  have c4' : (15 : Int) < (nK : Int) := by omega
                  clear c3
                  go_wp2_with fail
                  refine hlm.out.mono ?_
                  rintro e w' ⟨rfl, rfl⟩
                  go_wp2_with fail
                  go_ret
                  rw [HF.out]
                  exact ⟨rfl, rfl⟩
                · have c4' : ¬ (15 : Int) < (nK : Int) := by omega
                  have HE2 : Hid (longEn (enAt (enF n P V R K Bk) k) = (lstF nK LK).any fun s => decide (70 < s.length)) := Lib.hid (by rw [hEn.out, decide_eq_false c1, decide_eq_false c2, c3, decide_eq_false c4]; rfl)
                  clear c3
                  go_wp2_with fail
                  refine hlm.out.mono ?_
                  rintro e w' ⟨rfl, rfl⟩
                  go_wp2_with fail
                  go_loop [4] (fun i => ∃ q : Nat, q ≤ nK ∧ i = .int .i64 q ∧ Hid (∀ j, j < q → ¬ 70 < (LK j).size)) (fun i => nK - (intOf i).toNat)
                  case atStart => exact ⟨0, Nat.zero_le _, rfl, Lib.hid (fun j hj => absurd hj (Nat.not_lt_zero _))⟩
                  case round =>
                    obtain ⟨q, hq, rfl, HA2⟩ := hrel
                    by_cases hq2 : q < nK
                    · have hqn : (q : Int) < (nK : Int) := by omega
                      obtain ⟨b2, o2, ek, r0⟩ := hKc.out q hq2
                      subst ek
                      by_cases c5 : 70 < (LK q).size
                      · have HF : Hid (longII (enF n P V R K Bk) = 1) := Lib.hid (hhit.out (by
                          rw [HE2.out, List.any_eq_true]
                          refine ⟨_, List.mem_of_getElem? (show (lstF nK LK)[q]? = some (LK q).data.toList by simp [lstF, hq2]), ?_⟩
                          rw [← size_eq]; exact decide_eq_true c5))
                        have c5' : (70 : Int) < ((LK q).size : Int) := by omega
                        go_wp2_with fail
                        go_ret
                        rw [HF.out]
                        exact ⟨rfl, rfl⟩
                      · have c5' : ¬ (70 : Int) < ((LK q).size : Int) := by omega
                        have HN : Hid (∀ j, j < q + 1 → ¬ 70 < (LK j).size) := Lib.hid (fun j hj => by
                          by_cases e : j = q
                          · subst e; exact c5
                          · exact HA2.out j (by omega))
                        go_wp2_with fail
                        go_round
                        case rel => exact ⟨q + 1, by omega, by go_num, HN⟩
                        case measure => simp [intOf]; omega
                    · obtain rfl : nK = q := by omega
                      have HN : Hid (∀ j, j < k + 1 → longEn (enAt (enF n P V R K Bk) j) = false) := Lib.hid (fun j hj => by
                        by_cases e : j = k
                        · subst e
                          rw [HE2.out, List.any_eq_false]
                          intro s hs
                          obtain ⟨i, hi⟩ := List.getElem?_of_mem hs
                          have hil : i < nK := by have := (List.getElem?_eq_some_iff.1 hi).1; simpa [lstF] using this
                          have : (lstF nK LK)[i]? = some (LK i).data.toList := by simp [lstF, hil]
                          rw [this] at hi
                          rw [← Option.some.inj hi, ← size_eq]
                          have := HA2.out i hil
                          simpa using this
                        · exact HA.out j (by omega))
                      go_wp2_with fail
                      go_round
                      case rel => exact ⟨k + 1, by omega, by go_num, HN⟩
                      case measure => simp [intOf]; omega
        · obtain rfl : n = k := by omega
          have HF : Hid (longII (enF n P V R K Bk) = 0) := Lib.hid (longIdx_none (by rw [enF_length]; exact h30) (by rw [enF_length]; exact HA.out))
          go_wp2_with fail
          go_ret
          rw [HF.out]
          exact ⟨rfl, rfl⟩
theorem longIndex_calls (v : Value) (l : List En) (w : World) (h : EntsAt w v l) :
    Calls Tryz.prog 12 #[v] w fun e w' => e = .returned (.int .i64 (longII l)) ∧ w = w' := by
  obtain ⟨a, n, cap, P, V, R, K, B, Rv, Kv, rfl, rfl, hin⟩ := h
  exact longIndex_in a n cap P V R K B Rv Kv w hin
end Go.Proofs.Pw

/- What is not too long for a statement is short. No program in sight. -/
namespace Go.Proofs.Pw
open Go.Lib hiding intOf

/-! ### no program in sight -/
theorem longMods_small {l : List Md} {k : Nat} (h : longMods l k = false) : l.length ≤ k ∧ ∀ m ∈ l, m.1.length ≤ 70 ∧ m.2.length ≤ 60 := by
  unfold longMods at h
  rw [Bool.or_eq_false_iff] at h
  refine ⟨by have := of_decide_eq_false h.1; omega, fun m hm => ?_⟩
  have h2 := List.any_eq_false.1 h.2 m hm
  simp only [Bool.or_eq_true, decide_eq_true_eq] at h2
  omega
theorem longEn_small {e : En} (h : longEn e = false) : e.md.1.length ≤ 70 ∧ e.md.2.length ≤ 60 ∧ longMods e.reqs 25 = false ∧ e.packs.length ≤ 15 ∧ ∀ s ∈ e.packs, s.length ≤ 70 := by
  unfold longEn at h
  rw [Bool.or_eq_false_iff, Bool.or_eq_false_iff, Bool.or_eq_false_iff, Bool.or_eq_false_iff] at h
  obtain ⟨h1, h2, h3, h4, h5⟩ := h
  refine ⟨by have := of_decide_eq_false h1; omega, by have := of_decide_eq_false h2; omega, h3, by have := of_decide_eq_false h4; omega, fun s hs => ?_⟩
  have := List.any_eq_false.1 h5 s hs
  simp only [decide_eq_true_eq] at this
  omega
theorem longIdx_small {l : List En} (h : longIdx l = false) : l.length ≤ 101 ∧ ∀ e ∈ l, longEn e = false := by
  unfold longIdx at h
  rw [Bool.or_eq_false_iff] at h
  refine ⟨by have := of_decide_eq_false h.1; omega, fun e he => ?_⟩
  have := List.any_eq_false.1 h.2 e he
  simpa using this
theorem longIdx_short {l : List En} (h : longIdx l = false) : ShortI l := by
  obtain ⟨h1, h2⟩ := longIdx_small h
  refine ⟨by omega, fun e he => ?_, fun e he => ?_, fun e he => ?_⟩
  · have := longEn_small (h2 e he); omega
  · have h3 := longMods_small (longEn_small (h2 e he)).2.2.1
    exact ⟨by omega, fun m hm => by have := h3.2 m hm; omega⟩
  · have h3 := longEn_small (h2 e he)
    exact ⟨by omega, fun s hs => by have := h3.2.2.2.2 s hs; omega⟩
theorem longII_no {l : List En} (h : longIdx l = false) : longII l = 0 := by unfold longII; rw [h]; rfl
theorem longII_yes {l : List En} (h : longIdx l = true) : longII l = 1 := by unfold longII; rw [h]; rfl
theorem any_md {l : List Md} {m : Md} : (l.any fun x => decide (x = m)) = decide (m ∈ l) := by
  rw [Bool.eq_iff_iff, List.any_eq_true, decide_eq_true_iff]
  constructor
  · rintro ⟨x, hx, h⟩
    rw [← of_decide_eq_true h]; exact hx
  · intro h
    exact ⟨m, h, decide_eq_true rfl⟩
end Go.Proofs.Pw

/- UpNews: its walk. -/
namespace Go.Proofs.Pw
open Go.RowKit
open Go.Lib hiding intOf

/-- what is shared by the walks -/
structure UnArgs (ks : List Nat) (A : Nat → Addr) (la : Option Addr) (ln lc : Nat) (P V : Nat → ByteArray) (R : Nat → List Md) (K : Nat → List Str) (Bk : Nat → Bool) (Rv Kv : Nat → Value) (av : Value) (Am : List Md) (w : World) : Prop where
  idx : IdxKs ks
  env : EnvP ks A w
  l : EntsIn w la ln lc P V R K Bk Rv Kv
  a : ModsAt w av Am

set_option maxHeartbeats 4000000 in
set_option maxRecDepth 100000 in
theorem upNewsL_long (ks : List Nat) (A : Nat → Addr) (la : Option Addr) (ln lc : Nat) (P V : Nat → ByteArray) (R : Nat → List Md) (K : Nat → List Str) (Bk : Nat → Bool) (Rv Kv : Nat → Value) (av : Value) (Am : List Md) (p v : ByteArray) (w : World) (H : UnArgs ks A la ln lc P V R K Bk Rv Kv av Am w)
    (hlong : longIdx (enF ln P V R K Bk) = true ∨ (longIdx (enF ln P V R K Bk) = false ∧ (longMods Am 15 = true ∨ (longMods Am 15 = false ∧ (70 < p.size ∨ (p.size ≤ 70 ∧ 60 < v.size)))))) :
    Calls Tryz.prog 6 #[.slice la ln lc, av, .agg #[.string p, .string v]] w fun e w' => e = .returned (.bool true) ∧ Below w.heap.size w w' := by
  obtain ⟨a1, n1, c1, _, _, rfl, _⟩ := id H.a
  have hB := below_alloc w (.cells #[.string p, .string v] 38)
  have hm := box2_alloc w (.string p) (.string v) 38
  have hre := upped_calls ks A H.idx _ (H.env.below hB)
  have hlx := fun (W : World) (hb : Below w.heap.size w W) => longIndex_in la ln lc P V R K Bk Rv Kv W (H.l.below hb)
  have hlm1 := fun (W : World) (hb : Below w.heap.size w W) => longMods_calls (.slice a1 n1 c1) Am 15 W (H.a.below hb)
  replace hre := Lib.hid hre
  replace hlx := Lib.hid hlx
  replace hlm1 := Lib.hid hlm1
  clear H
  rcases hlong with h1 | ⟨h1, h2 | ⟨h2, h3⟩⟩
  · rw [longII_yes h1] at hlx
    clear h1
    obtain ⟨z0, z1, zf⟩ := id hm
    go_enter Tryz.func6, Tryz.ntmps6
    go_wp2_with fail
    refine hre.out.mono ?_
    generalize hw0 : w.alloc (.cells #[.string p, .string v] 38) = w0 at *
    rintro e w1 ⟨rfl, hb⟩
    have hsw : w.heap.size < w1.heap.size := Nat.lt_of_lt_of_le (by rw [← hw0]; simp) hb.size
    clear hw0
    replace hB := below_step hB hb
    replace hm := hm.below hb
    clear hb hre z0 z1 zf
    obtain ⟨z0, z1, zf⟩ := id hm
    go_wp2_with fail
    refine (hlx.out _ hB).mono ?_
    rintro e w' ⟨rfl, rfl⟩
    go_wp2_with fail
    go_ret
    exact ⟨rfl, hB⟩
  · rw [longII_no h1] at hlx
    rw [longI_yes h2] at hlm1
    clear h1 h2
    obtain ⟨z0, z1, zf⟩ := id hm
    go_enter Tryz.func6, Tryz.ntmps6
    go_wp2_with fail
    refine hre.out.mono ?_
    generalize hw0 : w.alloc (.cells #[.string p, .string v] 38) = w0 at *
    rintro e w1 ⟨rfl, hb⟩
    have hsw : w.heap.size < w1.heap.size := Nat.lt_of_lt_of_le (by rw [← hw0]; simp) hb.size
    clear hw0
    replace hB := below_step hB hb
    replace hm := hm.below hb
    clear hb hre z0 z1 zf
    obtain ⟨z0, z1, zf⟩ := id hm
    go_wp2_with fail
    refine (hlx.out _ hB).mono ?_
    rintro e w' ⟨rfl, rfl⟩
    go_wp2_with fail
    refine (hlm1.out _ hB).mono ?_
    rintro e w' ⟨rfl, rfl⟩
    go_wp2_with fail
    go_ret
    exact ⟨rfl, hB⟩
  · rw [longII_no h1] at hlx
    rw [longI_no h2] at hlm1
    clear h1 h2
    rcases h3 with h4 | ⟨h4, h5⟩
    · have h4' : (70 : Int) < (p.size : Int) := by omega
      obtain ⟨z0, z1, zf⟩ := id hm
      go_enter Tryz.func6, Tryz.ntmps6
      go_wp2_with fail
      refine hre.out.mono ?_
      generalize hw0 : w.alloc (.cells #[.string p, .string v] 38) = w0 at *
      rintro e w1 ⟨rfl, hb⟩
      have hsw : w.heap.size < w1.heap.size := Nat.lt_of_lt_of_le (by rw [← hw0]; simp) hb.size
      clear hw0
      replace hB := below_step hB hb
      replace hm := hm.below hb
      clear hb hre z0 z1 zf
      obtain ⟨z0, z1, zf⟩ := id hm
      go_wp2_with fail
      refine (hlx.out _ hB).mono ?_
      rintro e w' ⟨rfl, rfl⟩
      go_wp2_with fail
      refine (hlm1.out _ hB).mono ?_
      rintro e w' ⟨rfl, rfl⟩
      go_wp2_with fail
      go_ret
      exact ⟨rfl, hB⟩
    · have h4' : ¬ (70 : Int) < (p.size : Int) := by omega
      have h5' : (60 : Int) < (v.size : Int) := by omega
      obtain ⟨z0, z1, zf⟩ := id hm
      go_enter Tryz.func6, Tryz.ntmps6
      go_wp2_with fail
      refine hre.out.mono ?_
      generalize hw0 : w.alloc (.cells #[.string p, .string v] 38) = w0 at *
      rintro e w1 ⟨rfl, hb⟩
      have hsw : w.heap.size < w1.heap.size := Nat.lt_of_lt_of_le (by rw [← hw0]; simp) hb.size
      clear hw0
      replace hB := below_step hB hb
      replace hm := hm.below hb
      clear hb hre z0 z1 zf
      obtain ⟨z0, z1, zf⟩ := id hm
      go_wp2_with fail
      refine (hlx.out _ hB).mono ?_
      rintro e w' ⟨rfl, rfl⟩
      go_wp2_with fail
      refine (hlm1.out _ hB).mono ?_
      rintro e w' ⟨rfl, rfl⟩
      go_wp2_with fail
      go_ret
      exact ⟨rfl, hB⟩

theorem nilOf {A : Nat → Addr} {w : World} {v : Value} (h : FaultAt A w v (0, -1)) : v = .nilIface := by
  rcases fault_form h with ⟨_, h⟩ | ⟨h, _⟩
  · exact h
  · exact absurd rfl h
/-- what is asked of package up, of roots that are right -/
structure UnFacts (l : List En) (Am : List Md) (m : Md) (X Y : List Md) : Prop where
  bR : buildR l Am = X
  aR : allR l Am = Y
  se : startErr l Am = (0, -1)
  over : underB X Y = true
  ne : newsErr l Y = (0, -1)
  nr : newsR l Y = []
  se2 : startErr l Y = (0, -1)
  again : allR l Y = Y
  lenX : X.length ≤ 100
  lenY : Y.length ≤ 100
  one : (oneErr l Am m).1 ≠ 0 → findE l m < 0
  oneS : (oneErr l Am m).1 = 0 → underB X (oneR l Am m) = true ∧ underB [m] (oneR l Am m) = true ∧ (oneR l Am m).length ≤ 100
  memX : ∀ x ∈ X, ∃ e ∈ l, e.md = x
  memY : ∀ x ∈ Y, ∃ e ∈ l, e.md = x
  memO : ∀ x ∈ oneR l Am m, ∃ e ∈ l, e.md = x
theorem unFacts {l : List En} {Am : List Md} (m : Md) (h0 : (startErr l Am).1 = 0) : UnFacts l Am m (buildR l Am) (allR l Am) := by
  have hG := rightG_of h0
  have hb : buildR l Am = buildL l Am := by unfold buildR; rw [if_pos h0]
  have ha : allR l Am = allL l Am := by unfold allR; rw [if_pos h0]
  have hA := allL_ok hG
  have hX := build_ok hG
  have hi0 : (idxErr l).1 = 0 := by unfold startErr at h0; rw [orE_zero] at h0; exact h0.1
  have hsy : (startErr l (allL l Am)).1 = 0 := by unfold startErr; rw [orE_zero]; exact ⟨hi0, rootsErr_zero.2 hA.ok.right.at_⟩
  have hne : newsErr l (allL l Am) = (0, -1) := by
    unfold newsErr orE
    rw [if_neg (by simp [hi0]), if_pos (riseB_iff.2 hA.ok.rise)]
  have hl : ∀ {x : List Md}, SelOk l x → x.length ≤ 100 := fun {x} h1 => by
    have h2 : x.length ≤ (l.map (·.md)).length := List.Nodup.length_le_of_subset (by
      have := riseP_rises h1.rise
      unfold Rises at this
      exact this.imp fun {x y} h e => by subst e; rw [modCmp_ord.self] at h; omega) (fun m hm => by
      obtain ⟨e, he, e1⟩ := h1.right.at_ m hm
      exact List.mem_map.2 ⟨e, he, e1⟩)
    rw [List.length_map] at h2
    exact Nat.le_trans h2 hG.idx.len
  have hO : (oneErr l Am m).1 = 0 → SelOk l (oneR l Am m) ∧ oneR l Am m = buildL l (Am ++ [m]) ∧ RightG l (Am ++ [m]) := fun h => by
    have h1 := oneErr_zero.1 h
    have h2 := rightG_of (one_start h1.1 h1.2)
    have e : oneR l Am m = buildL l (Am ++ [m]) := by unfold oneR; rw [if_pos h]
    rw [e]
    exact ⟨build_ok h2, rfl, h2⟩
  rw [hb, ha]
  refine ⟨hb, ha, startErr_at h0, over_under hA.ok hA.over, hne, ?_, startErr_at hsy, ?_, hl hX, hl hA.ok, fun h => ?_, fun h => ?_, fun x hx => hX.right.at_ x hx, fun x hx => hA.ok.right.at_ x hx, fun x hx => ?_⟩
  · unfold newsR
    rw [if_pos (by rw [hne])]
    exact hA.none
  · unfold allR
    rw [if_pos hsy]
    exact hA.again.2
  · apply Classical.byContradiction
    intro h2
    exact h (oneErr_zero.2 ⟨h0, h2⟩)
  · obtain ⟨h1, e, h2⟩ := hO h
    rw [e] at h1 ⊢
    exact ⟨build_under hG h2 (fun x hx => reached_app.2 (.inl hx)), under_sub (fun x hx => List.mem_append.2 (.inr hx)) (build_roots h2), hl h1⟩
  · by_cases h : (oneErr l Am m).1 = 0
    · exact (hO h).1.right.at_ x hx
    · unfold oneR at hx
      rw [if_neg h] at hx
      cases hx

set_option maxHeartbeats 8000000 in
set_option maxRecDepth 100000 in
theorem upNewsL_main (ks : List Nat) (A : Nat → Addr) (la : Option Addr) (ln lc : Nat) (P V : Nat → ByteArray) (R : Nat → List Md) (K : Nat → List Str) (Bk : Nat → Bool) (Rv Kv : Nat → Value) (av : Value) (Am : List Md) (p v : ByteArray) (w : World) (H : UnArgs ks A la ln lc P V R K Bk Rv Kv av Am w)
    (h1 : longIdx (enF ln P V R K Bk) = false) (h2 : longMods Am 15 = false) (h3 : p.size ≤ 70) (h4 : v.size ≤ 60) :
    Calls Tryz.prog 6 #[.slice la ln lc, av, .agg #[.string p, .string v]] w fun e w' => e = .returned (.bool true) ∧ Below w.heap.size w w' := by
  obtain ⟨a1, n1, c1, _, _, rfl, _⟩ := id H.a
  have hB := below_alloc w (.cells #[.string p, .string v] 38)
  have hm := box2_alloc w (.string p) (.string v) 38
  have hre := upped_calls ks A H.idx _ (H.env.below hB)
  have hlx := fun (W : World) (hb : Below w.heap.size w W) => longIndex_in la ln lc P V R K Bk Rv Kv W (H.l.below hb)
  have hlm1 := fun (W : World) (hb : Below w.heap.size w W) => longMods_calls (.slice a1 n1 c1) Am 15 W (H.a.below hb)
  have hsi := longIdx_short h1
  have hsm := longIdx_small h1
  have hA1 := longMods_small h2
  have HH := Lib.hid H
  have HSI := Lib.hid hsi
  have h3' : ¬ (70 : Int) < (p.size : Int) := by omega
  have h4' : ¬ (60 : Int) < (v.size : Int) := by omega
  have hn101 : ln ≤ 101 := by have := hsm.1; rwa [enF_length] at this
  have how := fun (W : World) (hb : Below w.heap.size w W) => ownIndex_calls (.slice la ln lc) (enF ln P V R K Bk) W ⟨la, ln, lc, P, V, R, K, Bk, Rv, Kv, rfl, rfl, HH.out.l.below hb⟩ (by rw [enF_length]; omega) (fun e he => by
    have h4 := longEn_small (hsm.2 e he)
    have h5 := longMods_small h4.2.2.1
    exact ⟨by omega, by omega⟩)
  have hom := fun (W : World) (hb : Below w.heap.size w W) => ownMods_calls (.slice a1 n1 c1) Am W (HH.out.a.below hb) (by omega)
  have hfo := fun (W : World) (hb : Below w.heap.size w W) => findOf_in la ln lc P V R K Bk Rv Kv p v W (HH.out.l.below hb) (by omega)
  have hE := fun (W : World) (hb : Below w.heap.size w W) => HH.out.env.below hb
  rw [longII_no h1] at hlx
  rw [longI_no h2] at hlm1
  have hAl := hA1.1
  have HI := Lib.hid HH.out.idx
  have HVS : Hid (v.size ≤ 60) := Lib.hid h4
  generalize hl0 : enF ln P V R K Bk = l at *
  have HSZ : Hid (∀ x : List Md, (∀ y ∈ x, ∃ e ∈ l, e.md = y) → ∀ y ∈ x, y.2.length ≤ 1000000) := Lib.hid (fun x hx y hy => by
    obtain ⟨e, he, e1⟩ := hx y hy
    have := (HSI.out.mds e he).2
    rw [e1] at this
    exact this)
  have HUF : Hid ((startErr l Am).1 = 0 → UnFacts l Am (p.data.toList, v.data.toList) (buildR l Am) (allR l Am)) := Lib.hid (fun h => unFacts _ h)
  have hun := fun (W : World) (hb : Below w.heap.size w W) (va vb : Value) (la lb : List Md) (x1 : ModsAt W va la) (x2 : ModsAt W vb lb) => mvsUnder_calls ks A va vb la lb W (hE W hb) x1 x2
  replace hre := Lib.hid hre
  replace hlx := Lib.hid hlx
  replace hlm1 := Lib.hid hlm1
  replace how := Lib.hid how
  replace hom := Lib.hid hom
  replace hE := Lib.hid hE
  replace hfo := Lib.hid hfo
  replace hun := Lib.hid hun
  clear h1 h2 h3 h4 hsi hsm hA1 H hl0
  obtain ⟨z0, z1, zf⟩ := id hm
  go_enter Tryz.func6, Tryz.ntmps6
  go_wp2_with fail
  refine hre.out.mono ?_
  generalize hw0 : w.alloc (.cells #[.string p, .string v] 38) = w0 at *
  rintro e w1 ⟨rfl, hb⟩
  have hsw : w.heap.size < w1.heap.size := Nat.lt_of_lt_of_le (by rw [← hw0]; simp) hb.size
  clear hw0
  replace hB := below_step hB hb
  replace hm := hm.below hb
  clear hb hre z0 z1 zf
  obtain ⟨z0, z1, zf⟩ := id hm
  go_wp2_with fail
  refine (hlx.out _ hB).mono ?_
  rintro e w' ⟨rfl, rfl⟩
  go_wp2_with fail
  refine (hlm1.out _ hB).mono ?_
  rintro e w' ⟨rfl, rfl⟩
  clear hlx hlm1
  go_wp2_with fail
  refine (how.out _ hB).mono ?_
  rintro e w2 ⟨⟨ov, rfl, hOE⟩, hb⟩
  replace hB := below_step hB hb
  replace hm := hm.below hb
  have hsz2 : w.heap.size < w2.heap.size := Nat.lt_of_lt_of_le hsw hb.size
  obtain ⟨oa, on, oc, P', V', R', K', B', Rv', Kv', rfl, hOl, hO⟩ := hOE
  have HO := Lib.hid hO
  have HOL := Lib.hid hOl
  have hC := Below.refl w2.heap.size w2
  clear hO hOl hb how z0 z1 zf hsw
  have hbu := fun (W : World) (hb : Below w.heap.size w W) (hc : Below w2.heap.size w2 W) (rv : Value) (roots : List Md) (hr : ModsAt W rv roots) (hlr : roots.length ≤ 100000) => mvsBuild_in ks A HI.out oa on oc P' V' R' K' B' Rv' Kv' rv roots W (hE.out W hb) (HO.out.below hc) (by rw [← HOL.out]; exact HSI.out) hr hlr
  have hal := fun (W : World) (hb : Below w.heap.size w W) (hc : Below w2.heap.size w2 W) (rv : Value) (roots : List Md) (hr : ModsAt W rv roots) (hlr : roots.length ≤ 10000) => upAll_in ks A HI.out oa on oc P' V' R' K' B' Rv' Kv' rv roots W (hE.out W hb) (HO.out.below hc) (by rw [← HOL.out]; exact HSI.out) hr hlr
  have hnw := fun (W : World) (hb : Below w.heap.size w W) (hc : Below w2.heap.size w2 W) (sv : Value) (sel : List Md) (hv : ModsAt W sv sel) (hlr : sel.length ≤ 10000) (hss : ∀ m ∈ sel, m.2.length ≤ 1000000) => upNews_in ks A HI.out oa on oc P' V' R' K' B' Rv' Kv' sv sel W (hE.out W hb) (HO.out.below hc) (by rw [← HOL.out]; exact HSI.out) hv hlr hss
  have hon := fun (W : World) (hb : Below w.heap.size w W) (hc : Below w2.heap.size w2 W) (rv : Value) (roots : List Md) (hr : ModsAt W rv roots) (hlr : roots.length ≤ 10000) => upOne_in ks A HI.out oa on oc P' V' R' K' B' Rv' Kv' rv roots p v W (hE.out W hb) (HO.out.below hc) (by rw [← HOL.out]; exact HSI.out) hr hlr
  simp only [← HOL.out] at hbu hal hnw hon
  replace hbu := Lib.hid hbu
  replace hal := Lib.hid hal
  replace hnw := Lib.hid hnw
  replace hon := Lib.hid hon
  go_wp2_with fail
  refine (hom.out _ hB).mono ?_
  rintro e w3 ⟨⟨v3, rfl, hM3, _⟩, hb⟩
  replace hB := below_step hB hb
  replace hC := below_step hC hb
  replace hm := hm.below hb
  obtain ⟨a3, n3, c3, _, _, rfl, _⟩ := id hM3
  have hb4 := hbu.out _ hB hC _ _ hM3 (by omega)
  replace hb4 := Lib.hid hb4
  clear hb hM3 hbu
  go_wp2_with fail
  refine hb4.out.mono ?_
  rintro e w4 ⟨⟨x4, ev4, rfl, hf4, hx4⟩, hb⟩
  replace hB := below_step hB hb
  replace hC := below_step hC hb
  replace hm := hm.below hb
  obtain ⟨a4, n4, c4, _, _, rfl, _⟩ := id hx4
  clear hb hb4
  rcases fault_form hf4 with ⟨h0, rfl⟩ | ⟨h0, ty, q, rfl⟩
  · have hU := HUF.out h0
    generalize buildR l Am = X at *
    generalize allR l Am = Y at *
    have HU := Lib.hid hU
    have HX4 := Lib.hid hx4
    clear hf4 h0 hU HUF hx4
    go_wp2_with fail
    refine (hom.out _ hB).mono ?_
    rintro e w5 ⟨⟨v5, rfl, hM5, _⟩, hb⟩
    replace hB := below_step hB hb
    replace hC := below_step hC hb
    replace hm := hm.below hb
    replace HX4 := Lib.hid (HX4.out.below hb)
    obtain ⟨a5, n5, c5, _, _, rfl, _⟩ := id hM5
    have hb6 := hal.out _ hB hC _ _ hM5 (by omega)
    rw [HU.out.se, HU.out.aR] at hb6
    replace hb6 := Lib.hid hb6
    clear hb hM5
    go_wp2_with fail
    refine hb6.out.mono ?_
    rintro e w6 ⟨⟨x6, ev6, rfl, hf6, hx6⟩, hb⟩
    obtain rfl := nilOf hf6
    replace hB := below_step hB hb
    replace hC := below_step hC hb
    replace hm := hm.below hb
    have hx4 := HX4.out.below hb
    obtain ⟨a6, n6, c6, _, _, rfl, _⟩ := id hx6
    have hu7 := hun.out _ hB _ _ _ _ hx4 hx6 (by have := HU.out.lenX; omega) (by have := HU.out.lenY; omega) (fun y hy => by have := HSZ.out _ HU.out.memX y hy; omega) (fun y hy => by have := HSZ.out _ HU.out.memY y hy; omega)
    rw [HU.out.over] at hu7
    have HXX := Lib.hid (And.intro hx4 hx6)
    replace hu7 := Lib.hid hu7
    clear hb hf6 hx4 hx6 hb6 HX4
    go_wp2_with fail
    refine hu7.out.mono ?_
    rintro e w7 ⟨rfl, hb⟩
    replace hB := below_step hB hb
    replace hC := below_step hC hb
    replace hm := hm.below hb
    have hx4 := HXX.out.1.below hb
    have hx6 := HXX.out.2.below hb
    have hn8 := hnw.out _ hB hC _ _ hx6 (by have := HU.out.lenY; omega) (HSZ.out _ HU.out.memY)
    rw [HU.out.ne, HU.out.nr] at hn8
    replace HXX := Lib.hid (And.intro hx4 hx6)
    replace hn8 := Lib.hid hn8
    clear hb hx4 hx6 hu7 hnw
    go_wp2_with fail
    refine hn8.out.mono ?_
    rintro e w8 ⟨⟨x8, ev8, rfl, hf8, hx8⟩, hb⟩
    obtain rfl := nilOf hf8
    obtain ⟨a8, c8, rfl⟩ := mods_len hx8
    simp only [List.length_nil]
    replace hB := below_step hB hb
    replace hC := below_step hC hb
    replace hm := hm.below hb
    have hx4 := HXX.out.1.below hb
    have hx6 := HXX.out.2.below hb
    have ha9 := hal.out _ hB hC _ _ hx6 (by have := HU.out.lenY; omega)
    rw [HU.out.se2, HU.out.again] at ha9
    replace HXX := Lib.hid (And.intro hx4 hx6)
    replace ha9 := Lib.hid ha9
    clear hb hf8 hx8 hx4 hx6 hn8 hal
    go_wp2_with fail
    refine ha9.out.mono ?_
    rintro e w9 ⟨⟨x9, ev9, rfl, hf9, hx9⟩, hb⟩
    obtain rfl := nilOf hf9
    obtain ⟨a9, n9, c9, _, _, rfl, _⟩ := id hx9
    replace hB := below_step hB hb
    replace hC := below_step hC hb
    replace hm := hm.below hb
    have hx4 := HXX.out.1.below hb
    have hx6 := HXX.out.2.below hb
    have hs10 := sameMods_calls _ _ _ _ w9 hx9 hx6
    rw [decide_eq_true rfl] at hs10
    have HX4 := Lib.hid hx4
    replace hs10 := Lib.hid hs10
    clear hb hf9 hx9 hx4 hx6 HXX ha9
    go_wp2_with fail
    refine hs10.out.mono ?_
    rintro e w10 ⟨rfl, hb⟩
    replace hB := below_step hB hb
    replace hC := below_step hC hb
    replace hm := hm.below hb
    have hsz10 : w.heap.size < w10.heap.size := Nat.lt_of_lt_of_le hsz2 hC.size
    have HX10 := Lib.hid (HX4.out.below hb)
    have HM10 := Lib.hid hm
    have HB10 := Lib.hid hB
    have HC10 := Lib.hid hC
    have hbW := (Below.refl w10.heap.size w10).drew
    clear hb hs10 HX4 hm hB hC
    go_wp2_with fail
    go_region_held2 (fun W => (W.cell? ⟨w.heap.size, 0, none⟩ = some (.string p) ∧ W.cell? ⟨w.heap.size, 1, none⟩ = some (.string v)) ∧ Below w10.heap.size w10 W) (exact ⟨⟨(HM10.out.below hbW).c0, (HM10.out.below hbW).c1⟩, hbW⟩) (first
      | (go_at_call 16; refine (hom.out _ (below_step HB10.out hbW)).mono ?_; rintro e w11 ⟨⟨v11, rfl, hM11, _⟩, hb11⟩; obtain ⟨a11, n11, c11, _, _, rfl, _⟩ := id hM11; replace hbW := below_step hbW hb11)
      | (go_at_call 34; refine (hon.out _ (below_step HB10.out hbW) (below_step HC10.out hbW) _ _ hM11 (by omega)).mono ?_; rintro e w12 ⟨⟨x12, ev12, rfl, hf12, hx12⟩, hb12⟩; replace hbW := below_step hbW hb12))
    all_goals
      have hB := below_step HB10.out hbW
      have hx4 := HX10.out.below hbW
      have hm := HM10.out.below hbW
      obtain ⟨a12, n12, c12, _, _, rfl, _⟩ := id hx12
      obtain ⟨z0, z1, zf⟩ := id hm
      rcases fault_form hf12 with ⟨h5, rfl⟩ | ⟨h5, ty, q, rfl⟩
      · obtain ⟨u1, u2, u3⟩ := HU.out.oneS h5
        have hu13 := hun.out _ hB _ _ _ _ hx4 hx12 (by have := HU.out.lenX; omega) (by omega) (fun y hy => by have := HSZ.out _ HU.out.memX y hy; omega) (fun y hy => by have := HSZ.out _ HU.out.memO y hy; omega)
        rw [u1] at hu13
        have HX12 := Lib.hid hx12
        have HU2 := Lib.hid (And.intro u2 u3)
        replace hu13 := Lib.hid hu13
        clear hf12 hx12 hx4 h5 u1 u2 u3
        go_wp2_with fail
        refine hu13.out.mono ?_
        rintro e w13 ⟨rfl, hb⟩
        replace hB := below_step hB hb
        replace hm := hm.below hb
        have hba := below_alloc w13 (.cells #[.string p, .string v] 38)
        have hx14 : ModsAt (w13.alloc (.cells #[.string p, .string v] 38)) (.slice (some ⟨w13.heap.size, 0, none⟩) 1 1) [(p.data.toList, v.data.toList)] := by
          refine ⟨_, 1, 1, fun _ => p, fun _ => v, rfl, rfl, Nat.le_refl _, by decide, fun i hi => ?_⟩
          match i, hi with
          | 0, _ => exact ⟨_, 0, rfl, by simp, by simp⟩
        have hu15 := hun.out _ (below_step hB hba) _ _ _ _ hx14 ((HX12.out.below hb).below hba) (by simp) (by have := HU2.out.2; omega) (fun y hy => by
          simp only [List.mem_singleton] at hy
          rw [hy]
          show v.data.toList.length ≤ _
          have := HVS.out
          rw [size_eq] at this
          omega) (fun y hy => by have := HSZ.out _ HU.out.memO y hy; omega)
        rw [HU2.out.1] at hu15
        clear z0 z1 zf
        obtain ⟨z0, z1, zf⟩ := id hm
        replace hu15 := Lib.hid hu15
        clear hb hx14 hu13
        go_wp2_with fail
        refine hu15.out.mono ?_
        rintro e w16 ⟨rfl, hb⟩
        go_wp2_with fail
        go_ret
        exact ⟨rfl, below_step (below_step hB hba) hb⟩
      · have hlt := HU.out.one h5
        have hf14 := hfo.out _ hB
        replace hf14 := Lib.hid hf14
        clear hf12 hx12 hx4 h5
        go_wp2_with fail
        refine hf14.out.mono ?_
        rintro e w14 ⟨rfl, hb⟩
        go_wp2_with fail
        go_ret
        first
          | exact ⟨rfl, below_step hB hb⟩
          | exact ⟨by simp [hlt], below_step hB hb⟩
  · clear hf4 hx4 h0
    go_wp2_with fail
    go_ret
    exact ⟨rfl, hB⟩

theorem upNewsL_calls (ks : List Nat) (A : Nat → Addr) (hks : IdxKs ks) (lv av : Value) (l : List En) (Am : List Md) (p v : ByteArray) (w : World) (hE : EnvP ks A w) (hl : EntsAt w lv l) (ha : ModsAt w av Am) :
    Calls Tryz.prog 6 #[lv, av, .agg #[.string p, .string v]] w fun e w' => e = .returned (.bool true) ∧ Below w.heap.size w w' := by
  obtain ⟨la, ln, lc, P, V, R, K, Bk, Rv, Kv, rfl, rfl, hin⟩ := hl
  have H : UnArgs ks A la ln lc P V R K Bk Rv Kv av Am w := ⟨hks, hE, hin, ha⟩
  cases h1 : longIdx (enF ln P V R K Bk)
  · cases h2 : longMods Am 15
    · by_cases h3 : p.size ≤ 70
      · by_cases h4 : v.size ≤ 60
        · exact upNewsL_main ks A la ln lc P V R K Bk Rv Kv av Am p v w H h1 h2 h3 h4
        · exact upNewsL_long ks A la ln lc P V R K Bk Rv Kv av Am p v w H (.inr ⟨h1, .inr ⟨h2, .inr ⟨h3, by omega⟩⟩⟩)
      · exact upNewsL_long ks A la ln lc P V R K Bk Rv Kv av Am p v w H (.inr ⟨h1, .inr ⟨h2, .inl (by omega)⟩⟩)
    · exact upNewsL_long ks A la ln lc P V R K Bk Rv Kv av Am p v w H (.inr ⟨h1, .inl h2⟩)
  · exact upNewsL_long ks A la ln lc P V R K Bk Rv Kv av Am p v w H (.inl h1)
end Go.Proofs.Pw

/- From a row's listed variables to what the walks ask: the sentinels, each at its own place; errors.errorType's handle. -/
namespace Go.Proofs.Pw
open Go.RowKit Go.ChangeShapes

/-- a sentinel's datum -/
def sentD (text : List UInt8) : DataW Unit := .iface "*errors.errorString" (.ptr (.agg [.lit (.string text)]))

theorem Tryz.star : "*" ++ "errors.errorString" = "*errors.errorString" := by decide
theorem Tryz.rowES : ∀ u, Tryz.prog.typeName? 3 u = some "*errors.errorString" → u = 271 := fun u h =>
  typeName_ptr_named (P := Tryz.prog) (nm := "errors.errorString") (by rw [Tryz.star]; kernel_rfl) (by kernel_rfl) (by decide) u (by rw [Tryz.star]; exact h)

section
variable {W : World}

set_option maxRecDepth 100000 in
theorem sent_mem {n : String} {text : List UInt8} : ∀ {l : List (String × DataW Unit)} {ps : List MemPlace}, DataW.LaidVars Tryz.prog W l ps →
    (∀ b off, MemPlace.cell b off ∈ ps → (∃ c t, W.heap[b]? = some (.cells c t (0, 0))) ∧ ∀ u v, W.cell? ⟨b, off, none⟩ = some (.iface u v) → Value.okWide Tryz.prog W .any 0 u v) →
    (n, sentD text) ∈ l → (∀ g, Tryz.prog.globalNamed n = some g → (Tryz.prog.globals[g]?).map (·.type) = some 29) →
    ∃ (g : Nat) (a : Addr), Tryz.prog.globalNamed n = some g ∧ W.cell? ⟨g, 0, none⟩ = some (.iface 271 (.pointer (some a))) ∧ MemPlace.cell a.block a.off ∈ ps
  | [], _, _, _, hm, _ => by cases hm
  | (n0, d0) :: r, ps, h, hrows, hm, ht => by
    obtain ⟨g, t, cs, fuel, p, q, hg, htt, hv, hd, hq, rfl⟩ := h
    rcases List.mem_cons.1 hm with he | hm
    · obtain ⟨rfl, rfl⟩ := Prod.mk.injEq .. ▸ he
      obtain rfl := Option.some.inj ((ht g hg).symm.trans htt)
      obtain ⟨l0⟩ := cs
      have ok0 : ∀ u v, l0 = [.iface u v] → Value.okWide Tryz.prog W .any 0 u v := fun u v e => by
        subst e
        exact (hrows g 0 (by simp [MemPlace.row])).2 u v (by simpa using World.var?_cell hg hv 0)
      obtain ⟨a, s, rfl, _, _, _, rfl⟩ := errorString_of_trod Tryz.underlying29 Tryz.rowES Tryz.underlying271 Tryz.underlying273 rfl rfl Tryz.underlying9 (by kernel_rfl) (by kernel_rfl) hd ok0
      exact ⟨g, a, hg, by simpa using World.var?_cell hg hv 0, by simp [MemPlace.row]⟩
    · obtain ⟨g', a, h1, h2, h3⟩ := sent_mem hq (fun b off hm => hrows b off (List.mem_append_right _ hm)) hm ht
      exact ⟨g', a, h1, h2, List.mem_append_right _ h3⟩

set_option maxRecDepth 100000 in
theorem sent_ne {n n' : String} {text text' : List UInt8} (hnn : n ≠ n') : ∀ {l : List (String × DataW Unit)} {ps : List MemPlace}, DataW.LaidVars Tryz.prog W l ps → ps.Nodup →
    (∀ b off, MemPlace.cell b off ∈ ps → (∃ c t, W.heap[b]? = some (.cells c t (0, 0))) ∧ ∀ u v, W.cell? ⟨b, off, none⟩ = some (.iface u v) → Value.okWide Tryz.prog W .any 0 u v) →
    (n, sentD text) ∈ l → (n', sentD text') ∈ l → (∀ g, Tryz.prog.globalNamed n = some g → (Tryz.prog.globals[g]?).map (·.type) = some 29) → (∀ g, Tryz.prog.globalNamed n' = some g → (Tryz.prog.globals[g]?).map (·.type) = some 29) →
    ∀ (g g' : Nat) (a a' : Addr), Tryz.prog.globalNamed n = some g → Tryz.prog.globalNamed n' = some g' → W.cell? ⟨g, 0, none⟩ = some (.iface 271 (.pointer (some a))) → W.cell? ⟨g', 0, none⟩ = some (.iface 271 (.pointer (some a'))) → a ≠ a'
  | [], _, _, _, _, hm, _, _, _ => by cases hm
  | (n0, d0) :: r, ps, h, hnd, hrows, hm, hm', ht, ht' => by
    intro g g' a a' hg hg' hc hc'
    obtain ⟨g0, t0, cs, fuel, p, q, hg0, htt, hv, hd, hq, rfl⟩ := h
    have hrq : ∀ b off, MemPlace.cell b off ∈ q → (∃ c t, W.heap[b]? = some (.cells c t (0, 0))) ∧ ∀ u v, W.cell? ⟨b, off, none⟩ = some (.iface u v) → Value.okWide Tryz.prog W .any 0 u v := fun b off hm => hrows b off (List.mem_append_right _ hm)
    have head : ∀ {m : String} {tx : List UInt8} {gm : Nat} {am : Addr}, (m, sentD tx) = (n0, d0) → (∀ g, Tryz.prog.globalNamed m = some g → (Tryz.prog.globals[g]?).map (·.type) = some 29) → Tryz.prog.globalNamed m = some gm → W.cell? ⟨gm, 0, none⟩ = some (.iface 271 (.pointer (some am))) → MemPlace.cell am.block am.off ∈ p := by
      intro m tx gm am he htm hgm hcm
      obtain ⟨rfl, rfl⟩ := Prod.mk.injEq .. ▸ he
      obtain rfl := Option.some.inj (hg0.symm.trans hgm)
      obtain rfl := Option.some.inj ((htm g0 hg0).symm.trans htt)
      obtain ⟨l0⟩ := cs
      have ok0 : ∀ u v, l0 = [.iface u v] → Value.okWide Tryz.prog W .any 0 u v := fun u v e => by
        subst e
        exact (hrows g0 0 (by simp [MemPlace.row])).2 u v (by simpa using World.var?_cell hg0 hv 0)
      obtain ⟨a1, s, rfl, _, _, _, rfl⟩ := errorString_of_trod Tryz.underlying29 Tryz.rowES Tryz.underlying271 Tryz.underlying273 rfl rfl Tryz.underlying9 (by kernel_rfl) (by kernel_rfl) hd ok0
      have e := World.var?_cell hg0 hv 0
      rw [hcm] at e
      simp at e
      subst e
      simp [MemPlace.row]
    have tail : ∀ {m : String} {tx : List UInt8} {gm : Nat} {am : Addr}, (m, sentD tx) ∈ r → (∀ g, Tryz.prog.globalNamed m = some g → (Tryz.prog.globals[g]?).map (·.type) = some 29) → Tryz.prog.globalNamed m = some gm → W.cell? ⟨gm, 0, none⟩ = some (.iface 271 (.pointer (some am))) → MemPlace.cell am.block am.off ∈ q := by
      intro m tx gm am hmm htm hgm hcm
      obtain ⟨g2, a2, h1, h2, h3⟩ := sent_mem hq hrq hmm htm
      obtain rfl := Option.some.inj (hgm.symm.trans h1)
      rw [hcm] at h2
      simp at h2
      subst h2
      exact h3
    rw [List.nodup_append] at hnd
    have hpq : ∀ x, x ∈ p → x ∈ q → False := fun x hx hy => hnd.2.2 x (List.mem_append_right _ hx) x hy rfl
    rcases List.mem_cons.1 hm with he | hm
    · rcases List.mem_cons.1 hm' with he' | hm'
      · exact absurd ((Prod.mk.inj he).1.trans (Prod.mk.inj he').1.symm) hnn
      · intro e
        subst e
        exact hpq _ (head he ht hg hc) (tail hm' ht' hg' hc')
    · rcases List.mem_cons.1 hm' with he' | hm'
      · intro e
        subst e
        exact hpq _ (head he' ht' hg' hc') (tail hm ht hg hc)
      · exact sent_ne hnn hq hnd.2.1 hrq hm hm' ht ht' g g' a a' hg hg' hc hc'
end

/-- where the sentinel of a number lies, in a world -/
def errA (W : World) (k : Nat) : Addr := match W.cell? ⟨errG k, 0, none⟩ with
  | some (.iface _ (.pointer (some a))) => a
  | _ => default

/-- THE SENTINELS OF A LIST: names and texts by number. -/
theorem envE_of {W : World} {l : List (String × DataW Unit)} (h : laidMet Tryz.prog l W) (ks : List Nat) (nm : Nat → String) (tx : Nat → List UInt8)
    (hm : ∀ k ∈ ks, (nm k, sentD (tx k)) ∈ l) (hg : ∀ k ∈ ks, Tryz.prog.globalNamed (nm k) = some (errG k)) (ht : ∀ k ∈ ks, (Tryz.prog.globals[errG k]?).map (·.type) = some 29)
    (hne : ∀ j ∈ ks, ∀ k ∈ ks, j ≠ k → nm j ≠ nm k) : EnvE ks (errA W) W := by
  obtain ⟨ps, hv, hnd, hrows⟩ := h
  have htt : ∀ k ∈ ks, ∀ g, Tryz.prog.globalNamed (nm k) = some g → (Tryz.prog.globals[g]?).map (·.type) = some 29 := fun k hk g h => by
    obtain rfl := Option.some.inj ((hg k hk).symm.trans h)
    exact ht k hk
  have cell : ∀ k ∈ ks, W.cell? ⟨errG k, 0, none⟩ = some (.iface 271 (.pointer (some (errA W k)))) ∧ MemPlace.cell (errA W k).block (errA W k).off ∈ ps := fun k hk => by
    obtain ⟨g, a, h1, h2, h3⟩ := sent_mem hv hrows (hm k hk) (htt k hk)
    obtain rfl := Option.some.inj ((hg k hk).symm.trans h1)
    have e : errA W k = a := by unfold errA; rw [h2]
    rw [e]
    exact ⟨h2, h3⟩
  refine ⟨fun k hk => (cell k hk).1, fun k hk => (hrows _ _ (cell k hk).2).1, fun j hj k hk e => ?_⟩
  rcases Nat.decEq j k with hjk | hjk
  · exact absurd e (sent_ne (hne j hj k hk hjk) hv hnd hrows (hm j hj) (hm k hk) (htt j hj) (htt k hk) _ _ _ _ (hg j hj) (hg k hk) (cell j hj).1 (cell k hk).1)
  · exact hjk

theorem Tryz.et : Tryz.prog.globalNamed "errors.errorType" = some 10 := by kernel_rfl
theorem Tryz.rt : (Tryz.prog.cutTypes.find? (·.1 == "internal/reflectlite.rtype")).map (·.2) = some 204 := by kernel_rfl
theorem Tryz.oneRow : ((List.range 309).filter fun t => Tryz.prog.rowNamed t [101, 114, 114, 111, 114]) = [29] := by kernel_rfl
theorem Tryz.typesSize : Tryz.prog.types.size = 309 := by kernel_rfl

/-- errors.errorType's cell -/
theorem handle_of {W : World} {hs : List (String × DataW Unit)} (h : handlesMet Tryz.prog hs W)
    (hm : ("errors.errorType", (.iface "internal/reflectlite.rtype" (.agg [.ptr (.lit (.string [101, 114, 114, 111, 114]))]) : DataW Unit)) ∈ hs) :
    W.cell? ⟨10, 0, none⟩ = some (.iface 204 (.agg #[.pointer (some ⟨19, 29, none⟩)])) := by
  obtain ⟨name, u, ty, e1, e2, e3, e4, e5⟩ := h _ hm
  have en : name = [101, 114, 114, 111, 114] := (Option.some.inj e1).symm
  subst en
  obtain rfl := Option.some.inj (Tryz.rt.symm.trans e2)
  have hmm : ty ∈ (List.range 309).filter fun t => Tryz.prog.rowNamed t [101, 114, 114, 111, 114] := List.mem_filter.2 ⟨List.mem_range.2 (by rw [← Tryz.typesSize]; exact e3), e4⟩
  rw [Tryz.oneRow] at hmm
  obtain rfl := List.mem_singleton.1 hmm
  have hh : typeHandle Tryz.prog 29 = .pointer (some ⟨19, 29, none⟩) := by kernel_rfl
  rw [hh] at e5
  simpa using World.var?_cell Tryz.et e5 0
end Go.Proofs.Pw

/- From a row's listed variables to what packages ver and mod ask: the sentinels, strconv.ErrRange, the table of powers. -/
namespace Go.Proofs.Pw
open Go.RowKit Go.ChangeShapes

theorem tab_mem {W : World} {n : String} {k : IntKind} {zs : List Int} {g : Nat} {t e : TypeId} {m : Nat}
    (hg : Tryz.prog.globalNamed n = some g) (hty : (Tryz.prog.globals[g]?).map (·.type) = some t) (ht : Tryz.prog.underlying t = some (.array m e)) (he : Tryz.prog.underlying e = some (.int k)) (hce : Tryz.prog.cellsOf e = 1) (hct : Tryz.prog.cellsOf t = m) :
    ∀ {l : List (String × DataW Unit)} {ps : List MemPlace}, DataW.LaidVars Tryz.prog W l ps → (n, Lib.tabData k zs) ∈ l → Lib.TabIs Tryz.prog W n k zs
  | [], _, _, hm => by cases hm
  | (n0, d0) :: r, ps, h, hm => by
    obtain ⟨g', t', cs, fuel, p, q, hg', ht', hvar, hd, hq, rfl⟩ := h
    rcases List.mem_cons.1 hm with heq | hm
    · obtain ⟨rfl, rfl⟩ := Prod.mk.injEq .. ▸ heq
      obtain rfl := Option.some.inj (hg.symm.trans hg')
      obtain rfl := Option.some.inj (hty.symm.trans ht')
      unfold Lib.TabIs
      rw [hvar, ← Lib.cells_of_tab ht he hce hct hd]
    · exact tab_mem hg hty ht he hce hct hq hm

/-- an error's name and text by its number -/
def errNm : Nat → String
  | 1 => "pewholder/api.ErrText" | 2 => "pewholder/api.ErrBound" | 3 => "pewholder/api.ErrShape" | 4 => "pewholder/api.ErrMajor" | 5 => "pewholder/api.ErrNone"
  | 6 => "pewholder/api.ErrExist" | 7 => "pewholder/api.ErrFull" | 8 => "pewholder/api.ErrOrder" | 9 => "pewholder/api.ErrClash" | _ => "pewholder/api.ErrSum"
def errTx : Nat → List UInt8
  | 1 => [112, 101, 119, 104, 111, 108, 100, 101, 114, 58, 32, 116, 101, 120, 116]
  | 2 => [112, 101, 119, 104, 111, 108, 100, 101, 114, 58, 32, 98, 111, 117, 110, 100]
  | 3 => [112, 101, 119, 104, 111, 108, 100, 101, 114, 58, 32, 115, 104, 97, 112, 101]
  | 4 => [112, 101, 119, 104, 111, 108, 100, 101, 114, 58, 32, 109, 97, 106, 111, 114]
  | 5 => [112, 101, 119, 104, 111, 108, 100, 101, 114, 58, 32, 110, 111, 110, 101]
  | 6 => [112, 101, 119, 104, 111, 108, 100, 101, 114, 58, 32, 101, 120, 105, 115, 116]
  | 7 => [112, 101, 119, 104, 111, 108, 100, 101, 114, 58, 32, 102, 117, 108, 108]
  | 8 => [112, 101, 119, 104, 111, 108, 100, 101, 114, 58, 32, 111, 114, 100, 101, 114]
  | 9 => [112, 101, 119, 104, 111, 108, 100, 101, 114, 58, 32, 99, 108, 97, 115, 104]
  | _ => [112, 101, 119, 104, 111, 108, 100, 101, 114, 58, 32, 115, 117, 109]
def rangeTx : List UInt8 := [118, 97, 108, 117, 101, 32, 111, 117, 116, 32, 111, 102, 32, 114, 97, 110, 103, 101]

theorem maxLenEnv {W : World} (h : W.ShapedOpen Tryz.prog) : EnvM W := by
  obtain ⟨m, hm⟩ := Tryz.laysM143.s1_3 W h
  exact ⟨m, hm⟩

theorem envP_of {W : World} {l : List (String × DataW Unit)} (h : laidMet Tryz.prog l W) (hsh : W.ShapedOpen Tryz.prog) (ks : List Nat) (hks : 1 ∈ ks ∧ 2 ∈ ks)
    (hm : ∀ k ∈ ks, (errNm k, sentD (errTx k)) ∈ l) (hg : ∀ k ∈ ks, Tryz.prog.globalNamed (errNm k) = some (errG k)) (ht : ∀ k ∈ ks, (Tryz.prog.globals[errG k]?).map (·.type) = some 29)
    (hne : ∀ j ∈ ks, ∀ k ∈ ks, j ≠ k → errNm j ≠ errNm k) (hr : ("strconv.ErrRange", sentD rangeTx) ∈ l) (hp : ("internal/strconv.uint64pow10", Lib.tabData .u64 Lib.pow10Tab) ∈ l) : EnvP ks (errA W) W := by
  refine { m := maxLenEnv hsh, errs := envE_of h ks errNm errTx hm hg ht hne, has := hks, range := ?_, pow10 := ?_ }
  · obtain ⟨ps, hv, hnd, hrows⟩ := h
    obtain ⟨g, a, h1, h2, _⟩ := sent_mem hv hrows hr (fun g hg => by
      obtain rfl := Option.some.inj ((show Tryz.prog.globalNamed "strconv.ErrRange" = some 13 by kernel_rfl).symm.trans hg)
      kernel_rfl)
    obtain rfl := Option.some.inj ((show Tryz.prog.globalNamed "strconv.ErrRange" = some 13 by kernel_rfl).symm.trans h1)
    exact ⟨_, _, h2⟩
  · obtain ⟨ps, hv, _, _⟩ := h
    exact tab_mem (g := 16) (by kernel_rfl) (by kernel_rfl) (Tryz.underlying275) (Tryz.underlying165) (by kernel_rfl) (by kernel_rfl) hv hp

/-- a slice of texts that came in -/
theorem strsAt_open {w : World} {a : Addr} {len cap : Nat} {ss : List ByteArray} (hl : len ≤ cap) (hm : cap ≤ maxLen) (hlen : len ≤ ss.length) (hc : ∀ i, i < ss.length → w.cell? (a.add i) = some (.string (ss.getD i ByteArray.empty))) :
    StrsAt w (.slice (some a) len cap) (lstF len fun j => ss.getD j ByteArray.empty) := by
  refine ⟨some a, len, cap, _, rfl, rfl, hl, by unfold maxLen at hm; exact hm, fun j hj => ?_⟩
  have h0 := hc 0 (by omega)
  have hs : a.spot = none := by
    have e : a.add 0 = a := rfl
    rw [e] at h0
    unfold World.cell? at h0
    split at h0
    · split at h0
      · cases h0
      · rename_i h
        simpa using h
    · cases h0
  obtain ⟨b, o, s⟩ := a
  obtain rfl : s = none := hs
  refine ⟨b, o, rfl, ?_⟩
  have := hc j (by omega)
  have e : (⟨b, o, none⟩ : Addr).add j = ⟨b, o + j, none⟩ := by unfold Addr.add; split <;> simp_all
  rw [e] at this
  exact this

theorem wf64 {x : Int} (h : (Lit.int .i64 x).wf = true) : -9223372036854775808 ≤ x ∧ x ≤ 9223372036854775807 := by
  unfold Lit.wf at h
  simp only [Bool.and_eq_true, decide_eq_true_eq] at h
  exact h

set_option maxRecDepth 100000 in
theorem strsOpen {H : Type} {enc : TypeId × Value → H} {W : World} {base : Nat} {v : Value} {d : DataW H} {p : List MemPlace} (hv : Value.okWide Tryz.prog W .any base 41 v)
    (h : DataW.Trod enc Tryz.prog W 0 (fun _ => true) true 41 v d p) : ∃ l, StrsAt W v l := by
  obtain ⟨a0, len, cap, rfl⟩ := WideShapes.okWide_slice Tryz.underlying41 hv
  obtain ⟨fuel, hf⟩ := h
  rcases ChangeShapes.open_strings Tryz.underlying41 Tryz.underlying9 (by kernel_rfl) hf with ⟨hcs, _⟩ | ⟨a, len', cap', ss, hcs, _, hl, hm, hz, _, hcell, _⟩
  · simp [Value.cells] at hcs
    obtain ⟨rfl, rfl, rfl⟩ := hcs
    exact ⟨[], StrsAt.nil W⟩
  · simp [Value.cells] at hcs
    obtain ⟨rfl, rfl, rfl⟩ := hcs
    exact ⟨_, strsAt_open hl hm (by rw [hz, if_pos rfl]; exact hl) hcell⟩
end Go.Proofs.Pw

/- Arguments of the statements: a module, a slice of modules, as they lie in memory. -/
namespace Go.Proofs.Pw
open Go.RowKit Go.ChangeShapes Go.WideShapes

theorem spot_none {w : World} {a : Addr} {v : Value} (h : w.cell? a = some v) : a.spot = none := by
  unfold World.cell? at h
  split at h
  · split at h
    · cases h
    · rename_i hs
      simpa using hs
  · cases h
theorem add_off (b o i : Nat) : (⟨b, o, none⟩ : Addr).add i = ⟨b, o + i, none⟩ := by unfold Addr.add; split <;> simp_all
set_option maxRecDepth 100000 in
/-- a module's two cells -/
theorem mdTrod {H : Type} {enc : TypeId × Value → H} {w : World} {base : Nat} {spare : Nat → Bool} {held : Bool} {fuel : Nat} {cs : List Value} {x : DataW H × List MemPlace}
    (h : DataW.trod enc Tryz.prog w base spare held fuel 38 cs = some x) : ∃ p v : ByteArray, cs = [.string p, .string v] := by
  obtain ⟨xs, n, _, _, hl, hx, hf⟩ := DataW.trod_struct Tryz.underlying38 h
  have hc : Tryz.prog.cellsOf 38 = 2 := by kernel_rfl
  have hs : Tryz.prog.cellsOf 9 = 1 := by kernel_rfl
  have h0 : DataW.trod enc Tryz.prog w base spare held n 9 ((cs.drop 0).take (Tryz.prog.cellsOf 9)) = xs[0]? := hf 0 _ rfl
  have h1 : DataW.trod enc Tryz.prog w base spare held n 9 ((cs.drop 1).take (Tryz.prog.cellsOf 9)) = xs[1]? := hf 1 _ rfl
  match cs, hl.trans hc with
  | [c0, c1], _ =>
    rw [hs] at h0 h1
    match xs, hx with
    | [x0, x1], _ =>
      obtain ⟨p, e0, _⟩ := DataW.trod_string Tryz.underlying9 h0
      obtain ⟨v, e1, _⟩ := DataW.trod_string Tryz.underlying9 h1
      simp at e0 e1
      exact ⟨p, v, by rw [e0, e1]⟩

set_option maxRecDepth 100000 in
theorem mdOpen {H : Type} {enc : TypeId × Value → H} {W : World} {base : Nat} {v : Value} {d : DataW H} {p : List MemPlace} (hv : Value.okWide Tryz.prog W .any base 38 v)
    (h : DataW.Trod enc Tryz.prog W 0 (fun _ => true) true 38 v d p) : ∃ p v' : ByteArray, v = .agg #[.string p, .string v'] := by
  obtain ⟨cs, rfl, _⟩ := okWide_struct Tryz.underlying38 hv
  obtain ⟨fuel, hf⟩ := h
  obtain ⟨p, v', e⟩ := mdTrod hf
  obtain ⟨l⟩ := cs
  simp [Value.cells] at e
  exact ⟨p, v', by rw [e]⟩

set_option maxRecDepth 100000 in
/-- the cells of a slice of modules -/
theorem modsCells {H : Type} {enc : TypeId × Value → H} {W : World} {fuel : Nat} {cs : List Value} {x : DataW H × List MemPlace}
    (h : DataW.trod enc Tryz.prog W 0 (fun _ => true) true fuel 23 cs = some x) : ∃ a n cap l, cs = [.slice a n cap] ∧ ModsAt W (.slice a n cap) l := by
  rcases Go.Deep.open_slice Tryz.underlying23 h with ⟨rfl, _⟩ | ⟨a, len, cap, m, n, D, Pl, rfl, _, hl, hm, hmm, _, hi⟩
  · exact ⟨none, 0, 0, [], rfl, ModsAt.nil W⟩
  · have hc : Tryz.prog.cellsOf 38 = 2 := by kernel_rfl
    rw [if_pos rfl] at hmm
    have key : ∀ i, i < len → ∃ p v : ByteArray, W.cell? (a.add (i * 2)) = some (.string p) ∧ W.cell? (a.add (i * 2 + 1)) = some (.string v) := fun i h => by
      obtain ⟨cs', h1, h2⟩ := hi i (by omega)
      rw [hc] at h1
      obtain ⟨p, v, rfl⟩ := mdTrod h2
      obtain ⟨_, _, hat⟩ := World.cells?_some h1
      have a0 := hat 0 (by decide)
      have a1 := hat 1 (by decide)
      rw [Go.Deep.add_add] at a0 a1
      exact ⟨p, v, a0, a1⟩
    classical
    let P : Nat → ByteArray := fun i => if h : i < len then (key i h).choose else ByteArray.empty
    let V : Nat → ByteArray := fun i => if h : i < len then (key i h).choose_spec.choose else ByteArray.empty
    refine ⟨some a, len, cap, mdF len P V, rfl, some a, len, cap, P, V, rfl, rfl, hl, by unfold maxLen at hm; exact hm, fun j hj => ?_⟩
    have h0 := (key j hj).choose_spec.choose_spec
    have hs : a.spot = none := by
      have := (key 0 (by omega)).choose_spec.choose_spec.1
      exact spot_none (a := a) this
    obtain ⟨b, o, s⟩ := a
    obtain rfl : s = none := hs
    refine ⟨b, o, rfl, ?_, ?_⟩
    · refine (congrArg W.cell? (add_off b o (j * 2)).symm).trans (h0.1.trans ?_)
      show _ = some (Value.string (if h : j < len then (key j h).choose else ByteArray.empty))
      rw [dif_pos hj]
    · refine (congrArg W.cell? (add_off b o (j * 2 + 1)).symm).trans (h0.2.trans ?_)
      show _ = some (Value.string (if h : j < len then (key j h).choose_spec.choose else ByteArray.empty))
      rw [dif_pos hj]
set_option maxRecDepth 100000 in
theorem modsOpen {H : Type} {enc : TypeId × Value → H} {W : World} {base : Nat} {v : Value} {d : DataW H} {p : List MemPlace} (hv : Value.okWide Tryz.prog W .any base 23 v)
    (h : DataW.Trod enc Tryz.prog W 0 (fun _ => true) true 23 v d p) : ∃ l, ModsAt W v l := by
  obtain ⟨a0, len, cap, rfl⟩ := okWide_slice Tryz.underlying23 hv
  obtain ⟨fuel, hf⟩ := h
  obtain ⟨a, n, c, l, e, hM⟩ := modsCells hf
  simp [Value.cells] at e
  obtain ⟨rfl, rfl, rfl⟩ := e
  exact ⟨l, hM⟩
end Go.Proofs.Pw

/- Arguments of the statements: an index, as it lies in memory. -/
namespace Go.Proofs.Pw
open Go.RowKit Go.ChangeShapes Go.WideShapes

set_option maxRecDepth 100000 in
/-- the cells of a slice of texts -/
theorem strsCells {H : Type} {enc : TypeId × Value → H} {W : World} {fuel : Nat} {cs : List Value} {x : DataW H × List MemPlace}
    (h : DataW.trod enc Tryz.prog W 0 (fun _ => true) true fuel 41 cs = some x) : ∃ a n cap l, cs = [.slice a n cap] ∧ StrsAt W (.slice a n cap) l := by
  rcases ChangeShapes.open_strings Tryz.underlying41 Tryz.underlying9 (by kernel_rfl) h with ⟨hcs, _⟩ | ⟨a, len', cap', ss, hcs, _, hl, hm, hz, _, hcell, _⟩
  · exact ⟨none, 0, 0, [], hcs, StrsAt.nil W⟩
  · exact ⟨_, _, _, _, hcs, strsAt_open hl hm (by rw [hz, if_pos rfl]; exact hl) hcell⟩

set_option maxRecDepth 100000 in
theorem entTrod {H : Type} {enc : TypeId × Value → H} {W : World} {fuel : Nat} {cs : List Value} {x : DataW H × List MemPlace}
    (h : DataW.trod enc Tryz.prog W 0 (fun _ => true) true fuel 43 cs = some x) : ∃ (p v : ByteArray) (rv kv : Value) (R : List Md) (K : List Str) (b : Bool), cs = [.string p, .string v, rv, kv, .bool b] ∧ ModsAt W rv R ∧ StrsAt W kv K := by
  obtain ⟨xs, n, _, _, hl, hx, hf⟩ := DataW.trod_struct Tryz.underlying43 h
  have hc : Tryz.prog.cellsOf 43 = 5 := by kernel_rfl
  have hd : Tryz.prog.cellsOf 38 = 2 := by kernel_rfl
  have hm : Tryz.prog.cellsOf 23 = 1 := by kernel_rfl
  have hk : Tryz.prog.cellsOf 41 = 1 := by kernel_rfl
  have hb : Tryz.prog.cellsOf 4 = 1 := by kernel_rfl
  have h0 : DataW.trod enc Tryz.prog W 0 (fun _ => true) true n 38 ((cs.drop 0).take (Tryz.prog.cellsOf 38)) = xs[0]? := hf 0 _ rfl
  have h1 : DataW.trod enc Tryz.prog W 0 (fun _ => true) true n 23 ((cs.drop 2).take (Tryz.prog.cellsOf 23)) = xs[1]? := hf 1 _ rfl
  have h2 : DataW.trod enc Tryz.prog W 0 (fun _ => true) true n 41 ((cs.drop 3).take (Tryz.prog.cellsOf 41)) = xs[2]? := hf 2 _ rfl
  have h3 : DataW.trod enc Tryz.prog W 0 (fun _ => true) true n 4 ((cs.drop 4).take (Tryz.prog.cellsOf 4)) = xs[3]? := hf 3 _ rfl
  match cs, hl.trans hc with
  | [c0, c1, c2, c3, c4], _ =>
    rw [hd] at h0
    rw [hm] at h1
    rw [hk] at h2
    rw [hb] at h3
    match xs, hx with
    | [x0, x1, x2, x3], _ =>
      obtain ⟨p, v, e0⟩ := mdTrod h0
      obtain ⟨a1, n1, q1, R, e1, hR⟩ := modsCells h1
      obtain ⟨a2, n2, q2, K, e2, hK⟩ := strsCells h2
      obtain ⟨b, e3, _⟩ := DataW.trod_bool Tryz.underlying4 h3
      simp at e0 e1 e2 e3
      exact ⟨p, v, _, _, R, K, b, by rw [e0.1, e0.2, e1, e2, e3], hR, hK⟩

set_option maxRecDepth 100000 in
/-- the cells of a slice of entries -/
theorem entsCells {H : Type} {enc : TypeId × Value → H} {W : World} {fuel : Nat} {cs : List Value} {x : DataW H × List MemPlace}
    (h : DataW.trod enc Tryz.prog W 0 (fun _ => true) true fuel 22 cs = some x) : ∃ a n cap l, cs = [.slice a n cap] ∧ EntsAt W (.slice a n cap) l := by
  rcases Go.Deep.open_slice Tryz.underlying22 h with ⟨rfl, _⟩ | ⟨a, len, cap, m, n, D, Pl, rfl, _, hl, hm, hmm, _, hi⟩
  · exact ⟨none, 0, 0, [], rfl, EntsAt.nil W⟩
  · have hc : Tryz.prog.cellsOf 43 = 5 := by kernel_rfl
    rw [if_pos rfl] at hmm
    have key : ∀ i, i < len → ∃ x : ByteArray × ByteArray × Value × Value × List Md × List Str × Bool, (W.cell? (a.add (i * 5)) = some (.string x.1) ∧ W.cell? (a.add (i * 5 + 1)) = some (.string x.2.1) ∧ W.cell? (a.add (i * 5 + 2)) = some x.2.2.1 ∧ W.cell? (a.add (i * 5 + 3)) = some x.2.2.2.1 ∧ W.cell? (a.add (i * 5 + 4)) = some (.bool x.2.2.2.2.2.2)) ∧ ModsAt W x.2.2.1 x.2.2.2.2.1 ∧ StrsAt W x.2.2.2.1 x.2.2.2.2.2.1 := fun i h => by
      obtain ⟨cs', h1, h2⟩ := hi i (by omega)
      rw [hc] at h1
      obtain ⟨p, v, rv, kv, R, K, b, rfl, hR, hK⟩ := entTrod h2
      obtain ⟨_, _, hat⟩ := World.cells?_some h1
      have a0 := hat 0 (by decide)
      have a1 := hat 1 (by decide)
      have a2 := hat 2 (by decide)
      have a3 := hat 3 (by decide)
      have a4 := hat 4 (by decide)
      rw [Go.Deep.add_add] at a0 a1 a2 a3 a4
      exact ⟨(p, v, rv, kv, R, K, b), ⟨a0, a1, a2, a3, a4⟩, hR, hK⟩
    obtain ⟨F, hF⟩ : ∃ F : Nat → ByteArray × ByteArray × Value × Value × List Md × List Str × Bool, ∀ i, i < len → (W.cell? (a.add (i * 5)) = some (.string (F i).1) ∧ W.cell? (a.add (i * 5 + 1)) = some (.string (F i).2.1) ∧ W.cell? (a.add (i * 5 + 2)) = some (F i).2.2.1 ∧ W.cell? (a.add (i * 5 + 3)) = some (F i).2.2.2.1 ∧ W.cell? (a.add (i * 5 + 4)) = some (.bool (F i).2.2.2.2.2.2)) ∧ ModsAt W (F i).2.2.1 (F i).2.2.2.2.1 ∧ StrsAt W (F i).2.2.2.1 (F i).2.2.2.2.2.1 := by
      classical
      refine ⟨fun i => if h : i < len then (key i h).choose else (ByteArray.empty, ByteArray.empty, .nilIface, .nilIface, [], [], false), fun i hi => ?_⟩
      simp only [dif_pos hi]
      exact (key i hi).choose_spec
    refine ⟨some a, len, cap, enF len (fun i => (F i).1) (fun i => (F i).2.1) (fun i => (F i).2.2.2.2.1) (fun i => (F i).2.2.2.2.2.1) (fun i => (F i).2.2.2.2.2.2), rfl, some a, len, cap, _, _, _, _, _, fun i => (F i).2.2.1, fun i => (F i).2.2.2.1, rfl, rfl, hl, by unfold maxLen at hm; exact hm, fun j hj => ?_, fun j hj => (hF j hj).2.1, fun j hj => (hF j hj).2.2⟩
    have hs : a.spot = none := spot_none (a := a) (hF 0 (by omega)).1.1
    obtain ⟨b, o, s⟩ := a
    obtain rfl : s = none := hs
    obtain ⟨c0, c1, c2, c3, c4⟩ := (hF j hj).1
    rw [add_off] at c0 c1 c2 c3 c4
    exact ⟨b, o, rfl, c0, by rw [Nat.add_assoc]; exact c1, by rw [Nat.add_assoc]; exact c2, by rw [Nat.add_assoc]; exact c3, by rw [Nat.add_assoc]; exact c4⟩
set_option maxRecDepth 100000 in
theorem entsOpen {H : Type} {enc : TypeId × Value → H} {W : World} {base : Nat} {v : Value} {d : DataW H} {p : List MemPlace} (hv : Value.okWide Tryz.prog W .any base 22 v)
    (h : DataW.Trod enc Tryz.prog W 0 (fun _ => true) true 22 v d p) : ∃ l, EntsAt W v l := by
  obtain ⟨a0, len, cap, rfl⟩ := okWide_slice Tryz.underlying22 hv
  obtain ⟨fuel, hf⟩ := h
  obtain ⟨a, n, c, l, e, hM⟩ := entsCells hf
  simp [Value.cells] at e
  obtain ⟨rfl, rfl, rfl⟩ := e
  exact ⟨l, hM⟩
end Go.Proofs.Pw

/- What every law's proof shares: from a call that returns true and writes nothing that was there, to the row's post; the builder that hands on the listed variables and the world's shape together. No program in sight. -/
namespace Go.Proofs.Pw
open Go.RowKit

theorem trodAll_below {H : Type} {enc : TypeId × Value → H} {P : Program} (hl : laidOutB P = true) {W W' : World} (hb : Below W.heap.size W W') :
    ∀ (ts : List TypeId) (vs : List Value) (ds : List (DataW H)) (ps : List MemPlace), (∀ t ∈ ts, P.readableRec t = true ∧ t < P.types.size) → (∀ x ∈ ps, x.block < W.heap.size) →
      DataW.TrodAll enc P W 0 (fun _ => true) true ts vs ds ps → DataW.TrodAll enc P W' 0 (fun b => decide (b < W.heap.size)) true ts vs ds ps
  | [], [], [], _, _, _, h => h
  | t :: ts, v :: vs, d :: ds, ps, hr, hlt, h => by
    obtain ⟨p, q, h1, h2, rfl⟩ := h
    exact ⟨p, q, Below.trod hl (hr t (by simp)).1 (hr t (by simp)).2 h1 hb (fun x hx => hlt x (by simp [hx])),
      trodAll_below hl hb ts vs ds q (fun u hu => hr u (by simp [hu])) (fun x hx => hlt x (by simp [hx])) h2, rfl⟩
  | [], _ :: _, _, _, _, _, h => h.elim
  | [], [], _ :: _, _, _, _, h => h.elim
  | _ :: _, [], _, _, _, _, h => h.elim
  | _ :: _, _ :: _, [], _, _, _, h => h.elim

theorem law_post {H : Type} {enc : TypeId × Value → H} {P : Program} {fn : Func} {s : ChangeSpec} {tb : TypeId} {W W' : World} {args : Array Value} {ds gs : List (DataW H)} {before : List MemPlace}
    (hl : laidOutB P = true) (hr : (fn.params.toList.all fun t => P.readableRec t && decide (t < P.types.size)) = true) (hres : fn.resultTypes = #[tb]) (htb : P.underlying tb = some .bool)
    (hvars : s.vars = []) (hspec : s.fn H (ds ++ gs) = { results := [.lit (.bool true)], args := ds })
    (hW : DataW.Whole enc P fn.params.toList s.vars false W args.toList ds gs before) (hb : Below W.heap.size W W') :
    s.post enc P fn false true false false W args (.bool true) W' := by
  have hW' := hW
  have hlt := hW.lt
  obtain ⟨p, q, hA, hV, rfl, hfz, _⟩ := hW
  have hlp : ∀ x ∈ p, x.block < W.heap.size := fun x hx => hlt x (by simp [hx])
  rw [List.all_eq_true] at hr
  refine ⟨ds, gs, _, [], p, [], hW', ?_, ?_, ?_, hb.frame _, fun h => by cases h⟩
  · rw [hspec, hres]
    exact ChangeShapes.trodAll_mk1 (shut_bool htb true)
  · rw [hspec]
    exact trodAll_below hl hb _ _ _ _ (fun t ht => by simpa using hr t ht) hlp hA
  · rw [hspec, hvars]
    rfl

theorem law_lifted {H : Type} {enc : TypeId × Value → H} {C : Checked} {os : Os} {f : FuncId} {fn : Func} {s : ChangeSpec} {tb : TypeId} {laid : List (String × DataW Unit)}
    (own : ownKnob C.prog.godebug = none) (started : os.Started) (noInit : C.prog.inits.idxOf? f = none) (hfn : C.prog.funcs[f]? = some fn)
    (hl : laidOutB C.prog = true) (hr : (fn.params.toList.all fun t => C.prog.readableRec t && decide (t < C.prog.types.size)) = true) (hres : fn.resultTypes = #[tb]) (htb : C.prog.underlying tb = some .bool)
    (hvars : s.vars = [])
    (witness : ∃ (w : World) (tape : Tape) (i : Input), w.os = os ∧ (w.forCall tape i).Shaped C.prog ∧ i.vars = [] ∧ Input.okWide C.prog (w.forCall tape i) .any w.heap.size f i ∧
      ((s.pre enc C.prog fn [] false (w.forCall tape i).memory i.args ∧ laidMetH C.prog laid (w.forCall tape i).memory) ∧ sizedMet enc C.prog fn (OpenSpec.ofChange s) false (w.forCall tape i).memory i.args) ∧ ({} : Assume).holds C.prog (lone (Frame.enter C.prog f i.args .normal) [] (w.forCall tape i)))
    (contract : ∀ (W : World) (base : Nat) (args : Array Value) (ds gs : List (DataW H)) (p q : List MemPlace),
      (∀ (j : Nat) t v, fn.params[j]? = some t → args[j]? = some v → Value.okWide C.prog W .any base t v) →
      DataW.TrodAll enc C.prog W 0 (fun _ => true) true fn.params.toList args.toList ds p → DataW.TrodVars enc C.prog W (fun _ => true) s.vars gs q →
      (∀ x ∈ p, x.block < W.heap.size) →
      (DataW.weightsEach C.prog (fn.params.toList ++ s.plain.varTypes C.prog) (ds ++ gs)).all (· ≤ reachBytes) = true → laidMetH C.prog laid W → W.ShapedOpen C.prog →
      s.fn H (ds ++ gs) = { results := [.lit (.bool true)], args := ds } ∧ Calls C.prog f args W fun e W' => e = .returned (.bool true) ∧ Below W.heap.size W W') :
    ReturnsInHanded {} C os f .any (fun w args => (s.pre enc C.prog fn [] false w args ∧ laidMetH C.prog laid w) ∧ sizedMet enc C.prog fn (OpenSpec.ofChange s) false w args) (s.post enc C.prog fn false true false false) := by
  refine returnsInHanded_of_calls own started noInit witness ?_
  intro w tape i _ hsh _ hok hpre _
  obtain ⟨_, _, _, fn', hfn', _, _, _, _, hval⟩ := hok
  obtain rfl : fn' = fn := Option.some.inj (hfn'.symm.trans hfn)
  obtain ⟨⟨⟨ds, gs, before, hw, _⟩, hx⟩, hz⟩ := hpre
  have hw' := DataW.Whole.of_heap (w' := w.forCall tape i) (by rfl) hw
  have hlt := hw'.lt
  obtain ⟨p, q, hA, hV, hpq, _, _⟩ := id hw'
  obtain ⟨hspec, hcall⟩ := contract (w.forCall tape i) w.heap.size i.args ds gs p q hval hA hV (fun x hx => hlt x (by rw [hpq]; simp [hx])) (hz.weights hw) (hx.of_heap (by rfl)) hsh
  refine hcall.mono fun e W' ⟨he, hb⟩ => ?_
  subst he
  exact ChangeSpec.post_blind (law_post hl hr hres htb hvars hspec hw' hb)
end Go.Proofs.Pw

/- Closed facts of the seat's program that every law's last text uses. -/
namespace Go.Proofs.Pw
open Go.RowKit
theorem Tryz.factLaid : laidOutB Tryz.prog = true := by kernel_rfl
theorem Tryz.factMaps : mapsRowed Tryz.prog = true := by kernel_rfl
end Go.Proofs.Pw
