/- Mp: walks and plain laws, joined: LongIdx LongMath TrimLeast RefWithout RootsOf LeastMath Rise SlDelF Rise2 Sel Closed RefUnder Rises MvsLeast FileTellsMath ErrLe ErrIs ErrAs Code Coded Faulted Box TrimTells Env EnvP Open. Conditions: at each theorem. -/
import Derived.Test.YtnkcobdgaldkfaaGreatDoorMpb
import Derived.Test.YtnkcobdgaldkfaaGreatDoorMpd
import Derived.Test.YtnkcobdgaldkfaaGreatDoorMpc
import Derived.Deep.LoopGhost
import Derived.Lib.SlKept
import Derived.Test.YtnkcobdgaldkfaaGreatDoorMpa
import Derived.Test.YtnkcobdgaldkfaaGreatDoorProg
import Derived.WalkKit
import Derived.LaidEql
import Derived.Stop.Asserts
import Derived.RowKitTokens
import Derived.Lib.Hide
import Derived.WalkLawsBesides
import Derived.WalkSpells
import Derived.Stop.IfaceNil
import Derived.Stop.LaidErr
import Derived.LaidHandle
import Derived.SliceStrings
import Derived.Deep.Slices
import Derived.Deep.Fields

/- LongIndex of the statements. -/
namespace Go.Proofs.Pw
open Go.RowKit
open Go.Lib hiding intOf

def longEn (e : En) : Bool := decide (70 < e.md.1.length) || (decide (60 < e.md.2.length) || (longMods e.reqs 25 || (decide (15 < e.packs.length) || e.packs.any fun s => decide (70 < s.length))))
def longIdx (l : List En) : Bool := decide (30 < l.length ∧ l.length ≠ 101) || l.any longEn
def longII (l : List En) : Int := if longIdx l = true then 1 else 0
theorem longIdx_hit {l : List En} {k : Nat} (hk : k < l.length) (h : longEn (enAt l k) = true) : longII l = 1 := by
  unfold longII longIdx
  rw [if_pos]
  rw [Bool.or_eq_true]
  exact .inr (List.any_eq_true.2 ⟨_, enAt_mem hk, h⟩)
theorem longIdx_none {l : List En} (h0 : ¬ (30 < l.length ∧ l.length ≠ 101)) (h : ∀ j, j < l.length → longEn (enAt l j) = false) : longII l = 0 := by
  unfold longII longIdx
  rw [if_neg]
  rw [Bool.or_eq_true]
  rintro (h1 | h1)
  · exact h0 (of_decide_eq_true h1)
  · obtain ⟨e, he, h2⟩ := List.any_eq_true.1 h1
    obtain ⟨i, hi⟩ := List.getElem?_of_mem he
    have hl := (List.getElem?_eq_some_iff.1 hi).1
    rw [enAt_get hl] at hi
    rw [← Option.some.inj hi, h i hl] at h2
    cases h2


set_option maxHeartbeats 4000000 in
set_option maxRecDepth 100000 in
theorem longIndex_in (a : Option Addr) (n cap : Nat) (P V : Nat → ByteArray) (R : Nat → List Md) (K : Nat → List Str) (Bk : Nat → Bool) (Rv Kv : Nat → Value) (w : World) (h : EntsIn w a n cap P V R K Bk Rv Kv) :
    Calls Tryz.prog 12 #[.slice a n cap] w fun e w' => e = .returned (.int .i64 (longII (enF n P V R K Bk))) ∧ w = w' := by
  have hcap := h.cap
  have hle := h.le
  have H := Lib.hid h
  clear h
  by_cases h30 : 30 < n ∧ n ≠ 101
  · have HF : Hid (longII (enF n P V R K Bk) = 1) := Lib.hid (by
      unfold longII longIdx
      rw [if_pos]
      rw [Bool.or_eq_true, enF_length]
      exact .inl (decide_eq_true h30))
    have h1 : (30 : Int) < (n : Int) := by omega
    have h2 : ((n : Int) != 101) = true := bne_iff_ne.2 (by omega)
    have h3 : ((n : Int) == 101) = false := beq_eq_false_iff_ne.2 (by omega)
    clear h30
    go_enter Tryz.func12, Tryz.ntmps12
    go_wp2_with fail
    go_ret
    rw [HF.out]
    exact ⟨rfl, rfl⟩
  · have hn101 : n ≤ 101 := by omega
    by_cases h31 : n = 101
    · have h1 : (30 : Int) < (n : Int) := by omega
      have h2 : ((n : Int) != 101) = false := by subst h31; rfl
      have h3 : ((n : Int) == 101) = true := by subst h31; rfl
      clear h31
      go_enter Tryz.func12, Tryz.ntmps12
      go_wp2_with fail
      go_loop [3] (fun i => ∃ k : Nat, k ≤ n ∧ i = .int .i64 k ∧ Hid (∀ j, j < k → longEn (enAt (enF n P V R K Bk) j) = false)) (fun i => n - (intOf i).toNat)
      case atStart => exact ⟨0, Nat.zero_le _, rfl, Lib.hid (fun j hj => absurd hj (Nat.not_lt_zero _))⟩
      case round =>
        obtain ⟨k, hk, rfl, HA⟩ := hrel
        by_cases hlt : k < n
        · have hkn : (k : Int) < (n : Int) := by omega
          obtain ⟨b1, o1, ea, hcell⟩ := H.out.at_ k hlt
          have hM := H.out.reqs k hlt
          obtain ⟨aK, nK, cK, LK, eK, eKl, _, _, hKc⟩ := H.out.packs k hlt
          obtain ⟨aM, nM, cM, _, _, eM, _⟩ := id hM
          rw [eM, eK] at hcell
          rw [eM] at hM
          have hlm := longMods_calls (.slice aM nM cM) (R k) 25 w hM
          have hEn : longEn (enAt (enF n P V R K Bk) k) = (decide (70 < (P k).size) || (decide (60 < (V k).size) || (longMods (R k) 25 || (decide (15 < nK) || (lstF nK LK).any fun s => decide (70 < s.length))))) := by
            rw [enAt_enF hlt]
            unfold longEn
            simp only [← size_eq, eKl, lstF_length]
          have hhit : longEn (enAt (enF n P V R K Bk) k) = true → longII (enF n P V R K Bk) = 1 := longIdx_hit (by rw [enF_length]; exact hlt)
          subst ea
          obtain ⟨d0, d1, d2, d3, d4⟩ := hcell
          replace hhit := Lib.hid hhit
          replace hEn := Lib.hid hEn
          replace hlm := Lib.hid hlm
          replace hKc := Lib.hid hKc
          clear hM eM eK eKl
          by_cases c1 : 70 < (P k).size
          · have HF : Hid (longII (enF n P V R K Bk) = 1) := Lib.hid (hhit.out (by rw [hEn.out, decide_eq_true c1]; rfl))
            have c1' : (70 : Int) < ((P k).size : Int) := by omega
            go_wp2_with fail
            go_ret
            rw [HF.out]
            exact ⟨rfl, rfl⟩
          · have c1' : ¬ (70 : Int) < ((P k).size : Int) := by omega
            by_cases c2 : 60 < (V k).size
            · have HF : Hid (longII (enF n P V R K Bk) = 1) := Lib.hid (hhit.out (by rw [hEn.out, decide_eq_false c1, decide_eq_true c2]; rfl))
              have c2' : (60 : Int) < ((V k).size : Int) := by omega
              go_wp2_with fail
              go_ret
              rw [HF.out]
              exact ⟨rfl, rfl⟩
            · have c2' : ¬ (60 : Int) < ((V k).size : Int) := by omega
              cases c3 : longMods (R k) 25 with
              | true =>
                have HF : Hid (longII (enF n P V R K Bk) = 1) := Lib.hid (hhit.out (by rw [hEn.out, decide_eq_false c1, decide_eq_false c2, c3]; rfl))
                rw [longI_yes c3] at hlm
                clear c3
                go_wp2_with fail
                refine hlm.out.mono ?_
                rintro e w' ⟨rfl, rfl⟩
                go_wp2_with fail
                go_ret
                rw [HF.out]
                exact ⟨rfl, rfl⟩
              | false =>
                rw [longI_no c3] at hlm
                by_cases c4 : 15 < nK
                · have HF : Hid (longII (enF n P V R K Bk) = 1) := Lib.hid (hhit.out (by rw [hEn.out, decide_eq_false c1, decide_eq_false c2, c3, decide_eq_true c4]; rfl))
                  have c4' : (15 : Int) < (nK : Int) := by omega
                  clear c3
                  go_wp2_with fail
                  refine hlm.out.mono ?_
                  rintro e w' ⟨rfl, rfl⟩
                  go_wp2_with fail
                  go_ret
                  rw [HF.out]
                  exact ⟨rfl, rfl⟩
                · have c4' : ¬ (15 : Int) < (nK : Int) := by omega
                  have HE2 : Hid (longEn (enAt (enF n P V R K Bk) k) = (lstF nK LK).any fun s => decide (70 < s.length)) := Lib.hid (by rw [hEn.out, decide_eq_false c1, decide_eq_false c2, c3, decide_eq_false c4]; rfl)
                  clear c3
                  go_wp2_with fail
                  refine hlm.out.mono ?_
                  rintro e w' ⟨rfl, rfl⟩
                  go_wp2_with fail
                  go_loop [4] (fun i => ∃ q : Nat, q ≤ nK ∧ i = .int .i64 q ∧ Hid (∀ j, j < q → ¬ 70 < (LK j).size)) (fun i => nK - (intOf i).toNat)
                  case atStart => exact ⟨0, Nat.zero_le _, rfl, Lib.hid (fun j hj => absurd hj (Nat.not_lt_zero _))⟩
                  case round =>
                    obtain ⟨q, hq, rfl, HA2⟩ := hrel
                    by_cases hq2 : q < nK
                    · have hqn : (q : Int) < (nK : Int) := by omega
                      obtain ⟨b2, o2, ek, r0⟩ := hKc.out q hq2
                      subst ek
                      by_cases c5 : 70 < (LK q).size
                      · have HF : Hid (longII (enF n P V R K Bk) = 1) := Lib.hid (hhit.out (by
                          rw [HE2.out, List.any_eq_true]
                          refine ⟨_, List.mem_of_getElem? (show (lstF nK LK)[q]? = some (LK q).data.toList by simp [lstF, hq2]), ?_⟩
                          rw [← size_eq]; exact decide_eq_true c5))
                        have c5' : (70 : Int) < ((LK q).size : Int) := by omega
                        go_wp2_with fail
                        go_ret
                        rw [HF.out]
                        exact ⟨rfl, rfl⟩
                      · have c5' : ¬ (70 : Int) < ((LK q).size : Int) := by omega
                        have HN : Hid (∀ j, j < q + 1 → ¬ 70 < (LK j).size) := Lib.hid (fun j hj => by
                          by_cases e : j = q
                          · subst e; exact c5
                          · exact HA2.out j (by omega))
                        go_wp2_with fail
                        go_round
                        case rel => exact ⟨q + 1, by omega, by go_num, HN⟩
                        case measure => simp [intOf]; omega
                    · obtain rfl : nK = q := by omega
                      have HN : Hid (∀ j, j < k + 1 → longEn (enAt (enF n P V R K Bk) j) = false) := Lib.hid (fun j hj => by
                        by_cases e : j = k
                        · subst e
                          rw [HE2.out, List.any_eq_false]
                          intro s hs
                          obtain ⟨i, hi⟩ := List.getElem?_of_mem hs
                          have hil : i < nK := by have := (List.getElem?_eq_some_iff.1 hi).1; simpa [lstF] using this
                          have : (lstF nK LK)[i]? = some (LK i).data.toList := by simp [lstF, hil]
                          rw [this] at hi
                          rw [← Option.some.inj hi, ← size_eq]
                          have := HA2.out i hil
                          simpa using this
                        · exact HA.out j (by omega))
                      go_wp2_with fail
                      go_round
                      case rel => exact ⟨k + 1, by omega, by go_num, HN⟩
                      case measure => simp [intOf]; omega
        · obtain rfl : n = k := by omega
          have HF : Hid (longII (enF n P V R K Bk) = 0) := Lib.hid (longIdx_none (by rw [enF_length]; exact h30) (by rw [enF_length]; exact HA.out))
          go_wp2_with fail
          go_ret
          rw [HF.out]
          exact ⟨rfl, rfl⟩
    · have h1 : ¬ (30 : Int) < (n : Int) := by omega
      clear h31
      go_enter Tryz.func12, Tryz.ntmps12
      go_wp2_with fail
      go_loop [3] (fun i => ∃ k : Nat, k ≤ n ∧ i = .int .i64 k ∧ Hid (∀ j, j < k → longEn (enAt (enF n P V R K Bk) j) = false)) (fun i => n - (intOf i).toNat)
      case atStart => exact ⟨0, Nat.zero_le _, rfl, Lib.hid (fun j hj => absurd hj (Nat.not_lt_zero _))⟩
      case round =>
        obtain ⟨k, hk, rfl, HA⟩ := hrel
        by_cases hlt : k < n
        · have hkn : (k : Int) < (n : Int) := by omega
          obtain ⟨b1, o1, ea, hcell⟩ := H.out.at_ k hlt
          have hM := H.out.reqs k hlt
          obtain ⟨aK, nK, cK, LK, eK, eKl, _, _, hKc⟩ := H.out.packs k hlt
          obtain ⟨aM, nM, cM, _, _, eM, _⟩ := id hM
          rw [eM, eK] at hcell
          rw [eM] at hM
          have hlm := longMods_calls (.slice aM nM cM) (R k) 25 w hM
          have hEn : longEn (enAt (enF n P V R K Bk) k) = (decide (70 < (P k).size) || (decide (60 < (V k).size) || (longMods (R k) 25 || (decide (15 < nK) || (lstF nK LK).any fun s => decide (70 < s.length))))) := by
            rw [enAt_enF hlt]
            unfold longEn
            simp only [← size_eq, eKl, lstF_length]
          have hhit : longEn (enAt (enF n P V R K Bk) k) = true → longII (enF n P V R K Bk) = 1 := longIdx_hit (by rw [enF_length]; exact hlt)
          subst ea
          obtain ⟨d0, d1, d2, d3, d4⟩ := hcell
          replace hhit := Lib.hid hhit
          replace hEn := Lib.hid hEn
          replace hlm := Lib.hid hlm
          replace hKc := Lib.hid hKc
          clear hM eM eK eKl
          by_cases c1 : 70 < (P k).size
          · have HF : Hid (longII (enF n P V R K Bk) = 1) := Lib.hid (hhit.out (by rw [hEn.out, decide_eq_true c1]; rfl))
            have c1' : (70 : Int) < ((P k).size : Int) := by omega
            go_wp2_with fail
            go_ret
            rw [HF.out]
            exact ⟨rfl, rfl⟩
          · have c1' : ¬ (70 : Int) < ((P k).size : Int) := by omega
            by_cases c2 : 60 < (V k).size
            · have HF : Hid (longII (enF n P V R K Bk) = 1) := Lib.hid (hhit.out (by rw [hEn.out, decide_eq_false c1, decide_eq_true c2]; rfl))
              have c2' : (60 : Int) < ((V k).size : Int) := by omega
              go_wp2_with fail
              go_ret
              rw [HF.out]
              exact ⟨rfl, rfl⟩
            · have c2' : ¬ (60 : Int) < ((V k).size : Int) := by omega
              cases c3 : longMods (R k) 25 with
              | true =>
                have HF : Hid (longII (enF n P V R K Bk) = 1) := Lib.hid (hhit.out (by rw [hEn.out, decide_eq_false c1, decide_eq_false c2, c3]; rfl))
                rw [longI_yes c3] at hlm
                clear c3
                go_wp2_with fail
                refine hlm.out.mono ?_
                rintro e w' ⟨rfl, rfl⟩
                go_wp2_with fail
                go_ret
                rw [HF.out]
                exact ⟨rfl, rfl⟩
              | false =>
                rw [longI_no c3] at hlm
                by_cases c4 : 15 < nK
                · have HF : Hid (longII (enF n P V R K Bk) = 1) := Lib.hid (hhit.out (by rw [hEn.out, decide_eq_false c1, decide_eq_false c2, c3, decide_eq_true c4]; rfl))
                  have c4' : (15 : Int) < (nK : Int) := by omega
                  clear c3
                  go_wp2_with fail
                  refine hlm.out.mono ?_
                  rintro e w' ⟨rfl, rfl⟩
                  go_wp2_with fail
                  go_ret
                  rw [HF.out]
                  exact ⟨rfl, rfl⟩
                · have c4' : ¬ (15 : Int) < (nK : Int) := by omega
                  have HE2 : Hid (longEn (enAt (enF n P V R K Bk) k) = (lstF nK LK).any fun s => decide (70 < s.length)) := Lib.hid (by rw [hEn.out, decide_eq_false c1, decide_eq_false c2, c3, decide_eq_false c4]; rfl)
                  clear c3
                  go_wp2_with fail
                  refine hlm.out.mono ?_
                  rintro e w' ⟨rfl, rfl⟩
                  go_wp2_with fail
                  go_loop [4] (fun i => ∃ q : Nat, q ≤ nK ∧ i = .int .i64 q ∧ Hid (∀ j, j < q → ¬ 70 < (LK j).size)) (fun i => nK - (intOf i).toNat)
                  case atStart => exact ⟨0, Nat.zero_le _, rfl, Lib.hid (fun j hj => absurd hj (Nat.not_lt_zero _))⟩
                  case round =>
                    obtain ⟨q, hq, rfl, HA2⟩ := hrel
                    by_cases hq2 : q < nK
                    · have hqn : (q : Int) < (nK : Int) := by omega
                      obtain ⟨b2, o2, ek, r0⟩ := hKc.out q hq2
                      subst ek
                      by_cases c5 : 70 < (LK q).size
                      · have HF : Hid (longII (enF n P V R K Bk) = 1) := Lib.hid (hhit.out (by
                          rw [HE2.out, List.any_eq_true]
                          refine ⟨_, List.mem_of_getElem? (show (lstF nK LK)[q]? = some (LK q).data.toList by simp [lstF, hq2]), ?_⟩
                          rw [← size_eq]; exact decide_eq_true c5))
                        have c5' : (70 : Int) < ((LK q).size : Int) := by omega
                        go_wp2_with fail
                        go_ret
                        rw [HF.out]
                        exact ⟨rfl, rfl⟩
                      · have c5' : ¬ (70 : Int) < ((LK q).size : Int) := by omega
                        have HN : Hid (∀ j, j < q + 1 → ¬ 70 < (LK j).size) := Lib.hid (fun j hj => by
                          by_cases e : j = q
                          · subst e; exact c5
                          · exact HA2.out j (by omega))
                        go_wp2_with fail
                        go_round
                        case rel => exact ⟨q + 1, by omega, by go_num, HN⟩
                        case measure => simp [intOf]; omega
                    · obtain rfl : nK = q := by omega
                      have HN : Hid (∀ j, j < k + 1 → longEn (enAt (enF n P V R K Bk) j) = false) := Lib.hid (fun j hj => by
                        by_cases e : j = k
                        · subst e
                          rw [HE2.out, List.any_eq_false]
                          intro s hs
                          obtain ⟨i, hi⟩ := List.getElem?_of_mem hs
                          have hil : i < nK := by have := (List.getElem?_eq_some_iff.1 hi).1; simpa [lstF] using this
                          have : (lstF nK LK)[i]? = some (LK i).data.toList := by simp [lstF, hil]
                          rw [this] at hi
                          rw [← Option.some.inj hi, ← size_eq]
                          have := HA2.out i hil
                          simpa using this
                        · exact HA.out j (by omega))
                      go_wp2_with fail
                      go_round
                      case rel => exact ⟨k + 1, by omega, by go_num, HN⟩
                      case measure => simp [intOf]; omega
        · obtain rfl : n = k := by omega
          have HF : Hid (longII (enF n P V R K Bk) = 0) := Lib.hid (longIdx_none (by rw [enF_length]; exact h30) (by rw [enF_length]; exact HA.out))
          go_wp2_with fail
          go_ret
          rw [HF.out]
          exact ⟨rfl, rfl⟩
theorem longIndex_calls (v : Value) (l : List En) (w : World) (h : EntsAt w v l) :
    Calls Tryz.prog 12 #[v] w fun e w' => e = .returned (.int .i64 (longII l)) ∧ w = w' := by
  obtain ⟨a, n, cap, P, V, R, K, B, Rv, Kv, rfl, rfl, hin⟩ := h
  exact longIndex_in a n cap P V R K B Rv Kv w hin
end Go.Proofs.Pw

/- What is not too long for a statement is short. No program in sight. -/
namespace Go.Proofs.Pw
open Go.Lib hiding intOf

/-! ### no program in sight -/
theorem longMods_small {l : List Md} {k : Nat} (h : longMods l k = false) : l.length ≤ k ∧ ∀ m ∈ l, m.1.length ≤ 70 ∧ m.2.length ≤ 60 := by
  unfold longMods at h
  rw [Bool.or_eq_false_iff] at h
  refine ⟨by have := of_decide_eq_false h.1; omega, fun m hm => ?_⟩
  have h2 := List.any_eq_false.1 h.2 m hm
  simp only [Bool.or_eq_true, decide_eq_true_eq] at h2
  omega
theorem longEn_small {e : En} (h : longEn e = false) : e.md.1.length ≤ 70 ∧ e.md.2.length ≤ 60 ∧ longMods e.reqs 25 = false ∧ e.packs.length ≤ 15 ∧ ∀ s ∈ e.packs, s.length ≤ 70 := by
  unfold longEn at h
  rw [Bool.or_eq_false_iff, Bool.or_eq_false_iff, Bool.or_eq_false_iff, Bool.or_eq_false_iff] at h
  obtain ⟨h1, h2, h3, h4, h5⟩ := h
  refine ⟨by have := of_decide_eq_false h1; omega, by have := of_decide_eq_false h2; omega, h3, by have := of_decide_eq_false h4; omega, fun s hs => ?_⟩
  have := List.any_eq_false.1 h5 s hs
  simp only [decide_eq_true_eq] at this
  omega
theorem longIdx_small {l : List En} (h : longIdx l = false) : l.length ≤ 101 ∧ ∀ e ∈ l, longEn e = false := by
  unfold longIdx at h
  rw [Bool.or_eq_false_iff] at h
  refine ⟨by have := of_decide_eq_false h.1; omega, fun e he => ?_⟩
  have := List.any_eq_false.1 h.2 e he
  simpa using this
theorem longIdx_short {l : List En} (h : longIdx l = false) : ShortI l := by
  obtain ⟨h1, h2⟩ := longIdx_small h
  refine ⟨by omega, fun e he => ?_, fun e he => ?_, fun e he => ?_⟩
  · have := longEn_small (h2 e he); omega
  · have h3 := longMods_small (longEn_small (h2 e he)).2.2.1
    exact ⟨by omega, fun m hm => by have := h3.2 m hm; omega⟩
  · have h3 := longEn_small (h2 e he)
    exact ⟨by omega, fun s hs => by have := h3.2.2.2.2 s hs; omega⟩
theorem longII_no {l : List En} (h : longIdx l = false) : longII l = 0 := by unfold longII; rw [h]; rfl
theorem longII_yes {l : List En} (h : longIdx l = true) : longII l = 1 := by unfold longII; rw [h]; rfl
theorem any_md {l : List Md} {m : Md} : (l.any fun x => decide (x = m)) = decide (m ∈ l) := by
  rw [Bool.eq_iff_iff, List.any_eq_true, decide_eq_true_iff]
  constructor
  · rintro ⟨x, hx, h⟩
    rw [← of_decide_eq_true h]; exact hx
  · intro h
    exact ⟨m, h, decide_eq_true rfl⟩
end Go.Proofs.Pw

/- TrimLeast: its walk. -/
namespace Go.Proofs.Pw
open Go.RowKit
open Go.Lib hiding intOf

theorem ModsAt.dropS {w : World} {b o n cap k : Nat} {l : List Md} (h : ModsAt w (.slice (some ⟨b, o, none⟩) n cap) l) (hk : k ≤ n) : ModsAt w (.slice (some ⟨b, o + k * 2, none⟩) (n - k) (cap - k)) (l.drop k) := by
  obtain ⟨a', n', cap', P, V, e, rfl, h3, h4, h5⟩ := h
  injection e with e1 e2 e3
  subst e1 e2 e3
  refine ⟨_, n - k, cap - k, fun j => P (k + j), fun j => V (k + j), rfl, ?_, by omega, by omega, fun j hj => ?_⟩
  · apply List.ext_getElem?
    intro i
    rw [List.getElem?_drop]
    by_cases hi : i < n - k
    · rw [mdF_get n P V (k + i) (by omega), mdF_get _ _ _ i hi]
    · rw [List.getElem?_eq_none (by rw [mdF_length]; omega), List.getElem?_eq_none (by rw [mdF_length]; omega)]
  · obtain ⟨b', o', e, c0, c1⟩ := h5 (k + j) (by omega)
    injection e with e
    injection e with e1 e2 _
    subst e1 e2
    refine ⟨b, o + k * 2, rfl, ?_, ?_⟩
    · rw [show o + k * 2 + j * 2 = o + (k + j) * 2 by omega]; exact c0
    · rw [show o + k * 2 + j * 2 + 1 = o + (k + j) * 2 + 1 by omega]; exact c1
theorem mods_none (w : World) (a : Option Addr) : ModsAt w (.slice a 0 0) [] := ⟨a, 0, 0, fun _ => ⟨#[]⟩, fun _ => ⟨#[]⟩, rfl, rfl, Nat.le_refl _, by decide, fun j hj => absurd hj (Nat.not_lt_zero _)⟩
theorem take_drop_erase {α : Type} (l : List α) (i : Nat) : l.take i ++ l.drop (i + 1) = l.eraseIdx i := (List.eraseIdx_eq_take_drop_succ l i).symm

/-- what is shared by the walks -/
structure TlArgs (ks : List Nat) (A : Nat → Addr) (la : Option Addr) (ln lc : Nat) (P V : Nat → ByteArray) (R : Nat → List Md) (K : Nat → List Str) (Bk : Nat → Bool) (Rv Kv : Nat → Value) (av : Value) (Am : List Md) (w : World) : Prop where
  idx : IdxKs ks
  env : EnvP ks A w
  l : EntsIn w la ln lc P V R K Bk Rv Kv
  a : ModsAt w av Am


end Go.Proofs.Pw

/- B.without: a list of modules without the one at a place. -/
namespace Go.Proofs.Pw
open Go.RowKit
open Go.Lib hiding intOf

set_option maxHeartbeats 4000000 in
set_option maxRecDepth 100000 in
theorem without_calls (v : Value) (l : List Md) (k : Nat) (w : World) (h : ModsAt w v l) (hk : k < l.length) (hl : l.length ≤ 100000) :
    Calls Tryz.prog 85 #[v, .int .i64 k] w fun e w' => (∃ v' L, e = .returned v' ∧ mdTs L = l.eraseIdx k ∧ w'.ownsRow w.heap.size 38 2 v' L.length (mdVs L)) ∧ Below w.heap.size w w' := by
  obtain ⟨a5, c5, rfl⟩ := mods_len h
  have hx5 := h
  obtain ⟨b5, o5, rfl⟩ : ∃ b o, a5 = some ⟨b, o, none⟩ := by
    obtain ⟨a', c', P9, V9, e, _, h⟩ := hx5.cells
    obtain ⟨b, o, h, _⟩ := h k hk
    injection e with e
    exact ⟨b, o, e.trans h⟩
  have hcap : l.length ≤ c5 := by
    obtain ⟨_, n', _, _, _, e, e2, h3, _⟩ := id hx5
    injection e with _ e3 e4
    omega
  have HX5 := Lib.hid hx5
  have hwk := wrap_nat (k + 1) (by omega)
  have hkn : (k : Int) < (l.length : Int) := by omega
  have hk1 : k ≤ c5 := by omega
  have hk2 : k + 1 ≤ c5 := by omega
  have hk3 : (k : Int) ≤ (c5 : Int) := by omega
  have hk4 : (k : Int) + 1 ≤ (c5 : Int) := by omega
  have hk5 : (k : Int) + 1 ≤ (l.length : Int) := by omega
  have hk6 : (l.length : Int) ≤ (c5 : Int) := by omega
  have hk7 : ((k : Int) + 1).toNat = k + 1 := by omega
  have hk8 : (0 : Int) ≤ (k : Int) + 1 := by omega
  clear h
  by_cases hc1 : c5 = k + 1
  · subst hc1
    have hdr : ∀ W, Below w.heap.size w W → ModsAt W (.slice (some ⟨b5, o5, none⟩) 0 0) (l.drop (k + 1)) := fun W hW => by
      rw [List.drop_eq_nil_of_le (by omega)]
      exact mods_none _ _
    obtain ⟨o9, w9, hap9, ⟨L9, hL9, ho9⟩, hg9⟩ := app_mods w w.heap.size (Nat.le_refl _) (.slice none 0 0) (.slice (some ⟨b5, o5, none⟩) k (k + 1)) [] (l.take k) (World.ownsRow_nil _ _ _ _) (hx5.take (by omega)) (by simp) (by rw [List.length_take]; omega)
    have hb9 : Below w.heap.size w w9 := (Below.refl _ _).grown hg9 (Nat.le_refl _) (fun q hq => by cases hq)
    obtain ⟨o10, w10, hap10, ⟨L10, hL10, ho10⟩, hg10⟩ := app_mods w9 w.heap.size hb9.size o9 _ L9 _ ho9 (hdr w9 hb9) (by have := congrArg List.length hL9; rw [mdTs_length, List.length_append, List.length_take] at this; simp [mdTs] at this; omega) (by rw [List.length_drop]; omega)
    have hb10 : Below w.heap.size w w10 := hb9.grown hg10 hb9.size (fun q hq => (ho9.lt q hq).1)
    have HT : Hid (mdTs L10 = l.eraseIdx k) := Lib.hid (by rw [hL10, hL9]; simp only [mdTs, List.map_nil, List.nil_append]; exact take_drop_erase _ _)
    have HO := Lib.hid ho10
    obtain ⟨a9, m9, c9, rfl⟩ := own_form ho9
    have HAP9 := Lib.hid hap9
    have HAP10 := Lib.hid hap10
    clear hap9 hap10 hL9 hL10 ho9 ho10 hg9 hg10 hb9 hdr hx5
    go_enter Tryz.func85, Tryz.ntmps85
    go_wp2_with (at_builtin; first | (refine wpList_append_run rfl _ _ 23 rfl _ _ rfl rfl _ _ HAP9.out ?_) | (refine wpList_append_run rfl _ _ 23 rfl _ _ rfl rfl _ _ HAP10.out ?_))
    go_ret
    exact ⟨⟨_, _, rfl, HT.out, HO.out⟩, hb10⟩
  · have hdr : ∀ W, Below w.heap.size w W → ModsAt W (.slice (some ⟨b5, o5 + (k + 1) * 2, none⟩) (l.length - (k + 1)) (c5 - (k + 1))) (l.drop (k + 1)) := fun W hW =>
      (HX5.out.below hW).dropS (by omega)
    obtain ⟨o9, w9, hap9, ⟨L9, hL9, ho9⟩, hg9⟩ := app_mods w w.heap.size (Nat.le_refl _) (.slice none 0 0) (.slice (some ⟨b5, o5, none⟩) k c5) [] (l.take k) (World.ownsRow_nil _ _ _ _) (hx5.take (by omega)) (by simp) (by rw [List.length_take]; omega)
    have hb9 : Below w.heap.size w w9 := (Below.refl _ _).grown hg9 (Nat.le_refl _) (fun q hq => by cases hq)
    obtain ⟨o10, w10, hap10, ⟨L10, hL10, ho10⟩, hg10⟩ := app_mods w9 w.heap.size hb9.size o9 _ L9 _ ho9 (hdr w9 hb9) (by have := congrArg List.length hL9; rw [mdTs_length, List.length_append, List.length_take] at this; simp [mdTs] at this; omega) (by rw [List.length_drop]; omega)
    have hb10 : Below w.heap.size w w10 := hb9.grown hg10 hb9.size (fun q hq => (ho9.lt q hq).1)
    have HT : Hid (mdTs L10 = l.eraseIdx k) := Lib.hid (by rw [hL10, hL9]; simp only [mdTs, List.map_nil, List.nil_append]; exact take_drop_erase _ _)
    have HO := Lib.hid ho10
    obtain ⟨a9, m9, c9, rfl⟩ := own_form ho9
    have HAP9 := Lib.hid hap9
    have HAP10 := Lib.hid hap10
    clear hap9 hap10 hL9 hL10 ho9 ho10 hg9 hg10 hb9 hdr hx5
    go_enter Tryz.func85, Tryz.ntmps85
    go_wp2_with (at_builtin; first | (refine wpList_append_run rfl _ _ 23 rfl _ _ rfl rfl _ _ HAP9.out ?_) | (refine wpList_append_run rfl _ _ 23 rfl _ _ rfl rfl _ _ HAP10.out ?_))
    go_ret
    exact ⟨⟨_, _, rfl, HT.out, HO.out⟩, hb10⟩
end Go.Proofs.Pw

/- B.RootsOf: the fewest roots of a selection, and the fault. Conditions: an index that is short, a list of at most 100000. -/
namespace Go.Proofs.Pw
open Go.RowKit
open Go.Lib hiding intOf

/-- a list of modules in a row of one's own -/
def OwnT (w : World) (base : Nat) (v : Value) (l : List Md) : Prop := ∃ L, mdTs L = l ∧ w.ownsRow base 38 2 v L.length (mdVs L)
theorem OwnT.mods {w : World} {base : Nat} {v : Value} {l : List Md} (h : OwnT w base v l) : ModsAt w v l := by
  obtain ⟨L, rfl, ho⟩ := h
  exact modsAt_own ho
theorem OwnT.below {w w' : World} {base : Nat} {v : Value} {l : List Md} (h : OwnT w base v l) (hb : Below w.heap.size w w') : OwnT w' base v l := by
  obtain ⟨L, e, ho⟩ := h
  exact ⟨L, e, ownsRow_kept ho hb⟩
theorem OwnT.set2 {w : World} {base b : Nat} {v : Value} {l : List Md} (h : OwnT w base v l) (hb : b < base) : ∀ u0 u1 : Value, ModsAt ((w.setCell ⟨b, 0, none⟩ u0).setCell ⟨b, 1, none⟩ u1) v l := fun u0 u1 => by
  obtain ⟨L, rfl, ho⟩ := h
  have hne := own_ne (b := b) ho hb
  exact modsAt_own (ownsRow_set (ownsRow_set ho hne u0) hne u1)

set_option maxHeartbeats 8000000 in
set_option maxRecDepth 100000 in
theorem rootsOf_in (a : Option Addr) (n cap : Nat) (P V : Nat → ByteArray) (R : Nat → List Md) (K : Nat → List Str) (B : Nat → Bool) (Rv Kv : Nat → Value) (sv : Value) (sel : List Md) (w : World) (h : EntsIn w a n cap P V R K B Rv Kv) (ha : ModsAt w sv sel) (hs : ShortI (enF n P V R K B)) (hla : sel.length ≤ 100000) :
    Calls Tryz.prog 37 #[.slice a n cap, sv] w fun e w' => (∃ v, e = .returned (.tuple #[v, fltV (trimErr (enF n P V R K B) sel)]) ∧ ModsAt w' v (trimR (enF n P V R K B) sel)) ∧ Below w.heap.size w w' := by
  have hB := below_alloc w (.cells #[.int .i64 0, .int .i64 0] 49)
  have hz := box2_alloc w (.int .i64 0) (.int .i64 0) 49
  have hbu := fun (W : World) (hb : Below w.heap.size w W) rv roots (hr : ModsAt W rv roots) (hl : roots.length ≤ 1000000) => buildOf_in a n cap P V R K B Rv Kv rv roots W (h.below hb) hr hs hl
  obtain ⟨a1, n1, c1, _, _, rfl, -⟩ := id ha
  have HA := Lib.hid ha
  generalize hl0 : enF n P V R K B = l at *
  have h1 := hbu _ hB _ _ (ha.below hB) (by omega)
  have hse : (startErr l sel).1 = 0 → startErr l sel = (0, -1) := fun h => startErr_at h
  have hT1 : (startErr l sel).1 ≠ 0 → trimErr l sel = startErr l sel ∧ trimR l sel = [] := fun h0 => ⟨by unfold trimErr; rw [if_pos h0], by unfold trimR; rw [if_neg (fun h => h0 h.1)]⟩
  have hT2 : (startErr l sel).1 = 0 → buildL l sel ≠ sel → trimErr l sel = (3, -1) ∧ trimR l sel = [] := fun h0 he => ⟨by unfold trimErr; rw [if_neg (by simp [h0]), if_neg he], by unfold trimR; rw [if_neg (fun h => he h.2)]⟩
  have hT3 : (startErr l sel).1 = 0 → buildL l sel = sel → trimErr l sel = (0, -1) ∧ trimR l sel = trimL l sel := fun h0 he => ⟨by unfold trimErr; rw [if_neg (by simp [h0]), if_pos he], by unfold trimR; rw [if_pos ⟨h0, he⟩]⟩
  have hbR : (startErr l sel).1 = 0 → buildR l sel = buildL l sel := fun h0 => by unfold buildR; rw [if_pos h0]
  have hsub : (startErr l sel).1 = 0 → ∀ T : List Md, T.Sublist sel → startErr l T = (0, -1) ∧ buildR l T = buildL l T := fun h0 T hT => by
    have h2 : (startErr l T).1 = 0 := startErr_sub h0 (fun m hm => .root (hT.subset hm))
    exact ⟨startErr_at h2, by unfold buildR; rw [if_pos h2]⟩
  generalize startErr l sel = SE at *
  obtain ⟨fc, fa⟩ := SE
  unfold fltV at h1
  simp only at h1 hT1 hT2 hT3 hbR hsub
  have HLA := Lib.hid hla
  replace hbu := Lib.hid hbu
  replace h1 := Lib.hid h1
  clear h ha hs hl0 hla
  go_enter Tryz.func37, Tryz.ntmps37
  go_wp2_with fail
  generalize w.alloc (.cells #[.int .i64 0, .int .i64 0] 49) = w1 at *
  refine h1.out.mono ?_
  rintro e w2 ⟨⟨x, rfl, hx⟩, hb⟩
  have hba := below_alloc w2 (.cells #[.int .i64 (fc : Nat), .int .i64 fa] 49)
  have hy := box2_alloc w2 (.int .i64 (fc : Nat)) (.int .i64 fa) 49
  have hs2 : w.heap.size < w2.heap.size := Nat.lt_of_lt_of_le (lt_of_cell hz.c0) hb.size
  replace hx := hx.below hba
  replace hb := below_step hb hba
  replace hz := hz.below hb
  replace hB := below_step hB hb
  obtain ⟨ax, nx, cx, _, _, rfl, _⟩ := id hx
  clear hb hba h1
  obtain ⟨x0, x1, xf⟩ := id hy
  have nx1 : w.heap.size ≠ w2.heap.size := by omega
  have nx2 : w2.heap.size ≠ w.heap.size := by omega
  by_cases h0 : fc = 0
  · have HSE := Lib.hid (hse h0)
    have HSB := Lib.hid (hsub h0)
    rw [hbR h0] at hx
    by_cases he : buildL l sel = sel
    · have HTR := Lib.hid (hT3 h0 he)
      have HT : Hid (trimL l sel = trimF l sel sel.length sel 0) := Lib.hid rfl
      have hq := fun W (hW : Below (w2.alloc (.cells #[.int .i64 (fc : Nat), .int .i64 fa] 49)).heap.size (w2.alloc (.cells #[.int .i64 (fc : Nat), .int .i64 fa] 49)) W) => sameMods_calls _ _ _ _ W (hx.below hW) (HA.out.below (below_step hB hW))
      rw [decide_eq_true he] at hq
      subst h0
      replace hq := Lib.hid hq
      clear hse hsub hbR hT1 hT2 hT3 he hx
      go_wp2_with fail
      generalize w2.alloc (.cells #[.int .i64 ((0 : Nat) : Int), .int .i64 fa] 49) = w3 at *
      refine (hq.out _ (Below.refl _ _)).mono ?_
      rintro e w4 ⟨rfl, hb⟩
      replace hz := hz.below hb
      replace hB := below_step hB hb
      clear hb hq x0 x1 xf hy nx1 nx2
      have hlt0 : w.heap.size < w4.heap.size := lt_of_cell hz.c0
      obtain ⟨o5, w5, hap5, ⟨L5, hL5, ho5⟩, hg5⟩ := app_mods w4 w4.heap.size (Nat.le_refl _) (.slice none 0 0) (.slice a1 n1 c1) [] sel (World.ownsRow_nil _ _ _ _) (HA.out.below hB) (by simp) (by have := HLA.out; omega)
      have hb5 : Below w4.heap.size w4 w5 := (Below.refl _ _).grown hg5 (Nat.le_refl _) (fun q hq => by cases hq)
      have hL5' : mdTs L5 = sel := by rw [hL5]; simp [mdTs]
      have HM5 : Hid (OwnT w5 w4.heap.size o5 sel) := Lib.hid ⟨L5, hL5', ho5⟩
      have HAP5 := Lib.hid hap5
      have hz5 := hz.below hb5
      have hB5 := below_step hB hb5
      have hlt5 : w.heap.size < w5.heap.size := lt_of_cell hz5.c0
      clear hap5 hL5 hL5' ho5 hg5
      go_wp2_with (at_builtin; refine wpList_append_run rfl _ _ 23 rfl _ _ rfl rfl _ _ HAP5.out ?_)
      clear HAP5
      go_loopw [9, 10, 11, 12, 13, 14] (fun o i _ _ _ _ wr => ∃ (k : Nat) (T : List Md), i = .int .i64 k ∧ k ≤ T.length ∧ Hid (OwnT wr w4.heap.size o T) ∧ Below w5.heap.size w5 wr ∧ Hid (T.Sublist sel ∧ trimF l sel T.length T k = trimF l sel sel.length sel 0)) (fun o i _ _ _ _ _ => (lenOf o) - (intOf i).toNat)
      case atStart => exact ⟨0, sel, rfl, Nat.zero_le _, HM5, Below.refl _ _, Lib.hid ⟨List.Sublist.refl _, rfl⟩⟩
      case round =>
        obtain ⟨k, T, rfl, hk, hM, hBr, hI⟩ := hrel
        obtain ⟨ao, co, rfl⟩ := mods_len hM.out.mods
        have hTl : T.length ≤ sel.length := hI.out.1.length_le
        have hla := HLA.out
        have hBw := below_step hB5 hBr
        by_cases hlt : k < T.length
        · have hkn : (k : Int) < (T.length : Int) := by omega
          have hwo := without_calls _ T k wr hM.out.mods hlt (by omega)
          have hwk := wrap_nat (k + 1) (by omega)
          have hte : (T.eraseIdx k).length = T.length - 1 := List.length_eraseIdx_of_lt hlt
          have hsub : (T.eraseIdx k).Sublist sel := (List.eraseIdx_sublist T k).trans hI.out.1
          have hstep : trimF l sel T.length T k = if buildL l (T.eraseIdx k) = sel then trimF l sel (T.eraseIdx k).length (T.eraseIdx k) k else trimF l sel T.length T (k + 1) := by
            obtain ⟨m, hm⟩ : ∃ m, T.length = m + 1 := ⟨T.length - 1, by omega⟩
            have h1 : trimF l sel (m + 1) T k = if k < T.length then (if buildL l (T.eraseIdx k) = sel then trimF l sel m (T.eraseIdx k) k else trimF l sel m T (k + 1)) else T := rfl
            rw [hm, h1, if_pos hlt, hte, hm, Nat.add_sub_cancel]
            split
            · rfl
            · exact trimF_fuel _ _ _ _ (by omega) (by omega)
          have HST := Lib.hid (And.intro hstep (And.intro hte (And.intro hsub (HSB.out _ hsub))))
          replace hwo := Lib.hid hwo
          clear hte hsub hstep
          go_wp2_with fail
          refine hwo.out.mono ?_
          rintro e w6 ⟨⟨v6, L6, rfl, hL6, ho6⟩, hb6⟩
          have hM6 := modsAt_own ho6
          rw [hL6] at hM6
          have hB6 := below_step hBw hb6
          have hb := hbu.out w6 hB6 v6 _ hM6 (by rw [HST.out.2.1]; omega)
          rw [HST.out.2.2.2.1, HST.out.2.2.2.2] at hb
          unfold fltV at hb
          simp only at hb
          obtain ⟨a6, c6, rfl⟩ := mods_len hM6
          have hs6 : w4.heap.size ≤ wr.heap.size := Nat.le_trans hb5.size hBr.size
          have HM6 : Hid (OwnT w6 w4.heap.size (.slice a6 (T.eraseIdx k).length c6) (T.eraseIdx k)) := Lib.hid ⟨L6, hL6, ho6.mono hs6⟩
          have HMT := Lib.hid (hM.out.below hb6)
          have hR6 := below_step hBr hb6
          replace hb := Lib.hid hb
          clear hwo ho6 hL6 hM6 hb6
          go_wp2_with fail
          refine hb.out.mono ?_
          rintro e w7 ⟨⟨x7, rfl, hx7⟩, hb7⟩
          have hba := below_alloc w7 (.cells #[.int .i64 ((0 : Nat) : Int), .int .i64 (-1)] 49)
          replace hx7 := hx7.below hba
          replace hb7 := below_step hb7 hba
          have hB7 := below_step hB6 hb7
          have hR7 := below_step hR6 hb7
          have hq7 := sameMods_calls _ _ _ _ (w7.alloc (.cells #[.int .i64 ((0 : Nat) : Int), .int .i64 (-1)] 49)) hx7 (HA.out.below hB7)
          obtain ⟨a7, m7, c7, _, _, rfl, _⟩ := id hx7
          clear hba
          have HM7 := Lib.hid (HM6.out.below hb7)
          have HMT7 := Lib.hid (HMT.out.below hb7)
          by_cases hbe : buildL l (T.eraseIdx k) = sel
          · rw [decide_eq_true hbe] at hq7
            have HBE := Lib.hid hbe
            replace hq7 := Lib.hid hq7
            clear hx7 hb hb7 hbe
            go_wp2_with fail
            generalize w7.alloc (.cells #[.int .i64 ((0 : Nat) : Int), .int .i64 (-1)] 49) = w70 at *
            refine hq7.out.mono ?_
            rintro e w8 ⟨rfl, hb8⟩
            go_wp2_with fail
            go_roundw
            case rel =>
              refine ⟨k, T.eraseIdx k, rfl, by rw [HST.out.2.1]; omega, Lib.hid (HM7.out.below hb8), below_step hR7 hb8, Lib.hid ⟨HST.out.2.2.1, ?_⟩⟩
              rw [← hI.out.2, HST.out.1, if_pos HBE.out]
            case measure => simp only [lenOf, intOf]; have := HST.out.2.1; omega
          · rw [decide_eq_false hbe] at hq7
            have HBE := Lib.hid hbe
            replace hq7 := Lib.hid hq7
            clear hx7 hb hb7 hbe
            go_wp2_with fail
            generalize w7.alloc (.cells #[.int .i64 ((0 : Nat) : Int), .int .i64 (-1)] 49) = w70 at *
            refine hq7.out.mono ?_
            rintro e w8 ⟨rfl, hb8⟩
            go_wp2_with fail
            go_roundw
            case rel =>
              refine ⟨k + 1, T, by go_num, hlt, Lib.hid (HMT7.out.below hb8), below_step hR7 hb8, Lib.hid ⟨hI.out.1, ?_⟩⟩
              rw [← hI.out.2, HST.out.1, if_neg HBE.out]
            case measure => simp only [lenOf, intOf]; omega
        · obtain rfl : k = T.length := by omega
          have HF : Hid (T = trimL l sel) := Lib.hid (by rw [HT.out, ← hI.out.2, trimF_done hlt])
          have hfi := fun W => refFine_calls W
          unfold fltV at hfi
          replace hfi := Lib.hid hfi
          clear hlt
          go_wp2_with fail
          refine (hfi.out _).mono ?_
          rintro e w8 ⟨rfl, hb⟩
          have hB8 := below_step hBw hb
          obtain ⟨z0, z1, zf⟩ := hz5.below (below_step hBr hb)
          have HM8 := Lib.hid ((hM.out.below hb).set2 hlt0)
          clear hb hfi
          go_wp2_with fail
          refine bodyPost_ret (v := .tuple #[(.slice ao T.length co), fltV (0, -1)]) (by simp [results, Tryz.results37, fltV, go_sem, *]) rfl ?_
          rw [HTR.out.1, HTR.out.2, ← HF.out]
          exact ⟨⟨_, rfl, HM8.out _ _⟩, (hB8.setCell (p := ⟨w.heap.size, 0, none⟩) (Nat.le_refl _) _).setCell (p := ⟨w.heap.size, 1, none⟩) (Nat.le_refl _) _⟩
    · have HTR := Lib.hid (hT2 h0 he)
      have hq := fun W (hW : Below (w2.alloc (.cells #[.int .i64 (fc : Nat), .int .i64 fa] 49)).heap.size (w2.alloc (.cells #[.int .i64 (fc : Nat), .int .i64 fa] 49)) W) => sameMods_calls _ _ _ _ W (hx.below hW) (HA.out.below (below_step hB hW))
      rw [decide_eq_false he] at hq
      have hba := fun W => refBare_calls 3 W
      unfold fltV at hba
      subst h0
      replace hq := Lib.hid hq
      replace hba := Lib.hid hba
      clear hse hsub hbR hT1 hT2 hT3 he hx
      go_wp2_with fail
      generalize w2.alloc (.cells #[.int .i64 ((0 : Nat) : Int), .int .i64 fa] 49) = w3 at *
      refine (hq.out _ (Below.refl _ _)).mono ?_
      rintro e w4 ⟨rfl, hb⟩
      replace hz := hz.below hb
      replace hB := below_step hB hb
      clear hb hq x0 x1 xf hy nx1 nx2
      go_wp2_with fail
      refine (hba.out _).mono ?_
      rintro e w8 ⟨rfl, hb⟩
      have hB8 := below_step hB hb
      obtain ⟨z0, z1, zf⟩ := hz.below hb
      clear hb hba
      go_wp2_with fail
      refine bodyPost_ret (v := .tuple #[.slice none 0 0, fltV (3, -1)]) (by simp [results, Tryz.results37, fltV, go_sem, *]) rfl ?_
      rw [HTR.out.1, HTR.out.2]
      exact ⟨⟨_, rfl, ModsAt.nil _⟩, (hB8.setCell (p := ⟨w.heap.size, 0, none⟩) (Nat.le_refl _) _).setCell (p := ⟨w.heap.size, 1, none⟩) (Nat.le_refl _) _⟩
  · have hc9 : (0 : Int) < (fc : Int) := by omega
    have hc8 : ((fc : Int) == 0) = false := beq_eq_false_iff_ne.2 (by omega)
    have HTR := Lib.hid (hT1 h0)
    obtain ⟨z0, z1, zf⟩ := id hz
    clear h0 hse hsub hbR hT1 hT2 hT3 hx
    go_wp2_with fail
    generalize w2.alloc (.cells #[.int .i64 (fc : Nat), .int .i64 fa] 49) = w3 at *
    generalize w2.heap.size = bx at *
    go_region
    all_goals
      go_wp2_with fail
      refine bodyPost_ret (v := .tuple #[.slice none 0 0, fltV (fc, fa)]) (by simp [results, Tryz.results37, fltV, go_sem, *]) rfl ?_
      rw [HTR.out.1, HTR.out.2]
      exact ⟨⟨_, rfl, ModsAt.nil _⟩, (hB.drew.setCell (p := ⟨w.heap.size, 0, none⟩) (Nat.le_refl _) _).setCell (p := ⟨w.heap.size, 1, none⟩) (Nat.le_refl _) _⟩
end Go.Proofs.Pw

/- Plain mathematics: closed selections; what MvsLeast asks. No program in sight. -/
namespace Go.Proofs.Pw
open Go.Lib hiding intOf

def riseB (l : List Md) : Bool := (List.range (l.length - 1)).all fun i => decide (compareBytes (mdAt l i).1 (mdAt l (i + 1)).1 < 0)
theorem riseB_iff {l : List Md} : riseB l = true ↔ RiseP l := by
  unfold riseB
  rw [List.all_eq_true]
  constructor
  · intro h
    have hf : Ord3 (fun a b : Md => compareBytes a.1 b.1) := compareBytes_ord.comap (fun m : Md => m.1)
    have := rises_step hf (l := l) (fun i h1 => by
      have h2 := of_decide_eq_true (h i (by rw [List.mem_range]; omega))
      have e1 := mdAt_get (l := l) (i := i) (by omega)
      have e2 := mdAt_get (l := l) (i := i + 1) h1
      rw [List.getElem?_eq_getElem (by omega)] at e1
      rw [List.getElem?_eq_getElem h1] at e2
      rw [Option.some.inj e1, Option.some.inj e2]
      exact h2)
    exact this
  · intro h i hi
    rw [List.mem_range] at hi
    unfold RiseP at h
    rw [List.pairwise_iff_getElem] at h
    have h2 := h i (i + 1) (by omega) (by omega) (Nat.lt_succ_self _)
    have e1 := mdAt_get (l := l) (i := i) (by omega)
    have e2 := mdAt_get (l := l) (i := i + 1) (by omega)
    rw [List.getElem?_eq_getElem (by omega)] at e1
    rw [List.getElem?_eq_getElem (by omega)] at e2
    rw [Option.some.inj e1, Option.some.inj e2] at h2
    exact decide_eq_true h2

def selErr (l : List En) (sel : List Md) : Nat × Int := orE (rootsErr l sel) (if riseB sel = true then (0, -1) else (8, -1))
def closErr (l : List En) (roots sel : List Md) : Nat × Int := orE (startErr l roots) (selErr l sel)
def reqsAt (l : List En) (m : Md) : List Md := (enAt l (findE l m).toNat).reqs
def closB (l : List En) (roots sel : List Md) : Bool := underB (roots ++ sel.flatMap (reqsAt l)) sel
def closR (l : List En) (roots sel : List Md) : Bool := if (closErr l roots sel).1 = 0 then closB l roots sel else false
theorem selErr_zero {l : List En} {sel : List Md} : (selErr l sel).1 = 0 ↔ (∀ m ∈ sel, ∃ e ∈ l, e.md = m) ∧ RiseP sel := by
  unfold selErr
  rw [orE_zero, rootsErr_zero, ← riseB_iff]
  refine and_congr_right fun _ => ?_
  by_cases h : riseB sel = true
  · rw [if_pos h]; exact ⟨fun _ => h, fun _ => rfl⟩
  · rw [if_neg h]; exact ⟨fun h2 => absurd h2 (by decide), fun h2 => absurd h2 h⟩
theorem closErr_zero {l : List En} {roots sel : List Md} : (closErr l roots sel).1 = 0 ↔ (startErr l roots).1 = 0 ∧ (∀ m ∈ sel, ∃ e ∈ l, e.md = m) ∧ RiseP sel := by
  unfold closErr
  rw [orE_zero, selErr_zero]
/-- the requirements of a module -/
theorem reqsAt_of {l : List En} (h : RightI l) {e : En} (he : e ∈ l) : reqsAt l e.md = e.reqs := by
  have h0 : ¬ findE l e.md < 0 := fun hn => findE_lt.1 hn e he rfl
  obtain ⟨k, hk, hl, e1⟩ := findE_nat h0
  unfold reqsAt
  rw [hk, show ((k : Nat) : Int).toNat = k from rfl, h.one (enAt_mem hl) he e1]
theorem closB_iff {l : List En} (h : RightI l) {roots sel : List Md} (hs : ∀ m ∈ sel, ∃ e ∈ l, e.md = m) : closB l roots sel = true ↔ (∀ m ∈ roots, hasB sel m = true) ∧ ∀ e ∈ l, e.md ∈ sel → ∀ r ∈ e.reqs, hasB sel r = true := by
  unfold closB
  rw [under_mem]
  constructor
  · intro h1
    refine ⟨fun m hm => h1 m (List.mem_append.2 (.inl hm)), fun e he hm r hr => h1 r (List.mem_append.2 (.inr (List.mem_flatMap.2 ⟨e.md, hm, by rw [reqsAt_of h he]; exact hr⟩)))⟩
  · rintro ⟨h1, h2⟩ m hm
    rcases List.mem_append.1 hm with h3 | h3
    · exact h1 m h3
    · obtain ⟨s, hs1, hr⟩ := List.mem_flatMap.1 h3
      obtain ⟨e, he, rfl⟩ := hs s hs1
      rw [reqsAt_of h he] at hr
      exact h2 e he hs1 m hr

/-- does of each path a newer version require what an older one does, in no less a version -/
def risesB (l : List En) : Bool := (List.range l.length).all fun i => (List.range l.length).all fun k => !(decide (i < k) && decide ((enAt l i).md.1 = (enAt l k).md.1)) || underB (enAt l i).reqs (enAt l k).reqs
theorem risesB_at {l : List En} (h : risesB l = true) {i k : Nat} (hik : i < k) (hk : k < l.length) (e : (enAt l i).md.1 = (enAt l k).md.1) : underB (enAt l i).reqs (enAt l k).reqs = true := by
  unfold risesB at h
  rw [List.all_eq_true] at h
  have h1 := h i (by rw [List.mem_range]; omega)
  rw [List.all_eq_true] at h1
  have h2 := h1 k (by rw [List.mem_range]; omega)
  rw [decide_eq_true hik, decide_eq_true e] at h2
  simpa using h2

/-- COX: the least of those that are closed -/
theorem cox {l : List En} {roots sel : List Md} (hG : RightG l roots) (hs : ∀ m ∈ sel, ∃ e ∈ l, e.md = m) (hr : RiseP sel) (hc : closB l roots sel = true) (hl : risesB l = true) {m : Md} (hm : Reached l roots m) : hasB sel m = true := by
  obtain ⟨c1, c2⟩ := (closB_iff hG.idx hs).1 hc
  induction hm with
  | root hm => exact c1 _ hm
  | @step e r he hre hr1 ih =>
    obtain ⟨s, hs1, e1, e2⟩ := (hasB_rise hr).1 ih
    obtain ⟨x, hx, rfl⟩ := hs s hs1
    have v1 := (modErr_zero (hG.idx.mds e he)).2
    have v2 := (modErr_zero (hG.idx.mds x hx)).2
    rw [verLess_no v2 v1] at e2
    by_cases hex : x = e
    · subst hex
      exact c2 x hx hs1 r hr1
    · obtain ⟨i, hi, rfl⟩ := mem_enAt he
      obtain ⟨k, hk, rfl⟩ := mem_enAt hx
      have hik : i < k := by
        rcases Nat.lt_trichotomy i k with h | h | h
        · exact h
        · subst h; exact absurd rfl hex
        · exfalso
          have hR := hG.idx.rise
          unfold Rises at hR
          rw [List.pairwise_iff_getElem] at hR
          have h3 := hR k i (by rw [List.length_map]; omega) (by rw [List.length_map]; omega) h
          rw [List.getElem_map, List.getElem_map, ← enAt_elem hk, ← enAt_elem hi] at h3
          unfold modCmp at h3
          rw [orI_lt] at h3
          rcases h3 with h3 | ⟨_, h3⟩
          · rw [e1] at h3; exact path_self _ h3
          · have := (verCmp_ord.anti _ _).1 h3
            omega
      have hu := risesB_at hl hik hk e1.symm
      rw [under_mem] at hu
      obtain ⟨j, hj1, hj2⟩ := hasB_iff.1 (hu r hr1)
      obtain ⟨y, hy, hp⟩ := findI_spec hj1
      have hjl := (List.getElem?_eq_some_iff.1 hy).1
      have hym := List.mem_of_getElem? hy
      rw [mdAt_get hjl] at hy
      rw [Option.some.inj hy] at hj2
      have hyp : y.1 = r.1 := of_decide_eq_true hp
      obtain ⟨z, hz, f1, f2⟩ := (hasB_rise hr).1 (c2 _ hx hs1 y hym)
      rw [hasB_rise hr]
      refine ⟨z, hz, f1.trans hyp, ?_⟩
      obtain ⟨ez, hez, rfl⟩ := hs z hz
      have v3 := (modErr_zero (hG.idx.mds ez hez)).2
      have v4 := (modErr_zero (hG.idx.req hx y hym)).2
      have v5 := (modErr_zero (hG.idx.req he r hr1)).2
      rw [verLess_no v3 v4] at f2
      rw [verLess_no v4 v5] at hj2
      rw [verLess_no v3 v5]
      exact le_trans3 hj2 f2
/-- what is built is closed -/
theorem build_closed {l : List En} {roots : List Md} (h0 : (startErr l roots).1 = 0) : closErr l roots (buildL l roots) = (0, -1) ∧ closB l roots (buildL l roots) = true := by
  have hG := rightG_of h0
  have hs : ∀ m ∈ buildL l roots, ∃ e ∈ l, e.md = m := fun m hm => hG.entry (build_reached hG hm)
  have hz : (selErr l (buildL l roots)).1 = 0 := selErr_zero.2 ⟨hs, hG.great.rise⟩
  have hr := riseB_iff.2 hG.great.rise
  refine ⟨?_, (closB_iff hG.idx hs).2 ⟨fun m hm => ?_, fun e he hm r hr => ?_⟩⟩
  · unfold closErr
    rw [startErr_at h0]
    unfold orE
    rw [if_neg (by simp)]
    unfold selErr
    rw [if_pos hr]
    unfold orE
    rw [if_neg (by have := (selErr_zero.1 hz).1; have := rootsErr_zero.2 this; simp [this])]
  · obtain ⟨x, hx, e1, e2⟩ := build_over hG (.root hm)
    exact (hasB_rise hG.great.rise).2 ⟨x, hx, e1, verLess_of_le e2⟩
  · obtain ⟨x, hx, e1, e2⟩ := build_over hG (.step he (build_reached hG hm) hr)
    exact (hasB_rise hG.great.rise).2 ⟨x, hx, e1, verLess_of_le e2⟩
theorem build_roots {l : List En} {roots : List Md} (hG : RightG l roots) : underB roots (buildL l roots) = true := by
  rw [under_mem]
  intro m hm
  obtain ⟨x, hx, e1, e2⟩ := build_over hG (.root hm)
  exact (hasB_rise hG.great.rise).2 ⟨x, hx, e1, verLess_of_le e2⟩
/-- what is built is under each that is closed -/
theorem build_least {l : List En} {roots sel : List Md} (h : (closErr l roots sel).1 = 0) (hc : closB l roots sel = true) (hl : risesB l = true) : underB (buildL l roots) sel = true := by
  obtain ⟨h0, hs, hr⟩ := closErr_zero.1 h
  have hG := rightG_of h0
  rw [under_mem]
  exact fun m hm => cox hG hs hr hc hl (build_reached hG hm)
end Go.Proofs.Pw

/- mod.Rise; slices.IsSortedFunc and slices.CompactFunc with its tests. Conditions: lists of at most 1000000. -/
namespace Go.Proofs.Pw
open Go.RowKit
open Go.Lib hiding intOf

theorem Tryz.enters_rise1 : ∀ args w, (callFunc 121 args).run Tryz.prog w = .ok (.enter 121 args) w := Go.Proofs.enters_of Tryz.func121 (by kernel_rfl) rfl
theorem Tryz.enters_rise2 : ∀ args w, (callFunc 123 args).run Tryz.prog w = .ok (.enter 123 args) w := Go.Proofs.enters_of Tryz.func123 (by kernel_rfl) rfl
theorem rise1_calls (p v q u : ByteArray) (w : World) :
    Calls Tryz.prog 121 #[.agg #[.string p, .string v], .agg #[.string q, .string u]] w fun e w' => e = .returned (.int .i64 (compareBytes p.data.toList q.data.toList)) ∧ Below w.heap.size w w' := by
  have hb1 := below_alloc w (.cells #[.string p, .string v] 38)
  have hb2 := below_alloc (w.alloc (.cells #[.string p, .string v] 38)) (.cells #[.string q, .string u] 38)
  have hB := below_step hb1 hb2
  obtain ⟨m0, m1, _⟩ := (box2_alloc w (.string p) (.string v) 38).below hb2
  obtain ⟨f0, f1, _⟩ := box2_alloc (w.alloc (.cells #[.string p, .string v] 38)) (.string q) (.string u) 38
  simp only [World.size_alloc] at f0 f1
  have hS := Tryz.strings_Compare p q
  replace hS := Lib.hid hS
  go_enter Tryz.func121, Tryz.ntmps121
  go_wp2_with fail
  refine (hS.out _).mono ?_
  rintro e w' ⟨rfl, rfl⟩
  go_wp2_with fail
  go_ret
  exact ⟨rfl, hB⟩
theorem rise2_calls (p v q u : ByteArray) (w : World) :
    Calls Tryz.prog 123 #[.agg #[.string p, .string v], .agg #[.string q, .string u]] w fun e w' => e = .returned (.bool (decide (p = q))) ∧ Below w.heap.size w w' := by
  have hb1 := below_alloc w (.cells #[.string p, .string v] 38)
  have hb2 := below_alloc (w.alloc (.cells #[.string p, .string v] 38)) (.cells #[.string q, .string u] 38)
  have hB := below_step hb1 hb2
  obtain ⟨m0, m1, _⟩ := (box2_alloc w (.string p) (.string v) 38).below hb2
  obtain ⟨f0, f1, _⟩ := box2_alloc (w.alloc (.cells #[.string p, .string v] 38)) (.string q) (.string u) 38
  simp only [World.size_alloc] at f0 f1
  have HD : Hid (decide (p = q) = (p.toList == q.toList)) := Lib.hid (by
    rw [toList_data, toList_data, Bool.eq_iff_iff, decide_eq_true_iff, beq_iff_eq, bytes_eq])
  go_enter Tryz.func123, Tryz.ntmps123
  go_wp2_with fail
  go_ret
  rw [HD.out]
  exact ⟨rfl, hB⟩

/-- are the paths in order (equal ones allowed) -/
def SortP (n : Nat) (P : Nat → ByteArray) : Prop := ∀ j, j + 1 < n → 0 ≤ compareBytes (P (j + 1)).data.toList (P j).data.toList
noncomputable def sortB (n : Nat) (P : Nat → ByteArray) : Bool := @decide (SortP n P) (Classical.propDecidable _)
theorem sortB_iff {n : Nat} {P : Nat → ByteArray} : sortB n P = true ↔ SortP n P := by
  unfold sortB
  exact @decide_eq_true_iff _ (Classical.propDecidable _)
set_option maxHeartbeats 2000000 in
set_option maxRecDepth 100000 in
theorem isSortedM_calls (a : Option Addr) (n cap : Nat) (P V : Nat → ByteArray) (w : World) (hn : n ≤ 1000000)
    (hc : ∀ j, j < n → ∃ b o, a = some ⟨b, o, none⟩ ∧ w.cell? ⟨b, o + j * 2, none⟩ = some (.string (P j)) ∧ w.cell? ⟨b, o + j * 2 + 1, none⟩ = some (.string (V j))) :
    Calls Tryz.prog 120 #[.slice a n cap, .func (.func 121) #[] #[]] w fun e w' => e = .returned (.bool (sortB n P)) ∧ Below w.heap.size w w' := by
  have eg := Tryz.enters_rise1
  have hDS := sortB_iff (n := n) (P := P)
  generalize sortB n P = DS at hDS ⊢
  replace hc := Lib.hid hc
  replace hDS := Lib.hid hDS
  go_enter Tryz.func120, Tryz.ntmps120
  have hn1 := wrap_nat n (by omega)
  go_wp2_with fail
  go_loopw [5] (fun i wr => ∃ k : Nat, (k : Int) ≤ n ∧ i = .int .i64 ((k : Int) - 1) ∧ Below w.heap.size w wr ∧ Hid (∀ j, k ≤ j + 1 → j + 1 < n → 0 ≤ compareBytes (P (j + 1)).data.toList (P j).data.toList)) (fun i _ => (intOf i).toNat)
  case atStart => exact ⟨n, by omega, rfl, Below.refl _ _, Lib.hid (fun j h1 h2 => by omega)⟩
  case round =>
    obtain ⟨k, hk, rfl, hB, HA⟩ := hrel
    by_cases hlt : (0 : Int) < (k : Int) - 1
    · obtain ⟨m, rfl⟩ : ∃ m, k = m + 2 := ⟨k - 2, by omega⟩
      have hm1 : ((m + 2 : Nat) : Int) - 1 = (m : Int) + 1 := by omega
      rw [hm1] at hlt ⊢
      obtain ⟨b1, o1, ea, c0, c1⟩ := hc.out (m + 1) (by omega)
      obtain ⟨b2, o2, eb, c2, c3⟩ := hc.out m (by omega)
      rw [ea] at eb
      injection eb with eb
      injection eb with eb1 eb2 _
      subst eb1 eb2 ea
      replace c0 := Below.cell_some hB c0
      replace c1 := Below.cell_some hB c1
      replace c2 := Below.cell_some hB c2
      replace c3 := Below.cell_some hB c3
      have hm2 : (m : Int) + 1 < (n : Int) := by omega
      have hm3 : (m : Int) < (n : Int) := by omega
      have hm4 : ((m : Int) + 1).toNat = m + 1 := by omega
      have hm5 : (0 : Int) ≤ (m : Int) + 1 := by omega
      have hm6 : (m : Int) + 1 - 1 = (m : Int) := by omega
      have hm7 := wrap_nat m (by omega)
      have hm8 : ¬ ((m : Int) + 1 < 0) := by omega
      have hcall := fun W => rise1_calls (P (m + 1)) (V (m + 1)) (P m) (V m) W
      obtain ⟨D, hD⟩ : ∃ D, D = compareBytes (P (m + 1)).data.toList (P m).data.toList := ⟨_, rfl⟩
      rw [← hD] at hcall
      have HD := Lib.hid hD
      replace hcall := Lib.hid hcall
      clear hD hk
      go_wp2_with fail
      by_cases h0 : D < 0
      ·
        have kqc0 := fun d os => cell_patch (d := d) (os := os) c0
        have kqc1 := fun d os => cell_patch (d := d) (os := os) c1
        have kqc2 := fun d os => cell_patch (d := d) (os := os) c2
        have kqc3 := fun d os => cell_patch (d := d) (os := os) c3
        refine wp_region_quiet_patch (by kernel_rfl) (by kernel_rfl) ?_
        repeat (go_big_quiet_step ((go_at_fn 121; exact Calls.patch_of (hcall.out _))))
        refine wpQuiet_nil ?_
        intro _ hw'
        obtain ⟨⟨dq, osq⟩, hw''⟩ := hw'
        subst hw''
        clear kqc0 kqc1 kqc2 kqc3
        have hb := below_patch wr dq osq
        replace hB := below_step hB hb
        clear hb
        generalize patch wr dq osq = w2 at hB ⊢
        clear c0 c1 c2 c3
        go_wp2_with fail
        go_ret
        have hF : DS = false := by
          cases DS with
          | false => rfl
          | true =>
            have := hDS.out.1 rfl m (by omega)
            rw [← HD.out] at this
            omega
        rw [hF]
        exact ⟨rfl, hB⟩
      ·
        have kqc0 := fun d os => cell_patch (d := d) (os := os) c0
        have kqc1 := fun d os => cell_patch (d := d) (os := os) c1
        have kqc2 := fun d os => cell_patch (d := d) (os := os) c2
        have kqc3 := fun d os => cell_patch (d := d) (os := os) c3
        refine wp_region_quiet_patch (by kernel_rfl) (by kernel_rfl) ?_
        repeat (go_big_quiet_step ((go_at_fn 121; exact Calls.patch_of (hcall.out _))))
        refine wpQuiet_nil ?_
        intro _ hw'
        obtain ⟨⟨dq, osq⟩, hw''⟩ := hw'
        subst hw''
        clear kqc0 kqc1 kqc2 kqc3
        have hb := below_patch wr dq osq
        replace hB := below_step hB hb
        clear hb
        generalize patch wr dq osq = w2 at hB ⊢
        clear c0 c1 c2 c3
        go_wp2_with fail
        go_roundw
        case rel =>
          refine ⟨m + 1, by omega, by go_num, hB, Lib.hid (fun j h1 h2 => ?_)⟩
          by_cases e : j = m
          · subst e; rw [← HD.out]; omega
          · exact HA.out j (by omega) h2
        case measure => simp [intOf]
    · have hk1 : ¬ ((k : Int) - 1 > 0) := by omega
      go_wp2_with fail
      go_ret
      rw [hDS.out.2 (fun j hj => HA.out j (by omega) hj)]
      exact ⟨rfl, hB⟩
end Go.Proofs.Pw

/- slices.DeleteFunc of modules out of a row of one's own, with a test that may lay blocks. -/
namespace Go.Proofs.Pw
open Go.RowKit
open Go.Lib hiding intOf

/-- a test of modules by a function value, in whatever world that stands over w from block base on -/
def TestsL (g : Nat) (lb : Array Value) (p : Md → Bool) (L : List (ByteArray × ByteArray)) (base : Nat) (w : World) : Prop :=
  ∀ W, Below base w W → ∀ x y, (x, y) ∈ L → Calls Tryz.prog g (#[.agg #[.string x, .string y]] ++ lb) W fun e w'' => e = .returned (.bool (p (x.data.toList, y.data.toList))) ∧ Below W.heap.size W w''
def pOf (p : Md → Bool) (m : ByteArray × ByteArray) : Bool := p (m.1.data.toList, m.2.data.toList)
theorem mdTs_filter (L : List (ByteArray × ByteArray)) (p : Md → Bool) : mdTs (L.filter (pOf p)) = (mdTs L).filter p := by
  unfold mdTs
  rw [List.filter_map]
  rfl
/-- the row within the loop: what is kept stands ahead, what is not yet looked at stands as it was -/
structure DelInv (q : ByteArray × ByteArray → Bool) (L M : List (ByteArray × ByteArray)) (i j : Nat) : Prop where
  len : M.length = L.length
  lt : i < j
  le : j ≤ L.length
  low : M.take i = (L.take j).filter q
  high : M.drop j = L.drop j
theorem DelInv.get {q : ByteArray × ByteArray → Bool} {L M : List (ByteArray × ByteArray)} {i j : Nat} (h : DelInv q L M i j) : M[j]? = L[j]? := by
  have := congrArg (fun l => l[0]?) h.high
  simpa using this
theorem take_sn {α : Type} {l : List α} {j : Nat} {x : α} (h : l[j]? = some x) : l.take (j + 1) = l.take j ++ [x] := by
  rw [List.take_add_one, h]; rfl
theorem DelInv.skip {q : ByteArray × ByteArray → Bool} {L M : List (ByteArray × ByteArray)} {i j : Nat} {x : ByteArray × ByteArray} (h : DelInv q L M i j) (hx : L[j]? = some x) (hq : q x = false) : DelInv q L M i (j + 1) := by
  have hl := (List.getElem?_eq_some_iff.1 hx).1
  have h1 := h.lt
  refine ⟨h.len, by omega, hl, ?_, ?_⟩
  · rw [take_sn hx, List.filter_append, ← h.low]; simp [hq]
  · rw [← List.drop_drop, ← List.drop_drop, h.high]
theorem DelInv.keep {q : ByteArray × ByteArray → Bool} {L M : List (ByteArray × ByteArray)} {i j : Nat} {x : ByteArray × ByteArray} (h : DelInv q L M i j) (hx : L[j]? = some x) (hq : q x = true) : DelInv q L (M.set i x) (i + 1) (j + 1) := by
  have hl := (List.getElem?_eq_some_iff.1 hx).1
  have h1 := h.lt
  have h2 := h.len
  refine ⟨by rw [List.length_set]; exact h.len, by omega, hl, ?_, ?_⟩
  · rw [take_sn (x := x) (by rw [List.getElem?_set_self (by omega)]), List.take_set_of_le (by omega), h.low, take_sn hx, List.filter_append]
    simp [hq]
  · rw [List.drop_set_of_lt (by omega), ← List.drop_drop, ← List.drop_drop, h.high]
theorem DelInv.start {q : ByteArray × ByteArray → Bool} {L : List (ByteArray × ByteArray)} {k : Nat} {x : ByteArray × ByteArray} (hk : L[k]? = some x) (hq : q x = false) (h0 : ∀ y ∈ L.take k, q y = true) : DelInv q L L k (k + 1) := by
  have hl := (List.getElem?_eq_some_iff.1 hk).1
  refine ⟨rfl, Nat.lt_succ_self _, hl, ?_, rfl⟩
  rw [take_sn hk, List.filter_append, List.filter_eq_self.2 h0]; simp [hq]
theorem filter_len {q : ByteArray × ByteArray → Bool} {L M : List (ByteArray × ByteArray)} {i : Nat} (h : DelInv q L M i L.length) : L.filter q = M.take i ∧ i < L.length := by
  have := h.low
  rw [List.take_length] at this
  exact ⟨this.symm, h.lt⟩

theorem splice_take {α : Type} {L cs : List α} {o : Nat} (h : o + cs.length ≤ L.length) : (splice L o cs).take o = L.take o := by
  unfold splice
  rw [List.take_append_of_le_length (by simp; omega), List.take_take, Nat.min_self]
theorem zeroMd_one (n : Nat) : ∀ u ∈ (Builtin.zeroCells (Value.agg #[.string ⟨#[]⟩, .string ⟨#[]⟩]).cells n).toList, u.oneCell' = true := by
  intro u hu
  have h2 : ((Value.agg #[.string ⟨#[]⟩, .string ⟨#[]⟩]).cells).size = 2 := rfl
  simp only [Builtin.zeroCells, Array.toList_map, List.mem_map] at hu
  obtain ⟨i, _, rfl⟩ := hu
  rw [h2]
  rcases Nat.mod_two_eq_zero_or_one i with h | h <;> rw [h] <;> rfl
theorem findI_list (p : Md → Bool) (L : List (ByteArray × ByteArray)) : (findI p (mdTs L) = -1 ∧ ∀ m ∈ L, pOf p m = false) ∨ ∃ (k : Nat) (x : ByteArray × ByteArray), findI p (mdTs L) = (k : Int) ∧ L[k]? = some x ∧ pOf p x = true ∧ ∀ y ∈ L.take k, pOf p y = false := by
  cases h : (mdTs L).findIdx? p with
  | none =>
    left
    refine ⟨by unfold findI; rw [h], fun m hm => ?_⟩
    rw [List.findIdx?_eq_none_iff] at h
    exact h _ (List.mem_map.2 ⟨m, hm, rfl⟩)
  | some k =>
    right
    have hf : findI p (mdTs L) = (k : Int) := by unfold findI; rw [h]
    rw [List.findIdx?_eq_some_iff_getElem] at h
    obtain ⟨hk, h1, h2⟩ := h
    have hkl : k < L.length := by rwa [mdTs_length] at hk
    have e : ∀ j (hj : j < L.length), (mdTs L)[j]'(by rw [mdTs_length]; exact hj) = (L[j].1.data.toList, L[j].2.data.toList) := fun j hj => by simp [mdTs]
    refine ⟨k, L[k], hf, List.getElem?_eq_getElem hkl, by rw [e k hkl] at h1; exact h1, fun y hy => ?_⟩
    obtain ⟨j, hj⟩ := List.getElem?_of_mem hy
    have hjk : j < k := by
      have := (List.getElem?_eq_some_iff.1 hj).1
      rw [List.length_take] at this
      omega
    rw [List.getElem?_take, if_pos hjk, List.getElem?_eq_getElem (by omega)] at hj
    have h3 := h2 j hjk
    rw [e j (by omega)] at h3
    rw [← Option.some.inj hj]
    simpa [pOf] using h3

set_option maxHeartbeats 4000000 in
set_option maxRecDepth 100000 in
theorem deleteFuncM_calls (g : Nat) (lb : Array Value) (eg : ∀ args w, (callFunc g args).run Tryz.prog w = .ok (.enter g args) w) (p : Md → Bool) (base : Nat) (v : Value) (L : List (ByteArray × ByteArray)) (w : World) (hown : w.ownsRow base 38 2 v L.length (mdVs L)) (hbase : base ≤ w.heap.size) (hl : L.length ≤ 1000000) (hT : TestsL g lb p L base w) :
    Calls Tryz.prog 94 #[v, .func (.func g) #[] lb] w fun e w' => (∃ v', e = .returned v' ∧ w'.ownsRow base 38 2 v' (L.filter fun m => !pOf p m).length (mdVs (L.filter fun m => !pOf p m))) ∧ Below base w w' := by
  have hm := modsAt_own hown
  obtain ⟨a0, n0, cap0, P, V, e0, e1, hnc, hcap, hc⟩ := id hm
  have hn0 : n0 = L.length := by have := congrArg List.length e1; rw [mdF_length, mdTs_length] at this; exact this.symm
  subst hn0
  have hPV : ∀ j, j < L.length → (P j, V j) ∈ L := fun j hj => by
    have h1 := mdF_get L.length P V j hj
    rw [← e1] at h1
    unfold mdTs at h1
    rw [List.getElem?_map, List.getElem?_eq_getElem hj] at h1
    have h2 := Option.some.inj h1
    have h3 := bytes_pair.1 h2
    rw [← h3.1, ← h3.2]
    exact List.getElem_mem hj
  have hIF := indexFuncM_calls g lb eg p a0 L.length cap0 base P V w hl hbase hc (fun W hW j hj => hT W hW _ _ (hPV j hj))
  rw [← e1] at hIF
  subst e0
  clear hc hPV e1 hm hnc
  rcases findI_list p L with ⟨h1, hall⟩ | ⟨k0, x0, h1, hk0, ht, hall⟩
  · rw [h1] at hIF
    have hF : L.filter (fun m => !pOf p m) = L := List.filter_eq_self.2 (fun m hm => by rw [hall m hm]; rfl)
    rw [hF]
    have HO := Lib.hid hown
    clear hT hall hF h1 hown
    go_enter Tryz.func94, Tryz.ntmps94
    go_wp2_with fail
    refine hIF.mono ?_
    rintro e w1 ⟨rfl, hb1⟩
    go_wp2_with fail
    go_ret
    exact ⟨⟨_, rfl, ownsRow_kept HO.out hb1⟩, hb1.mono hbase⟩
  · rw [h1] at hIF
    have hkl : k0 < L.length := (List.getElem?_eq_some_iff.1 hk0).1
    have hI0 : DelInv (fun m => !pOf p m) L L k0 (k0 + 1) := DelInv.start hk0 (by rw [ht]; rfl) (fun y hy => by rw [hall y hy]; rfl)
    have hne1 : ((k0 : Int) == -1) = false := beq_eq_false_iff_ne.2 (by omega)
    rcases hown.2 with ⟨_, h2⟩ | ⟨g0, c0, cur, e1, hbg, hg, hn2, hm2, hcs, htk⟩
    · omega
    · injection e1 with e1 _ e3
      subst e1 e3
      have zr := Tryz.zeroValue38
      have HO := Lib.hid hown
      have HT := Lib.hid hT
      have HI := Lib.hid hI0
      have hgw : g0 < w.heap.size := (Array.getElem?_eq_some_iff.1 hg).1
      generalize hnL : L.length = n at *
      replace hnL := Lib.hid hnL
      clear hall h1 ht hk0 hT hown hI0 hg htk hcs
      go_enter Tryz.func94, Tryz.ntmps94
      go_wp2_with fail
      refine hIF.mono ?_
      rintro e w1 ⟨rfl, hb1⟩
      go_wp2_with fail
      go_loopg [5, 6, 7] n (fun gg s5 s6 _ wr => ∃ (i j : Nat) (M : List (ByteArray × ByteArray)), s5 = .int .i64 i ∧ s6 = .int .i64 j ∧ j ≤ n ∧ n - j ≤ gg ∧ Below base w wr ∧ Hid (wr.ownsRow base 38 2 (.slice (some ⟨g0, 0, none⟩) n cap0) M.length (mdVs M)) ∧ Hid (DelInv (fun m => !pOf p m) L M i j))
      case atStart => exact ⟨k0, k0 + 1, L, rfl, by go_num, by omega, by omega, hb1.mono hbase, Lib.hid (by rw [hnL.out]; exact ownsRow_kept HO.out hb1), HI⟩
      case round =>
        obtain ⟨i, j, M, rfl, rfl, hjd, hgg, hB, hOM, hI⟩ := hrel
        have hij := hI.out.lt
        have hML := hI.out.len
        have hBs := hB.size
        by_cases hlt : j < n
        · have hltz : (j : Int) < (n : Int) := by omega
          obtain ⟨⟨x, y⟩, hxy⟩ : ∃ m, L[j]? = some m := ⟨_, List.getElem?_eq_getElem (by have := hnL.out; omega)⟩
          obtain ⟨cx, cy, -⟩ := own_cells hOM.out (hI.out.get.trans hxy)
          have hba := below_alloc wr (.cells #[.string x, .string y] 38)
          obtain ⟨z0, z1, _⟩ := box2_alloc wr (.string x) (.string y) 38
          have hcall := HT.out (wr.alloc (.cells #[.string x, .string y] 38)) (hB.trans (hba.mono (Nat.le_trans hbase hBs))) x y (List.mem_of_getElem? hxy)
          have hOa := ownsRow_kept hOM.out hba
          have hBa := hB.trans (hba.mono (Nat.le_trans hbase hBs))
          have hin : (i : Int) < (n : Int) := by omega
          have HJ := Lib.hid (And.intro hI.out (And.intro hxy (And.intro hij hML)))
          obtain ⟨⟨u, s⟩, hus⟩ : ∃ m, M[i]? = some m := ⟨_, List.getElem?_eq_getElem (by have := hnL.out; omega)⟩
          have HOA := Lib.hid (And.intro hOa hus)
          cases hq : p (x.data.toList, y.data.toList) with
          | false =>
            rw [hq] at hcall
            have HQ : Hid (pOf p (x, y) = false) := Lib.hid hq
            clear hq hOa hus hI hxy hij hML hOM
            go_wp2_with (go_at_fn g; refine hcall.mono ?_; rintro e w2 ⟨rfl, hb2⟩; (have hO2 := Lib.hid (ownsRow_kept HOA.out.1 hb2)); (have hB2 := hBa.trans (hb2.mono (Nat.le_trans hbase (Nat.le_trans hBs hba.size)))); (replace z0 := Below.cell_some hb2 z0); (replace z1 := Below.cell_some hb2 z1); (obtain ⟨d0, d1, -⟩ := own_cells (i := i) hO2.out HOA.out.2); (have f0 := own_frozen (j := i * 2) hO2.out); (have f1 := own_frozen (j := i * 2 + 1) hO2.out); (have s1 : (w2.setCell ⟨g0, i * 2, none⟩ (.string x)).cell? ⟨g0, i * 2 + 1, none⟩ = some (.string s) := by rw [set_off _ (by omega)]; exact d1); (have s2 : (w2.setCell ⟨g0, i * 2, none⟩ (.string x)).frozen? ⟨g0, i * 2 + 1, none⟩ = false := by simpa using f1))
            go_roundg (n - (j + 1))
            case measure => omega
            case rel =>
              refine ⟨i + 1, j + 1, M.set i (x, y), by go_num, by go_num, by omega, Nat.le_refl _, below_put hB2 hbg _ _, Lib.hid (own_put (i := i) hO2.out x y), Lib.hid (HJ.out.1.keep HJ.out.2.1 (by rw [HQ.out]; rfl))⟩
          | true =>
            rw [hq] at hcall
            have HQ : Hid (pOf p (x, y) = true) := Lib.hid hq
            clear hq hOa hus hI hxy hij hML hOM
            go_wp2_with (go_at_fn g; refine hcall.mono ?_; rintro e w2 ⟨rfl, hb2⟩)
            go_roundg (n - (j + 1))
            case measure => omega
            case rel => exact ⟨i, j + 1, M, rfl, by go_num, by omega, Nat.le_refl _, hBa.trans (hb2.mono (Nat.le_trans hbase (Nat.le_trans hBs hba.size))), Lib.hid (ownsRow_kept HOA.out.1 hb2), Lib.hid (HJ.out.1.skip HJ.out.2.1 (by rw [HQ.out]; rfl))⟩
        · obtain rfl : j = n := by omega
          have hltz : ¬ (j : Int) < (j : Int) := by omega
          have hfl := filter_len (q := fun m => !pOf p m) (L := L) (M := M) (i := i) (by rw [hnL.out]; exact hI.out)
          have hMn : M.length = j := by rw [hML]; exact hnL.out
          have hlen : (M.take i).length = i := by rw [List.length_take]; omega
          have HFL : Hid (L.filter (fun m => !pOf p m) = M.take i ∧ (M.take i).length = i) := Lib.hid ⟨hfl.1, hlen⟩
          rcases hOM.out.2 with ⟨h2, _⟩ | ⟨g5, c5, cur5, e5, _, hg5, _, _, hcs5, htk5⟩
          · cases h2
          · injection e5 with e5 e7 e6
            clear e7
            injection e5 with e5
            injection e5 with e5
            subst e5 e6
            have hfit : i * 2 + (j - i) * 2 ≤ cur5.toList.length := by rw [Array.length_toList, hcs5]; omega
            have hg5' : wr.heap[g0]? = some (.cells cur5.toList.toArray 38 (0, 0)) := by rw [Array.toArray_toList]; exact hg5
            have hzl := zeroCells_len (Value.agg #[.string ⟨#[]⟩, .string ⟨#[]⟩]).cells rfl (j - i)
            have hz1c : ∀ u ∈ (Builtin.zeroCells (Value.agg #[.string ⟨#[]⟩, .string ⟨#[]⟩]).cells (j - i)).toList, u.oneCell' = true := zeroMd_one (j - i)
            have hmv : (mdVs M).take (i * 2) = mdVs (M.take i) := (mdVs_take M i).symm
            have htk6 : cur5.toList.take (i * 2) = mdVs (M.take i) := by
              rw [← hmv, ← htk5, List.take_take]
              congr 1
              omega
            have HF := Lib.hid (And.intro hfit (And.intro hzl (And.intro htk6 hcs5)))
            have HG := Lib.hid hg5'
            have HZ := Lib.hid hz1c
            have hi1 : (i : Int) ≤ (j : Int) := by omega
            have hi2 : ¬ (cap0 = i) := by omega
            have hi3 : i ≤ cap0 := by omega
            have hi4 : (i : Int) ≤ (cap0 : Int) := by omega
            have hi5 : (j : Int) ≤ (cap0 : Int) := by omega
            have hzv : ∀ w, (zeroValue 38).run Tryz.prog w = .ok (.agg #[.string ⟨#[]⟩, .string ⟨#[]⟩]) w := Tryz.zeroValue38
            clear hfl hMn hlen hOM hg5 hg5' hfit hzl hz1c hmv htk6 htk5 hcs5 hI hML
            go_wp2_with (refine wpList_clearK rfl _ 23 rfl 38 (.agg #[.string ⟨#[]⟩, .string ⟨#[]⟩]) (j - i) Tryz.underlying23 hzv HF.out.2.1 HZ.out g0 (i * 2) _ (by omega) rfl _ 38 HG.out HF.out.1 base w hB hbg ?_; intro w5 hg5 hb15 hc15)
            go_ret
            have hg5 := hg5.out
            refine ⟨⟨_, rfl, ?_⟩, hb15⟩
            rw [HFL.out.1, HFL.out.2]
            refine ⟨by rw [mdVs_length, HFL.out.2], .inr ⟨g0, cap0, _, rfl, hbg, hg5, by omega, hm2, ?_, ?_⟩⟩
            · have h1 := splice_length (L := cur5.toList) (cs := (Builtin.zeroCells (Value.agg #[.string ⟨#[]⟩, .string ⟨#[]⟩]).cells (j - i)).toList) (o := i * 2) (by rw [HF.out.2.1]; exact HF.out.1)
              rw [List.size_toArray, h1, Array.length_toList]
              exact HF.out.2.2.2
            · have h2 := splice_take (L := cur5.toList) (cs := (Builtin.zeroCells (Value.agg #[.string ⟨#[]⟩, .string ⟨#[]⟩]).cells (j - i)).toList) (o := i * 2) (by rw [HF.out.2.1]; exact HF.out.1)
              rw [List.toList_toArray, h2]
              exact HF.out.2.2.1
end Go.Proofs.Pw

/- slices.CompactFunc with mod.Rise's test, in a row of one's own; mod.Rise. Conditions: lists of at most 1000000. -/
namespace Go.Proofs.Pw
open Go.RowKit
open Go.Lib hiding intOf

/-- no two neighbours of one path -/
def NoTwin (L : List (ByteArray × ByteArray)) : Prop := ∀ (i : Nat) (x y : ByteArray × ByteArray), L[i]? = some x → L[i + 1]? = some y → x.1 ≠ y.1
/-- what CompactFunc hands back: a slice that is as long if and only if there were no twins -/
def CompOut (L : List (ByteArray × ByteArray)) (e : Ending) : Prop := ∃ a m c, e = .returned (.slice a m c) ∧ m ≤ L.length ∧ (m = L.length ↔ NoTwin L)

set_option maxHeartbeats 8000000 in
set_option maxRecDepth 100000 in
theorem compactM_calls (base : Nat) (v : Value) (L : List (ByteArray × ByteArray)) (w : World) (hown : w.ownsRow base 38 2 v L.length (mdVs L)) (hbase : base ≤ w.heap.size) (hl : L.length ≤ 1000000) :
    Calls Tryz.prog 122 #[v, .func (.func 123) #[] #[]] w fun e w' => CompOut L e ∧ Below base w w' := by
  have eg := Tryz.enters_rise2
  by_cases h2 : L.length < 2
  · obtain ⟨a, m, c, rfl⟩ := own_form hown
    obtain rfl := own_len hown
    have hOut : CompOut L (.returned (.slice a L.length c)) := ⟨a, L.length, c, rfl, Nat.le_refl _, iff_of_true rfl (fun i x y _ hy => by have := (List.getElem?_eq_some_iff.1 hy).1; omega)⟩
    have h2' : (L.length : Int) < 2 := by omega
    have HO := Lib.hid hOut
    clear hOut h2
    go_enter Tryz.func122, Tryz.ntmps122
    go_wp2_with fail
    go_ret
    exact ⟨HO.out, Below.refl _ _⟩
  · rcases hown.2 with ⟨_, h3⟩ | ⟨g, cap, cur, rfl, hbg, hg, hnc, hm, hcs, htk⟩
    · omega
    · have h2' : ¬ (L.length : Int) < 2 := by omega
      have HO := Lib.hid hown
      have hgw : g < w.heap.size := (Array.getElem?_eq_some_iff.1 hg).1
      generalize hnL : L.length = n at *
      replace hnL := Lib.hid hnL
      clear hg htk hcs hown
      go_enter Tryz.func122, Tryz.ntmps122
      go_wp2_with fail
      go_loopw [5] (fun i wr => ∃ j : Nat, j + 1 ≤ n ∧ i = .int .i64 ((j : Int) + 1) ∧ Below w.heap.size w wr ∧ Hid (∀ (i : Nat) (x y : ByteArray × ByteArray), i < j → L[i]? = some x → L[i + 1]? = some y → x.1 ≠ y.1)) (fun i _ => n - (intOf i).toNat)
      case atStart => exact ⟨0, by omega, rfl, Below.refl _ _, Lib.hid (fun i x y h => absurd h (Nat.not_lt_zero _))⟩
      case round =>
        obtain ⟨j, hj, rfl, hB, HA⟩ := hrel
        have hj1 : (0 : Int) ≤ (j : Int) + 1 := by omega
        have hj2 : ((j : Int) + 1).toNat = j + 1 := by omega
        have hj3 := wrap_nat j (by omega)
        have hj4 : (j : Int) + 1 - 1 = (j : Int) := by omega
        have hj5 := wrap_nat (j + 1 + 1) (by omega)
        by_cases hlt : j + 1 < n
        · have hlt' : (j : Int) + 1 < (n : Int) := by omega
          have hj6 : (j : Int) < (n : Int) := by omega
          have hj7 : ¬ ((j : Int) + 1 < 0) := by omega
          obtain ⟨⟨x1, y1⟩, hx1⟩ : ∃ m, L[j + 1]? = some m := ⟨_, List.getElem?_eq_getElem (by have := hnL.out; omega)⟩
          obtain ⟨⟨x0, y0⟩, hx0⟩ : ∃ m, L[j]? = some m := ⟨_, List.getElem?_eq_getElem (by have := hnL.out; omega)⟩
          have hOr : wr.ownsRow base 38 2 (.slice (some ⟨g, 0, none⟩) n cap) L.length (mdVs L) := by rw [hnL.out]; exact ownsRow_kept HO.out hB
          obtain ⟨c0, c1, -⟩ := own_cells hOr hx1
          obtain ⟨c2, c3, -⟩ := own_cells hOr hx0
          have hcall := fun W => rise2_calls x1 y1 x0 y0 W
          have HX := Lib.hid (And.intro hx0 (And.intro hx1 hOr))
          replace hcall := Lib.hid hcall
          clear hx0 hx1 hOr
          go_wp2_with fail
          by_cases he : x1 = x0
          · subst he
            rw [decide_eq_true rfl] at hcall
            have kqc0 := fun d os => cell_patch (d := d) (os := os) c0
            have kqc1 := fun d os => cell_patch (d := d) (os := os) c1
            have kqc2 := fun d os => cell_patch (d := d) (os := os) c2
            have kqc3 := fun d os => cell_patch (d := d) (os := os) c3
            refine wp_region_quiet_patch (by kernel_rfl) (by kernel_rfl) ?_
            repeat (go_big_quiet_step ((go_at_fn 123; exact Calls.patch_of (hcall.out _))))
            refine wpQuiet_nil ?_
            intro _ hw'
            obtain ⟨⟨dq, osq⟩, hw''⟩ := hw'
            subst hw''
            clear kqc0 kqc1 kqc2 kqc3
            have hb := below_patch wr dq osq
            replace hB := below_step hB hb
            clear hb
            generalize patch wr dq osq = w2 at hB ⊢
            have hnt : ¬ NoTwin L := fun h => h j (x1, y0) (x1, y1) HX.out.1 HX.out.2.1 rfl
            have HNT := Lib.hid hnt
            clear c0 c1 c2 c3 hcall hnt HX HA
            have HQ : Hid (n = j + 1 + (n - (j + 1)) ∧ 1 ≤ n - (j + 1)) := Lib.hid ⟨by omega, by omega⟩
            have hq1 : 1 ≤ n - (j + 1) := by omega
            have hB2 := hB.mono hbase
            have hO2 : Hid (w2.ownsRow base 38 2 (.slice (some ⟨g, 0, none⟩) n cap) L.length (mdVs L)) := Lib.hid (by rw [hnL.out]; exact ownsRow_kept HO.out hB)
            go_wp2_with fail
            generalize n - (j + 1) = q at *
            have hq9 : q ≤ 1000000 := by have := HQ.out; omega
            go_loopw [5, 7] (fun i5 i7 wr => ∃ (k m : Nat) (M : List (ByteArray × ByteArray)), i5 = .int .i64 k ∧ i7 = .int .i64 ((m : Int) + 1) ∧ m + 1 ≤ q ∧ k ≤ j + 1 + m ∧ Below base w wr ∧ Hid (wr.ownsRow base 38 2 (.slice (some ⟨g, 0, none⟩) n cap) M.length (mdVs M)) ∧ Hid (M.length = n)) (fun _ i7 _ => q - (intOf i7).toNat)
            case atStart => exact ⟨j + 1, 0, L, by go_num, rfl, hq1, Nat.le_refl _, hB2, hO2, Lib.hid hnL.out⟩
            case round =>
              clear hB2 hO2
              obtain ⟨k, m, M, rfl, rfl, hmq, hkm, hBr, hOM, hMl⟩ := hrel
              have hBs := hBr.size
              have hm1 : (0 : Int) ≤ (m : Int) + 1 := by omega
              have hm2 : ((m : Int) + 1).toNat = m + 1 := by omega
              have hm3 := wrap_nat m (by have := HQ.out; omega)
              have hm4 : (m : Int) + 1 - 1 = (m : Int) := by omega
              have hm5 := wrap_nat (m + 1 + 1) (by have := HQ.out; omega)
              have hm7 : ¬ ((m : Int) + 1 < 0) := by omega
              by_cases hlt2 : m + 1 < q
              · have hlt3 : (m : Int) + 1 < (q : Int) := by omega
                have hm6 : (m : Int) < (q : Int) := by omega
                obtain ⟨⟨xa, ya⟩, hxa⟩ : ∃ z, M[j + 1 + (m + 1)]? = some z := ⟨_, List.getElem?_eq_getElem (by have := hMl.out; have := HQ.out; omega)⟩
                obtain ⟨⟨xb, yb⟩, hxb⟩ : ∃ z, M[j + 1 + m]? = some z := ⟨_, List.getElem?_eq_getElem (by have := hMl.out; have := HQ.out; omega)⟩
                obtain ⟨⟨xc, yc⟩, hxc⟩ : ∃ z, M[k]? = some z := ⟨_, List.getElem?_eq_getElem (by have := hMl.out; have := HQ.out; omega)⟩
                obtain ⟨c0, c1, -⟩ := own_cells hOM.out hxa
                obtain ⟨c2, c3, -⟩ := own_cells hOM.out hxb
                rw [show (j + 1 + (m + 1)) * 2 = (j + 1) * 2 + (m + 1) * 2 by omega] at c0 c1
                rw [show (j + 1 + m) * 2 = (j + 1) * 2 + m * 2 by omega] at c2 c3
                have hkn : (k : Int) < (n : Int) := by have := HQ.out; omega
                have hk0 : (0 : Int) ≤ (k : Int) := by omega
                have hcall := fun W => rise2_calls xa ya xb yb W
                obtain ⟨D, hD⟩ : ∃ D, D = decide (xa = xb) := ⟨_, rfl⟩
                rw [← hD] at hcall
                have HXC := Lib.hid hxc
                have hBq := Below.refl wr.heap.size wr
                replace hcall := Lib.hid hcall
                clear hD hxa hxb hxc
                cases D with
                | true =>
                  go_wp2_with fail
                  have kqc0 := fun d os => cell_patch (d := d) (os := os) c0
                  have kqc1 := fun d os => cell_patch (d := d) (os := os) c1
                  have kqc2 := fun d os => cell_patch (d := d) (os := os) c2
                  have kqc3 := fun d os => cell_patch (d := d) (os := os) c3
                  refine wp_region_quiet_patch (by kernel_rfl) (by kernel_rfl) ?_
                  repeat (go_big_quiet_step ((go_at_fn 123; exact Calls.patch_of (hcall.out _))))
                  refine wpQuiet_nil ?_
                  intro _ hw'
                  obtain ⟨⟨dq, osq⟩, hw''⟩ := hw'
                  subst hw''
                  clear kqc0 kqc1 kqc2 kqc3
                  have hb := below_patch wr dq osq
                  replace hBq := below_step hBq hb
                  clear hb
                  generalize patch wr dq osq = w3 at hBq ⊢
                  clear c0 c1 c2 c3
                  go_wp2_with fail
                  go_roundw
                  case rel => exact ⟨k, m + 1, M, rfl, by go_num, by omega, by omega, hBr.trans (hBq.mono (Nat.le_trans hbase hBs)), Lib.hid (ownsRow_kept hOM.out hBq), hMl⟩
                  case measure => simp [intOf]; omega
                | false =>
                  go_wp2_with fail
                  have kqc0 := fun d os => cell_patch (d := d) (os := os) c0
                  have kqc1 := fun d os => cell_patch (d := d) (os := os) c1
                  have kqc2 := fun d os => cell_patch (d := d) (os := os) c2
                  have kqc3 := fun d os => cell_patch (d := d) (os := os) c3
                  refine wp_region_quiet_patch (by kernel_rfl) (by kernel_rfl) ?_
                  repeat (go_big_quiet_step ((go_at_fn 123; exact Calls.patch_of (hcall.out _))))
                  refine wpQuiet_nil ?_
                  intro _ hw'
                  obtain ⟨⟨dq, osq⟩, hw''⟩ := hw'
                  subst hw''
                  clear kqc0 kqc1 kqc2 kqc3
                  have hb := below_patch wr dq osq
                  replace hBq := below_step hBq hb
                  replace c0 := Below.cell_some hb c0
                  replace c1 := Below.cell_some hb c1
                  clear hb
                  generalize patch wr dq osq = w3 at hBq c0 c1 ⊢
                  clear c2 c3
                  have hOq := ownsRow_kept hOM.out hBq
                  obtain ⟨d0, d1, -⟩ := own_cells (i := k) hOq HXC.out
                  have f0 := own_frozen (j := k * 2) hOq
                  have f1 := own_frozen (j := k * 2 + 1) hOq
                  have s1 : (w3.setCell ⟨g, k * 2, none⟩ (.string xa)).cell? ⟨g, k * 2 + 1, none⟩ = some (.string yc) := by rw [set_off _ (by omega)]; exact d1
                  have s2 : (w3.setCell ⟨g, k * 2, none⟩ (.string xa)).frozen? ⟨g, k * 2 + 1, none⟩ = false := by simpa using f1
                  have HP := Lib.hid (own_put (i := k) hOq xa ya)
                  have hB3 := hBr.trans (hBq.mono (Nat.le_trans hbase hBs))
                  have hwk := wrap_nat (k + 1) (by have := HQ.out; omega)
                  clear hOq
                  go_wp2_with fail
                  go_roundw
                  case rel => exact ⟨k + 1, m + 1, M.set k (xa, ya), by go_num, by go_num, by omega, by omega, below_put hB3 hbg _ _, HP, Lib.hid (by rw [List.length_set]; exact hMl.out)⟩
                  case measure => simp [intOf]; omega
              · obtain rfl : q = m + 1 := by omega
                have hkn : k < n := by have := HQ.out; omega
                have hOut : ∀ c, CompOut L (.returned (.slice (some ⟨g, 0, none⟩) k c)) := fun c => ⟨_, k, c, rfl, by rw [hnL.out]; omega, iff_of_false (by rw [hnL.out]; omega) HNT.out⟩
                rcases hOM.out.2 with ⟨h9, _⟩ | ⟨g5, c5, cur5, e5, _, hg5, _, _, hcs5, htk5⟩
                · cases h9
                · injection e5 with e5 e7 e6
                  clear e7
                  injection e5 with e5
                  injection e5 with e5
                  subst e5 e6
                  have hfit : k * 2 + (n - k) * 2 ≤ cur5.toList.length := by rw [Array.length_toList, hcs5]; omega
                  have hg5' : wr.heap[g]? = some (.cells cur5.toList.toArray 38 (0, 0)) := by rw [Array.toArray_toList]; exact hg5
                  have hzl := zeroCells_len (Value.agg #[.string ⟨#[]⟩, .string ⟨#[]⟩]).cells rfl (n - k)
                  have HF := Lib.hid (And.intro hfit (And.intro hzl (zeroMd_one (n - k))))
                  have HG := Lib.hid hg5'
                  have HOut := Lib.hid hOut
                  have hi1 : (k : Int) ≤ (n : Int) := by omega
                  have hi2 : ¬ (cap = k) := by omega
                  have hi3 : k ≤ cap := by omega
                  have hi4 : (k : Int) ≤ (cap : Int) := by omega
                  have hi5 : (n : Int) ≤ (cap : Int) := by omega
                  have hltz : ¬ (m : Int) + 1 < (m : Int) + 1 := by omega
                  have hzv : ∀ w, (zeroValue 38).run Tryz.prog w = .ok (.agg #[.string ⟨#[]⟩, .string ⟨#[]⟩]) w := Tryz.zeroValue38
                  clear hOM hg5 hg5' hfit hzl htk5 hcs5 hMl hOut
                  go_wp2_with (refine wpList_clearK rfl _ 23 rfl 38 (.agg #[.string ⟨#[]⟩, .string ⟨#[]⟩]) (n - k) Tryz.underlying23 hzv HF.out.2.1 HF.out.2.2 g (k * 2) _ (by omega) rfl _ 38 HG.out HF.out.1 base w hBr hbg ?_; intro w5 hg5 hb15 hc15)
                  go_ret
                  exact ⟨HOut.out _, hb15⟩
          · rw [decide_eq_false he] at hcall
            have kqc0 := fun d os => cell_patch (d := d) (os := os) c0
            have kqc1 := fun d os => cell_patch (d := d) (os := os) c1
            have kqc2 := fun d os => cell_patch (d := d) (os := os) c2
            have kqc3 := fun d os => cell_patch (d := d) (os := os) c3
            refine wp_region_quiet_patch (by kernel_rfl) (by kernel_rfl) ?_
            repeat (go_big_quiet_step ((go_at_fn 123; exact Calls.patch_of (hcall.out _))))
            refine wpQuiet_nil ?_
            intro _ hw'
            obtain ⟨⟨dq, osq⟩, hw''⟩ := hw'
            subst hw''
            clear kqc0 kqc1 kqc2 kqc3
            have hb := below_patch wr dq osq
            replace hB := below_step hB hb
            clear hb
            generalize patch wr dq osq = w2 at hB ⊢
            clear c0 c1 c2 c3
            have HE := Lib.hid he
            clear he
            go_wp2_with fail
            go_roundw
            case rel =>
              refine ⟨j + 1, by omega, by go_num, hB, Lib.hid (fun i x y hi h3 h4 => ?_)⟩
              by_cases e : i = j
              · subst e
                rw [HX.out.1] at h3
                rw [HX.out.2.1] at h4
                cases h3
                cases h4
                exact fun e => HE.out e.symm
              · exact HA.out i x y (by omega) h3 h4
            case measure => simp [intOf]; omega
        · have hlt' : ¬ (j : Int) + 1 < (n : Int) := by omega
          have hOut : CompOut L (.returned (.slice (some ⟨g, 0, none⟩) n cap)) := ⟨_, n, cap, rfl, by rw [hnL.out]; exact Nat.le_refl _, iff_of_true hnL.out.symm (fun i x y hx hy => HA.out i x y (by have := (List.getElem?_eq_some_iff.1 hy).1; have := hnL.out; omega) hx hy)⟩
          have HOut := Lib.hid hOut
          clear hOut
          go_wp2_with fail
          go_ret
          exact ⟨HOut.out, hB.mono hbase⟩

/-- the paths rise: in order, and no twins -/
theorem rise_parts {n : Nat} {P V : Nat → ByteArray} {L : List (ByteArray × ByteArray)} (hL : mdF n P V = mdTs L) : riseB (mdF n P V) = true ↔ SortP n P ∧ NoTwin L := by
  have hlen : L.length = n := by have := congrArg List.length hL; rw [mdF_length, mdTs_length] at this; exact this.symm
  have hget : ∀ i, i < n → ∃ y, L[i]? = some (P i, y) := fun i hi => by
    have h1 := mdF_get n P V i hi
    rw [hL] at h1
    unfold mdTs at h1
    rw [List.getElem?_map, List.getElem?_eq_getElem (by omega)] at h1
    have h2 := bytes_pair.1 (Option.some.inj h1)
    refine ⟨L[i].2, ?_⟩
    rw [List.getElem?_eq_getElem (by omega), ← h2.1]
  unfold riseB
  rw [List.all_eq_true, mdF_length]
  constructor
  · intro h
    have h1 : ∀ i, i + 1 < n → compareBytes (P i).data.toList (P (i + 1)).data.toList < 0 := fun i hi => by
      have := of_decide_eq_true (h i (by rw [List.mem_range]; omega))
      rw [mdAt_mdF (by omega), mdAt_mdF hi] at this
      exact this
    refine ⟨fun j hj => ?_, fun i x y hx hy => ?_⟩
    · have := (compareBytes_ord.anti _ _).1 (h1 j hj)
      omega
    · have hi := (List.getElem?_eq_some_iff.1 hy).1
      obtain ⟨u, hu⟩ := hget i (by omega)
      obtain ⟨v, hv⟩ := hget (i + 1) (by omega)
      rw [hu] at hx
      rw [hv] at hy
      cases hx
      cases hy
      intro e
      have := h1 i (by omega)
      rw [show P i = P (i + 1) from e, compareBytes_ord.self] at this
      omega
  · rintro ⟨h1, h2⟩ i hi
    rw [List.mem_range] at hi
    rw [mdAt_mdF (show i < n by omega), mdAt_mdF (show i + 1 < n by omega)]
    refine decide_eq_true ?_
    have h3 := h1 i (by omega)
    obtain ⟨u, hu⟩ := hget i (by omega)
    obtain ⟨v, hv⟩ := hget (i + 1) (by omega)
    have h4 := h2 i _ _ hu hv
    have h5 : compareBytes (P (i + 1)).data.toList (P i).data.toList ≠ 0 := fun e => h4 (bytes_eq.1 (compareBytes_zero e).symm)
    show compareBytes (P i).data.toList (P (i + 1)).data.toList < 0
    exact (compareBytes_ord.anti _ _).2 (by omega)

set_option maxHeartbeats 2000000 in
set_option maxRecDepth 100000 in
theorem modRise_calls (v : Value) (l : List Md) (w : World) (h : ModsAt w v l) (hl : l.length ≤ 1000000) :
    Calls Tryz.prog 81 #[v] w fun e w' => e = .returned (.bool (riseB l)) ∧ Below w.heap.size w w' := by
  have hcl := fun W hb => cloneM_calls v l W (h.below hb) hl
  obtain ⟨a, n, cap, P, V, rfl, rfl, hnc, hcap, hc⟩ := h
  rw [mdF_length] at hl
  have hso := isSortedM_calls a n cap P V w hl hc
  have hSI := sortB_iff (n := n) (P := P)
  have HRP := Lib.hid (fun L hL => rise_parts (n := n) (P := P) (V := V) (L := L) hL)
  generalize sortB n P = DS at hso hSI
  generalize hRB : riseB (mdF n P V) = RB at *
  replace hso := Lib.hid hso
  replace hcl := Lib.hid hcl
  replace hSI := Lib.hid hSI
  clear hc hRB
  cases DS with
  | false =>
    have hF : RB = false := by
      cases RB with
      | false => rfl
      | true =>
        obtain ⟨L, hL⟩ : ∃ L, mdF n P V = mdTs L := ⟨mdL n P V, (mdL_ts n P V).symm⟩
        exact absurd (hSI.out.2 ((HRP.out L hL).1 rfl).1) (by decide)
    rw [hF]
    clear HRP hF
    go_enter Tryz.func81, Tryz.ntmps81
    go_wp2_with fail
    refine hso.out.mono ?_
    rintro e w1 ⟨rfl, hb⟩
    go_wp2_with fail
    go_ret
    exact ⟨rfl, hb⟩
  | true =>
    go_enter Tryz.func81, Tryz.ntmps81
    go_wp2_with fail
    refine hso.out.mono ?_
    rintro e w1 ⟨rfl, hb⟩
    have hcl1 := hcl.out w1 hb
    replace hcl1 := Lib.hid hcl1
    clear hso hcl
    go_wp2_with fail
    refine hcl1.out.mono ?_
    rintro e w2 ⟨v2, L2, rfl, hL2, ho2, hb2⟩
    have hl2 : L2.length = n := by have := congrArg List.length hL2; rw [mdF_length, mdTs_length] at this; exact this.symm
    have hco := compactM_calls w1.heap.size v2 L2 w2 ho2 hb2.size (by omega)
    have hR := HRP.out L2 hL2
    have HB : Hid (∀ m : Nat, (m = L2.length ↔ NoTwin L2) → (((m : Int) == (n : Int)) = RB)) := Lib.hid (fun m hm => by
      rw [Bool.eq_iff_iff, hR, beq_iff_eq]
      constructor
      · intro e
        exact ⟨by first | exact hSI.out.1 rfl | exact hSI.out.1 trivial, hm.1 (by omega)⟩
      · intro e
        have := hm.2 e.2
        omega)
    obtain ⟨a2, n2, c2, rfl⟩ := own_form ho2
    have hB2 := below_step hb hb2
    have hbs := hb2.size
    replace hco := Lib.hid hco
    clear hcl1 hL2 ho2 hl2 hR
    go_wp2_with fail
    refine hco.out.mono ?_
    rintro e w3 ⟨⟨a3, m3, c3, rfl, _, hm3⟩, hb3⟩
    have HM := Lib.hid (HB.out m3 hm3)
    clear hco hm3 HB
    go_wp2_with fail
    go_ret
    refine ⟨?_, hB2.trans (hb3.mono (Nat.le_trans hb.size (Nat.le_refl _)))⟩
    rw [← HM.out]
    rfl
end Go.Proofs.Pw

/- mvs.Selection. Conditions: texts of at most 1000000 bytes, lists of at most 1000000. -/
namespace Go.Proofs.Pw
open Go.RowKit
open Go.Lib hiding intOf

set_option maxHeartbeats 4000000 in
set_option maxRecDepth 100000 in
theorem selection_in (ks : List Nat) (A : Nat → Addr) (hks : IdxKs ks) (a : Option Addr) (n cap : Nat) (P V : Nat → ByteArray) (R : Nat → List Md) (K : Nat → List Str) (B : Nat → Bool) (Rv Kv : Nat → Value) (rv : Value) (sel : List Md) (w : World) (hE : EnvP ks A w) (h : EntsIn w a n cap P V R K B Rv Kv) (hn : n ≤ 1000000) (hr : ModsAt w rv sel) (hl : sel.length ≤ 1000000) :
    Calls Tryz.prog 90 #[.slice a n cap, rv] w fun e w' => (∃ v, e = .returned v ∧ FaultAt A w' v (selErr (enF n P V R K B) sel)) ∧ Below w.heap.size w w' := by
  have HSL : Hid (selErr (enF n P V R K B) sel = orE (firstE (rootE (enF n P V R K B) sel) sel.length) (if riseB sel = true then (0, -1) else (8, -1))) := Lib.hid rfl
  have hri := fun W hb => modRise_calls rv sel W (hr.below hb) hl
  have H := Lib.hid h
  clear h
  obtain ⟨ar, rn, rc, P2, V2, rfl, rfl, h5, h6, h7⟩ := hr
  rw [mdF_length] at hl HSL
  have hB0 := Below.refl w.heap.size w
  replace h7 := Lib.hid h7
  replace hri := Lib.hid hri
  clear h5 h6
  go_enter Tryz.func90, Tryz.ntmps90
  go_wp2_with fail
  go_loopw [5, 6, 9] (fun _ _ i wr => ∃ k : Nat, k ≤ rn ∧ i = .int .i64 k ∧ Below w.heap.size w wr ∧ Hid (∀ j, j < k → rootE (enF n P V R K B) (mdF rn P2 V2) j = 0)) (fun _ _ i _ => rn - (intOf i).toNat)
  case atStart => exact ⟨0, Nat.zero_le _, rfl, hB0, Lib.hid (fun j hj => absurd hj (Nat.not_lt_zero _))⟩
  case round =>
    obtain ⟨k, hk, rfl, hBr, HA⟩ := hrel
    by_cases hlt : k < rn
    · have hkn : (k : Int) < (rn : Int) := by omega
      obtain ⟨b1, o1, ea, c0, c1⟩ := h7.out k hlt
      replace c0 := Below.cell_some hBr c0
      replace c1 := Below.cell_some hBr c1
      have hba := below_alloc wr (.cells #[.string (P2 k), .string (V2 k)] 38)
      obtain ⟨y0, y1, _⟩ := box2_alloc wr (.string (P2 k)) (.string (V2 k)) 38
      have hB2 := below_step hBr hba
      have hE2 := hE.below hB2
      have hf := idxFind_in a n cap P V R K B Rv Kv (P2 k) (V2 k) (wr.alloc (.cells #[.string (P2 k), .string (V2 k)] 38)) (H.out.below hB2) hn
      have hR : rootE (enF n P V R K B) (mdF rn P2 V2) k = if findE (enF n P V R K B) ((P2 k).data.toList, (V2 k).data.toList) < 0 then 5 else 0 := by
        unfold rootE
        rw [mdAt_mdF hlt]
      generalize findE (enF n P V R K B) ((P2 k).data.toList, (V2 k).data.toList) = x at hf hR
      subst ea
      replace hf := Lib.hid hf
      by_cases hx : x < 0
      · rw [if_pos hx] at hR
        have HF : Hid (selErr (enF n P V R K B) (mdF rn P2 V2) = (5, (k : Int))) := Lib.hid (by
          have h0 := firstE_hit (g := rootE (enF n P V R K B) (mdF rn P2 V2)) (by rw [hR]; decide) HA.out hlt
          rw [HSL.out, h0, hR]
          rfl)
        clear hR hk
        go_wp2_with fail
        refine hf.out.mono ?_
        rintro e w8 ⟨rfl, hb8⟩
        have hE8 := hE2.below hb8
        have g5 := hE8.errs.var 5 hks.2.2.1
        simp only [errG] at g5
        go_wp2_with fail
        go_ret
        rw [HF.out]
        refine ⟨⟨_, rfl, .inr (.inr ⟨(show (5 : Nat) ≠ 0 by decide), w8.heap.size, rfl, by simp, ?_⟩)⟩, (below_step hB2 hb8).alloc (below_step hB2 hb8).size _⟩
        show _ = some (errV A 5)
        rw [errV_pos A (show (5 : Nat) ≠ 0 by decide)]
        simp
      · rw [if_neg hx] at hR
        have HN : Hid (∀ j, j < k + 1 → rootE (enF n P V R K B) (mdF rn P2 V2) j = 0) := Lib.hid (fun j hj => by
          by_cases e : j = k
          · subst e; exact hR
          · exact HA.out j (by omega))
        clear hR hk
        go_wp2_with fail
        refine hf.out.mono ?_
        rintro e w8 ⟨rfl, hb8⟩
        go_wp2_with fail
        go_roundw
        case rel => exact ⟨k + 1, by omega, by go_num, below_step hB2 hb8, HN⟩
        case measure => simp [intOf]; omega
    · obtain rfl : rn = k := by omega
      have HF : Hid (selErr (enF n P V R K B) (mdF rn P2 V2) = if riseB (mdF rn P2 V2) = true then (0, -1) else (8, -1)) := Lib.hid (by
        rw [HSL.out, firstE_none HA.out]; rfl)
      have hri := hri.out _ hBr
      generalize riseB (mdF rn P2 V2) = D at hri HF
      have hEr := hE.below hBr
      replace hri := Lib.hid hri
      clear hlt HA HSL
      cases D with
      | true =>
        go_wp2_with fail
        refine hri.out.mono ?_
        rintro e w8 ⟨rfl, hb8⟩
        go_wp2_with fail
        go_ret
        rw [HF.out]
        exact ⟨⟨_, rfl, .inl ⟨rfl, rfl, rfl⟩⟩, below_step hBr hb8⟩
      | false =>
        go_wp2_with fail
        refine hri.out.mono ?_
        rintro e w8 ⟨rfl, hb8⟩
        have g8 := (hEr.below hb8).errs.var 8 hks.2.2.2.2
        simp only [errG] at g8
        go_wp2_with fail
        go_ret
        rw [HF.out]
        refine ⟨⟨_, rfl, .inr (.inl ⟨by decide, rfl, ?_⟩)⟩, below_step hBr hb8⟩
        show _ = errV A 8
        rw [errV_pos A (show (8 : Nat) ≠ 0 by decide)]
        rfl
end Go.Proofs.Pw

/- mvs.Closed. Conditions: texts of at most 1000000 bytes, lists of at most 100000. -/
namespace Go.Proofs.Pw
open Go.RowKit
open Go.Lib hiding intOf

theorem Tryz.enters_closed1 : ∀ args w, (callFunc 91 args).run Tryz.prog w = .ok (.enter 91 args) w := Go.Proofs.enters_of Tryz.func91 (by kernel_rfl) rfl
theorem closed1_calls (ks : List Nat) (A : Nat → Addr) (v : Value) (l : List Md) (p q : ByteArray) (b : Nat) (w : World) (hE : EnvP ks A w) (h : ModsAt w v l) (hl : l.length ≤ 1000000) (hs : ∀ m ∈ l, m.2.length ≤ 1000000000) (hq : q.size ≤ 1000000000) (hc : w.cell? ⟨b, 0, none⟩ = some v) :
    Calls Tryz.prog 91 #[.agg #[.string p, .string q], .pointer (some ⟨b, 0, none⟩)] w fun e w' => e = .returned (.bool (!hasB l (p.data.toList, q.data.toList))) ∧ Below w.heap.size w w' := by
  have hb := below_alloc w (.cells #[.string p, .string q] 38)
  have c0 := Below.cell_some hb hc
  obtain ⟨y0, y1, _⟩ := box2_alloc w (.string p) (.string q) 38
  have hh := has_calls ks A v l p q (w.alloc (.cells #[.string p, .string q] 38)) (hE.below hb) (h.below hb) hl hs hq
  obtain ⟨a, n, cap, _, _, rfl, _⟩ := id h
  generalize hasB l (p.data.toList, q.data.toList) = D at hh ⊢
  replace hh := Lib.hid hh
  clear h hs
  go_enter Tryz.func91, Tryz.ntmps91
  go_wp2_with fail
  refine hh.out.mono ?_
  rintro e w1 ⟨rfl, hb1⟩
  go_wp2_with fail
  go_ret
  exact ⟨rfl, below_step hb hb1⟩

theorem mods_form {w : World} {v : Value} {l : List Md} (h : ModsAt w v l) : ∃ P V, l = mdF l.length P V := by
  obtain ⟨a, n, cap, P, V, rfl, rfl, _⟩ := h
  exact ⟨P, V, by rw [mdF_length]⟩
theorem flat_snoc {l : List En} {n : Nat} {P V : Nat → ByteArray} {k : Nat} (hk : k < n) : ((mdF n P V).take (k + 1)).flatMap (reqsAt l) = ((mdF n P V).take k).flatMap (reqsAt l) ++ reqsAt l ((P k).data.toList, (V k).data.toList) := by
  rw [mdF_take_succ n P V k hk, List.flatMap_append]; simp
theorem reqsAt_nat {l : List En} {m : Md} {i : Nat} (h : findE l m = i) : reqsAt l m = (enAt l i).reqs := by
  unfold reqsAt
  rw [h]; rfl
theorem closErr_idx {l : List En} {roots sel : List Md} (h : (idxErr l).1 ≠ 0) : closErr l roots sel = idxErr l := by
  unfold closErr startErr
  have e : orE (idxErr l) (rootsErr l roots) = idxErr l := by unfold orE; rw [if_pos h]
  rw [e]
  unfold orE; rw [if_pos h]
theorem closErr_root {l : List En} {roots sel : List Md} (h : (idxErr l).1 = 0) (h2 : (rootsErr l roots).1 ≠ 0) : closErr l roots sel = rootsErr l roots := by
  unfold closErr startErr
  have e : orE (idxErr l) (rootsErr l roots) = rootsErr l roots := by unfold orE; rw [if_neg (by simp [h])]
  rw [e]
  unfold orE; rw [if_pos h2]
theorem closErr_sel {l : List En} {roots sel : List Md} (h : (idxErr l).1 = 0) (h2 : (rootsErr l roots).1 = 0) : closErr l roots sel = selErr l sel := by
  unfold closErr startErr
  have e : orE (idxErr l) (rootsErr l roots) = rootsErr l roots := by unfold orE; rw [if_neg (by simp [h])]
  rw [e]
  unfold orE; rw [if_neg (by simp [h2])]
theorem closR_bad {l : List En} {roots sel : List Md} (h : (closErr l roots sel).1 ≠ 0) : closR l roots sel = false := if_neg h
theorem rightI_small {l : List En} (h : RightI l) (hs : ShortI l) (m : Md) : (reqsAt l m).length ≤ 20 ∧ ∀ r ∈ reqsAt l m, r.2.length ≤ 1000000 := by
  unfold reqsAt
  by_cases hk : (findE l m).toNat < l.length
  · have he := enAt_mem hk
    exact ⟨h.small he, fun r hr => ((hs.reqs _ he).2 r hr).2⟩
  · unfold enAt
    rw [List.getD_eq_getElem?_getD, List.getElem?_eq_none (by omega)]
    exact ⟨by decide, fun r hr => by cases hr⟩
theorem flat_len {f : Md → List Md} (h : ∀ m, (f m).length ≤ 20) : ∀ l : List Md, (l.flatMap f).length ≤ l.length * 20
  | [] => by simp
  | a :: r => by
    rw [List.flatMap_cons, List.length_append, List.length_cons]
    have := flat_len h r
    have := h a
    omega

set_option maxHeartbeats 8000000 in
set_option maxRecDepth 100000 in
theorem closed_in (ks : List Nat) (A : Nat → Addr) (hks : IdxKs ks) (a : Option Addr) (n cap : Nat) (P V : Nat → ByteArray) (R : Nat → List Md) (K : Nat → List Str) (B : Nat → Bool) (Rv Kv : Nat → Value) (rv sv : Value) (roots sel : List Md) (w : World) (hE : EnvP ks A w) (h : EntsIn w a n cap P V R K B Rv Kv) (hs : ShortI (enF n P V R K B)) (hr : ModsAt w rv roots) (hv : ModsAt w sv sel) (hl : roots.length ≤ 10000) (hl2 : sel.length ≤ 10000) (hrs : ∀ m ∈ roots, m.2.length ≤ 1000000) (hss : ∀ m ∈ sel, m.2.length ≤ 1000000) :
    Calls Tryz.prog 45 #[.slice a n cap, rv, sv] w fun e w' => (∃ ev, e = .returned (.tuple #[.bool (closR (enF n P V R K B) roots sel), ev]) ∧ FaultAt A w' ev (closErr (enF n P V R K B) roots sel)) ∧ Below w.heap.size w w' := by
  have hn : n ≤ 1000000 := by have := hs.len; rw [enF_length] at this; exact this
  obtain ⟨a2, n2, c2, P4, V4, rfl, hsel, _, _, hc4⟩ := id hv
  have hb0 := below_alloc w (.cells #[.slice a2 n2 c2] 23)
  have z0 : (w.alloc (.cells #[.slice a2 n2 c2] 23)).cell? ⟨w.heap.size, 0, none⟩ = some (.slice a2 n2 c2) := by simp
  have hck := fun W hb => idxCheck_in ks A hks a n cap P V R K B Rv Kv W (hE.below hb) (h.below hb) hs
  have hse := fun W hb => selection_in ks A hks a n cap P V R K B Rv Kv (.slice a2 n2 c2) sel W (hE.below hb) (h.below hb) hn (hv.below hb) (by omega)
  have hcl := fun W hb => cloneM_calls rv roots W (hr.below hb) (by omega)
  have H := Lib.hid h
  have HE := Lib.hid hE
  have HV := Lib.hid hv
  have HRV := Lib.hid hr
  have HS := Lib.hid hs
  have HRS := Lib.hid hrs
  have HSS := Lib.hid hss
  have HCE : Hid (∀ r : Nat × Int, r = rootsErr (enF n P V R K B) roots → r = firstE (rootE (enF n P V R K B) roots) roots.length) := Lib.hid (fun r h => h)
  obtain ⟨ar, rn, rc, P2, V2, rfl, hro, h5, h6, h7⟩ := hr
  have hrn : rn ≤ 10000 := by have := congrArg List.length hro; rw [mdF_length] at this; omega
  have hn2 : n2 ≤ 10000 := by have := congrArg List.length hsel; rw [mdF_length] at this; omega
  have HRO := Lib.hid hro
  have HSEL := Lib.hid hsel
  have hB := hb0
  replace hck := Lib.hid hck
  replace hse := Lib.hid hse
  replace hcl := Lib.hid hcl
  replace h7 := Lib.hid h7
  replace hc4 := Lib.hid hc4
  clear h hs hrs hss hv h5 h6 hb0 hE hro hsel
  go_enter Tryz.func45, Tryz.ntmps45
  go_wp2_with fail
  generalize w.alloc (.cells #[.slice a2 n2 c2] 23) = w0 at *
  refine (hck.out _ hB).mono ?_
  rintro e w1 ⟨⟨v, rfl, hv⟩, hb⟩
  replace hB := below_step hB hb
  replace z0 := Below.cell_some hb z0
  clear hb
  rcases fault_form hv with ⟨h0, rfl⟩ | ⟨h0, ty, q, rfl⟩
  · have HI0 := Lib.hid h0
    clear hv h0
    go_wp2_with fail
    go_loopw [9, 10, 22] (fun _ _ i wr => ∃ k : Nat, k ≤ rn ∧ i = .int .i64 k ∧ Below w1.heap.size w1 wr ∧ Hid (∀ j, j < k → rootE (enF n P V R K B) roots j = 0)) (fun _ _ i _ => rn - (intOf i).toNat)
    case atStart => exact ⟨0, Nat.zero_le _, rfl, Below.refl _ _, Lib.hid (fun j hj => absurd hj (Nat.not_lt_zero _))⟩
    case round =>
      obtain ⟨k, hk, rfl, hbr, HA⟩ := hrel
      have hBr := below_step hB hbr
      by_cases hlt : k < rn
      · have hkn : (k : Int) < (rn : Int) := by omega
        obtain ⟨b1, o1, ea, c0, c1⟩ := h7.out k hlt
        replace c0 := Below.cell_some hBr c0
        replace c1 := Below.cell_some hBr c1
        have hba := below_alloc wr (.cells #[.string (P2 k), .string (V2 k)] 38)
        obtain ⟨y0, y1, _⟩ := box2_alloc wr (.string (P2 k)) (.string (V2 k)) 38
        have hb2 := below_step hbr hba
        have hB2 := below_step hBr hba
        have hE2 := HE.out.below hB2
        have hf := idxFind_in a n cap P V R K B Rv Kv (P2 k) (V2 k) (wr.alloc (.cells #[.string (P2 k), .string (V2 k)] 38)) (H.out.below hB2) hn
        have hR : rootE (enF n P V R K B) roots k = if findE (enF n P V R K B) ((P2 k).data.toList, (V2 k).data.toList) < 0 then 5 else 0 := by
          unfold rootE
          rw [HRO.out, mdAt_mdF hlt]
        generalize findE (enF n P V R K B) ((P2 k).data.toList, (V2 k).data.toList) = x at hf hR
        subst ea
        replace hf := Lib.hid hf
        by_cases hx : x < 0
        · rw [if_pos hx] at hR
          have hrl : roots.length = rn := by rw [HRO.out, mdF_length]
          have hre : rootsErr (enF n P V R K B) roots = (5, (k : Int)) := by
            have h0 := firstE_hit (g := rootE (enF n P V R K B) roots) (by rw [hR]; decide) HA.out hlt
            rw [hR] at h0
            unfold rootsErr
            rw [hrl, h0]
          have hce := closErr_root (sel := sel) HI0.out (by rw [hre]; exact (by decide : (5 : Nat) ≠ 0))
          rw [hre] at hce
          have HF := Lib.hid (And.intro hce (closR_bad (by rw [hce]; exact (by decide : (5 : Nat) ≠ 0))))
          clear hR hk hre hce hrl
          go_wp2_with fail
          refine hf.out.mono ?_
          rintro e w8 ⟨rfl, hb8⟩
          have hE8 := hE2.below hb8
          have hB8 := below_step hB2 hb8
          have g5 := hE8.errs.var 5 hks.2.2.1
          simp only [errG] at g5
          go_wp2_with fail
          go_region
          all_goals
            go_wp2_with fail
            go_ret2
            rw [HF.out.1, HF.out.2]
            refine ⟨⟨_, rfl, .inr (.inr ⟨(show (5 : Nat) ≠ 0 by decide), w8.heap.size, rfl, by simp, ?_⟩)⟩, hB8.drew.alloc (by have := hB8.size; simpa using this) _⟩
            show _ = some (errV A 5)
            rw [errV_pos A (show (5 : Nat) ≠ 0 by decide)]
            simp
        · rw [if_neg hx] at hR
          have HN : Hid (∀ j, j < k + 1 → rootE (enF n P V R K B) roots j = 0) := Lib.hid (fun j hj => by
            by_cases e : j = k
            · subst e; exact hR
            · exact HA.out j (by omega))
          clear hR hk
          go_wp2_with fail
          refine hf.out.mono ?_
          rintro e w8 ⟨rfl, hb8⟩
          go_wp2_with fail
          go_roundw
          case rel => exact ⟨k + 1, by omega, by go_num, below_step hb2 hb8, HN⟩
          case measure => simp [intOf]; omega
      · obtain rfl : rn = k := by omega
        have hre : (rootsErr (enF n P V R K B) roots).1 = 0 := by
          unfold rootsErr
          rw [show roots.length = rn by rw [HRO.out, mdF_length], firstE_none HA.out]
        have hce := closErr_sel (sel := sel) HI0.out hre
        have HCS := Lib.hid hce
        have HRE := Lib.hid hre
        replace z0 := Below.cell_some hbr z0
        clear hlt HA hre hce hB hbr HCE h7
        go_wp2_with fail
        refine (hse.out _ hBr).mono ?_
        rintro e w2 ⟨⟨v, rfl, hv⟩, hb⟩
        have hB2 := below_step hBr hb
        replace z0 := Below.cell_some hb z0
        clear hb hBr hse hck
        rcases fault_form hv with ⟨h0, rfl⟩ | ⟨h0, ty, q, rfl⟩
        · have HSE := Lib.hid h0
          have hRI := rightI_of HI0.out
          have hsm := rightI_small hRI HS.out
          have hsx := (selErr_zero.1 h0).1
          have HF := Lib.hid hv
          clear hv h0
          have HSM := Lib.hid hsm
          have HSX := Lib.hid hsx
          have hz2 := z0
          have hCR : closR (enF n P V R K B) roots sel = closB (enF n P V R K B) roots sel := by unfold closR; rw [if_pos (by rw [HCS.out]; exact HSE.out)]
          have HCR := Lib.hid hCR
          clear hRI hsm hsx hCR
          go_wp2_with fail
          refine (hcl.out _ hB2).mono ?_
          rintro e w3 ⟨v3, L3, rfl, hL3, ho3, hb⟩
          have hB3 := below_step hB2 hb
          replace z0 := Below.cell_some hb z0
          have hl3 : L3.length ≤ 10000 := by have := congrArg List.length hL3; rw [mdTs_length] at this; omega
          have HO3 := Lib.hid ho3
          have HL3 : Hid (mdTs L3 = roots ++ (sel.take 0).flatMap (reqsAt (enF n P V R K B))) := Lib.hid (by rw [← hL3]; simp)
          clear hcl ho3 hL3
          go_wp2_with fail
          go_loopw [12, 14, 47] (fun o _ i wr => ∃ (k : Nat) (L : List (ByteArray × ByteArray)), k ≤ n2 ∧ i = .int .i64 k ∧ Hid (wr.ownsRow w2.heap.size 38 2 o L.length (mdVs L)) ∧ L.length ≤ 10000 + k * 20 ∧ Hid (mdTs L = roots ++ (sel.take k).flatMap (reqsAt (enF n P V R K B))) ∧ Below w2.heap.size w2 wr) (fun _ _ i _ => n2 - (intOf i).toNat)
          case atStart => exact ⟨0, L3, Nat.zero_le _, rfl, HO3, by omega, HL3, hb⟩
          case round =>
            clear HO3 HL3 z0 hb hl3
            obtain ⟨k, L, hk, rfl, hO, hLk, hT, hbr⟩ := hrel
            have hBr := below_step hB2 hbr
            have z0 := Below.cell_some hbr hz2
            obtain ⟨ao, no, co, rfl⟩ := own_form hO.out
            by_cases hlt : k < n2
            · have hkn : (k : Int) < (n2 : Int) := by omega
              obtain ⟨b1, o1, ea, c0, c1⟩ := hc4.out k hlt
              replace c0 := Below.cell_some hBr c0
              replace c1 := Below.cell_some hBr c1
              have hba := below_alloc wr (.cells #[.string (P4 k), .string (V4 k)] 38)
              obtain ⟨y0, y1, _⟩ := box2_alloc wr (.string (P4 k)) (.string (V4 k)) 38
              have hbr2 := below_step hbr hba
              have hBr2 := below_step hBr hba
              have hf := idxFind_in a n cap P V R K B Rv Kv (P4 k) (V4 k) (wr.alloc (.cells #[.string (P4 k), .string (V4 k)] 38)) (H.out.below hBr2) hn
              have hmem : ((P4 k).data.toList, (V4 k).data.toList) ∈ sel := by rw [HSEL.out]; exact List.mem_of_getElem? (mdF_get n2 P4 V4 k hlt)
              obtain ⟨en, hen, hem⟩ := HSX.out _ hmem
              have hnf : ¬ findE (enF n P V R K B) ((P4 k).data.toList, (V4 k).data.toList) < 0 := fun h => findE_lt.1 h en hen hem
              obtain ⟨i, hi, hil, him⟩ := findE_nat hnf
              rw [enF_length] at hil
              have hreq : reqsAt (enF n P V R K B) ((P4 k).data.toList, (V4 k).data.toList) = R i := by
                rw [reqsAt_nat hi, enAt_enF hil]
              have hRl : (R i).length ≤ 20 := by rw [← hreq]; exact (HSM.out _).1
              rw [hi] at hf
              obtain ⟨b5, o5, ea5, hcell⟩ := H.out.at_ i hil
              obtain ⟨a7, n7, s7, a8, n8, s8, e7, e8⟩ := H.out.forms hil
              have hMi := H.out.reqs i hil
              rw [e7, e8] at hcell
              rw [e7] at hMi
              have HMi := Lib.hid hMi
              have c5 := Below.cell_some hBr2 hcell.c2
              have hin : (i : Int) < (n : Int) := by omega
              have HN : Hid (roots ++ (sel.take (k + 1)).flatMap (reqsAt (enF n P V R K B)) = mdTs L ++ R i) := Lib.hid (by
                rw [hT.out, HSEL.out, flat_snoc hlt, hreq, ← List.append_assoc])
              subst ea ea5
              have hOa := Lib.hid (ownsRow_kept hO.out hba)
              replace hf := Lib.hid hf
              clear hmem hen hem hnf hi him hreq hMi hcell e7 e8 hO hT
              go_wp2_with fail
              refine hf.out.mono ?_
              rintro e w8 ⟨rfl, hb8⟩
              have hbr8 := below_step hbr2 hb8
              have hBr8 := below_step hBr2 hb8
              replace c5 := Below.cell_some hb8 c5
              have hO8 := ownsRow_kept hOa.out hb8
              obtain ⟨o9, w9, hap, ⟨L9, hL9, ho9⟩, hg9⟩ := app_mods w8 w2.heap.size hbr8.size _ _ L _ hO8 (HMi.out.below hBr8) (by omega) (by omega)
              have hown := fun q (e : (Value.slice ao no co).ownBlock = some q) => (hO8.lt q e).1
              have hbr9 : Below w2.heap.size w2 w9 := hbr8.grown hg9 hbr8.size hown
              have hl9 : L9.length ≤ 10000 + (k + 1) * 20 := by
                have := congrArg List.length hL9
                rw [mdTs_length, List.length_append, mdTs_length] at this
                omega
              have HAP := Lib.hid hap
              have HO9 := Lib.hid ho9
              have HL9 : Hid (mdTs L9 = roots ++ (sel.take (k + 1)).flatMap (reqsAt (enF n P V R K B))) := Lib.hid (by rw [hL9, HN.out])
              clear hap ho9 hL9 hg9 hO8 hf hown hb8
              go_wp2_with (at_builtin; refine wpList_append_run rfl _ _ 23 rfl _ _ rfl rfl _ _ HAP.out ?_)
              go_roundw
              case rel => exact ⟨k + 1, L9, hlt, by go_num, HO9, hl9, HL9, hbr9⟩
              case measure => simp [intOf]; omega
            · obtain rfl : n2 = k := by omega
              have hst : sel.take n2 = sel := List.take_of_length_le (by rw [HSEL.out, mdF_length]; exact Nat.le_refl _)
              have hT2 := hT.out
              rw [hst] at hT2
              have hm := modsAt_own hO.out
              rw [hT2] at hm
              obtain ⟨a9, n9, c9, P9, V9, e9, e10, _, _, hc9⟩ := hm
              have hn9 : n9 ≤ 1000000 := by
                have := congrArg List.length hT2
                rw [e10, mdF_length, mdTs_length] at this
                omega
              have hss9 : ∀ m ∈ sel, m.2.length ≤ 1000000000 := fun m hm => by have := HSS.out m hm; omega
              have hall9 : ∀ m ∈ roots ++ sel.flatMap (reqsAt (enF n P V R K B)), m.2.length ≤ 1000000000 := fun m hm => by
                rcases List.mem_append.1 hm with h | h
                · have := HRS.out m h; omega
                · obtain ⟨s, _, hr⟩ := List.mem_flatMap.1 h
                  have := (HSM.out s).2 m hr
                  omega
              have hcf := containsMf_calls 91 #[.pointer (some ⟨w.heap.size, 0, none⟩)] Tryz.enters_closed1 (fun m => !hasB sel m) a9 n9 c9 wr.heap.size P9 V9 wr hn9 (Nat.le_refl _) hc9
                (fun W hW j hj => closed1_calls ks A (.slice a2 n2 c2) sel (P9 j) (V9 j) w.heap.size W (HE.out.below (below_step hBr hW)) (HV.out.below (below_step hBr hW)) (by rw [HSEL.out, mdF_length]; omega) hss9 (by
                  rw [size_eq]
                  exact hall9 ((P9 j).data.toList, (V9 j).data.toList) (by rw [e10]; exact List.mem_of_getElem? (mdF_get n9 P9 V9 j hj))) (Below.cell_some hW z0))
              have hany : (mdF n9 P9 V9).any (fun m => !hasB sel m) = !closB (enF n P V R K B) roots sel := by
                rw [← e10]
                unfold closB underB
                rw [List.not_all_eq_any_not]
              rw [hany] at hcf
              rw [← e9] at hcf
              obtain ⟨D, hD⟩ : ∃ D, D = closB (enF n P V R K B) roots sel := ⟨_, rfl⟩
              rw [← hD] at hcf
              have HD := Lib.hid hD
              replace hcf := Lib.hid hcf
              clear hc9 hany hD hall9 hss9 e10 e9 hT2 hT hst hlt
              go_wp2_with fail
              refine hcf.out.mono ?_
              rintro e w9 ⟨rfl, hb9⟩
              go_wp2_with fail
              go_ret2
              rw [HCS.out, HCR.out, ← HD.out]
              exact ⟨⟨_, by cases D <;> rfl, (HF.out.below hbr).below hb9⟩, below_step hBr hb9⟩
        · have HF := Lib.hid hv
          have HC := Lib.hid (closR_bad (l := enF n P V R K B) (roots := roots) (sel := sel) (by rw [HCS.out]; exact h0))
          clear hv h0
          go_wp2_with fail
          go_ret2
          rw [HCS.out, HC.out]
          exact ⟨⟨_, rfl, HF.out⟩, hB2⟩
  · have HF := Lib.hid hv
    have hce := closErr_idx (roots := roots) (sel := sel) h0
    have HC := Lib.hid (And.intro hce (closR_bad (l := enF n P V R K B) (roots := roots) (sel := sel) (by rw [hce]; exact h0)))
    clear hv h0 hce
    go_wp2_with fail
    go_ret2
    rw [HC.out.1, HC.out.2]
    exact ⟨⟨_, rfl, HF.out⟩, hB⟩
end Go.Proofs.Pw

/- The references' has, IsUnder; rises of the statements. Conditions: texts of at most 1000000000 bytes, lists of at most 1000000. -/
namespace Go.Proofs.Pw
open Go.RowKit
open Go.Lib hiding intOf

set_option maxHeartbeats 1000000 in
set_option maxRecDepth 100000 in
theorem refHas_calls (v : Value) (l : List Md) (p q : ByteArray) (w : World) (h : ModsAt w v l) (hs : ∀ m ∈ l, m.2.length ≤ 1000000000) (hq : q.size ≤ 1000000000) :
    Calls Tryz.prog 93 #[v, .agg #[.string p, .string q]] w fun e w' => e = .returned (.bool (hasB l (p.data.toList, q.data.toList))) ∧ Below w.heap.size w w' := by
  have hB := below_alloc w (.cells #[.string p, .string q] 38)
  have hz := box2_alloc w (.string p) (.string q) 38
  have hf := findPath_calls v l p (w.alloc (.cells #[.string p, .string q] 38)) (h.below hB)
  have hno := hasB_no (sel := l) (m := (p.data.toList, q.data.toList))
  have hat := fun k => hasB_at (sel := l) (m := (p.data.toList, q.data.toList)) (k := k)
  unfold hasP at hno hat
  simp only at hno hat
  have hsp := fun k => @findI_spec _ (fun m : Md => decide (m.1 = p.data.toList)) l k
  generalize findI (fun m : Md => decide (m.1 = p.data.toList)) l = x at hf hno hat hsp
  obtain ⟨a, n, cap, P, V, rfl, rfl, hnc, hcap, hc⟩ := h
  obtain ⟨y0, y1, _⟩ := hz
  replace hf := Lib.hid hf
  by_cases hx : x < 0
  · have HR := Lib.hid (hno hx)
    clear hno hat hsp hc hs
    go_enter Tryz.func93, Tryz.ntmps93
    go_wp2_with fail
    refine hf.out.mono ?_
    rintro e w' ⟨rfl, rfl⟩
    go_wp2_with fail
    go_ret
    rw [HR.out]
    exact ⟨rfl, hB⟩
  · obtain ⟨k, rfl⟩ : ∃ k : Nat, x = k := ⟨x.toNat, by omega⟩
    obtain ⟨y, hy, hp⟩ := hsp k rfl
    have hkn : k < n := by have := (List.getElem?_eq_some_iff.1 hy).1; rwa [mdF_length] at this
    have hkz : (k : Int) < (n : Int) := by omega
    have hk0 : ¬ ((k : Int) < 0) := by omega
    obtain ⟨b1, o1, rfl, c0, c1⟩ := hc k hkn
    have hR := hat k rfl
    rw [mdAt_mdF hkn] at hR
    have hVs := hs _ (List.mem_of_getElem? (mdF_get n P V k hkn))
    have hless := fun W => isLess_calls (V k) q W (by rw [size_eq]; exact hVs) hq
    have HR := Lib.hid hR
    generalize verLess (V k).data.toList q.data.toList = D at hless HR
    replace hless := Lib.hid hless
    have d1 := Below.cell_some hB c1
    clear hno hat hsp hc hs hR hVs hy hp c0 c1 hx
    go_enter Tryz.func93, Tryz.ntmps93
    go_wp2_with fail
    refine hf.out.mono ?_
    rintro e w' ⟨rfl, rfl⟩
    go_wp2_with fail
    generalize w.alloc (.cells #[.string p, .string q] 38) = w1 at *
    have kqd1 := fun d os => cell_patch (d := d) (os := os) d1
    have kqy1 := fun d os => cell_patch (d := d) (os := os) y1
    refine wp_region_quiet_patch (by kernel_rfl) (by kernel_rfl) ?_
    repeat (go_big_quiet_step ((go_at_call 23; exact Calls.patch_of (hless.out _))))
    refine wpQuiet_nil ?_
    intro _ hw'
    obtain ⟨⟨dq, osq⟩, hw''⟩ := hw'
    subst hw''
    clear kqd1 kqy1
    have hb := below_patch w1 dq osq
    replace hB := below_step hB hb
    clear hb
    generalize patch w1 dq osq = w2 at hB ⊢
    go_wp2_with fail
    go_ret
    rw [HR.out]
    exact ⟨rfl, hB⟩

set_option maxHeartbeats 1000000 in
set_option maxRecDepth 100000 in
theorem isUnder_calls (va vb : Value) (la lb : List Md) (w : World) (ha : ModsAt w va la) (hb0 : ModsAt w vb lb) (hsa : ∀ m ∈ la, m.2.length ≤ 1000000000) (hsb : ∀ m ∈ lb, m.2.length ≤ 1000000000) :
    Calls Tryz.prog 47 #[va, vb] w fun e w' => e = .returned (.bool (underB la lb)) ∧ Below w.heap.size w w' := by
  obtain ⟨a2, n2, cap2, _, _, rfl, _⟩ := id hb0
  obtain ⟨a, n, cap, P, V, rfl, rfl, hnc, hcap, hc⟩ := ha
  have HSA := Lib.hid hsa
  have HSB := Lib.hid hsb
  have HB := Lib.hid hb0
  replace hc := Lib.hid hc
  clear hsa hsb hb0
  go_enter Tryz.func47, Tryz.ntmps47
  go_wp2_with fail
  go_loopw [5] (fun i wr => ∃ k : Nat, k ≤ n ∧ i = .int .i64 k ∧ Below w.heap.size w wr ∧ Hid (∀ j, j < k → hasB lb ((P j).data.toList, (V j).data.toList) = true)) (fun i _ => n - (intOf i).toNat)
  case atStart => exact ⟨0, Nat.zero_le _, rfl, Below.refl _ _, Lib.hid (fun j hj => absurd hj (Nat.not_lt_zero _))⟩
  case round =>
    obtain ⟨k, hk, rfl, hB, HA⟩ := hrel
    by_cases hlt : k < n
    · have hkn : (k : Int) < (n : Int) := by omega
      obtain ⟨b1, o1, ea, c0, c1⟩ := hc.out k hlt
      replace c0 := Below.cell_some hB c0
      replace c1 := Below.cell_some hB c1
      have hm := List.mem_of_getElem? (mdF_get n P V k hlt)
      have hh := refHas_calls (.slice a2 n2 cap2) lb (P k) (V k) wr (HB.out.below hB) HSB.out (by rw [size_eq]; exact HSA.out _ hm)
      obtain ⟨D, hD⟩ : ∃ D, D = hasB lb ((P k).data.toList, (V k).data.toList) := ⟨_, rfl⟩
      rw [← hD] at hh
      have HM := Lib.hid hm
      have HD := Lib.hid hD
      subst ea
      replace hh := Lib.hid hh
      clear hm hD
      cases D with
      | false =>
        have HF : Hid (underB (mdF n P V) lb = false) := Lib.hid (by
          cases h2 : underB (mdF n P V) lb
          · rfl
          · rw [under_mem] at h2
            have := h2 _ HM.out
            rw [← HD.out] at this
            cases this)
        go_wp2_with fail
        refine hh.out.mono ?_
        rintro e w2 ⟨rfl, hb⟩
        go_wp2_with fail
        go_ret
        rw [HF.out]
        exact ⟨rfl, below_step hB hb⟩
      | true =>
        have HN : Hid (∀ j, j < k + 1 → hasB lb ((P j).data.toList, (V j).data.toList) = true) := Lib.hid (fun j hj => by
          by_cases e : j = k
          · subst e; exact HD.out.symm
          · exact HA.out j (by omega))
        go_wp2_with fail
        refine hh.out.mono ?_
        rintro e w2 ⟨rfl, hb⟩
        go_wp2_with fail
        go_roundw
        case rel => exact ⟨k + 1, by omega, by go_num, below_step hB hb, HN⟩
        case measure => simp [intOf]; omega
    · obtain rfl : n = k := by omega
      have HF : Hid (underB (mdF n P V) lb = true) := Lib.hid (by
        rw [under_mem]
        intro m hm
        obtain ⟨j, hj⟩ := List.getElem?_of_mem hm
        have hl : j < n := by have := (List.getElem?_eq_some_iff.1 hj).1; rwa [mdF_length] at this
        rw [mdF_get n P V j hl] at hj
        cases hj
        exact HA.out j hl)
      go_wp2_with fail
      go_ret
      rw [HF.out]
      exact ⟨rfl, hB⟩
end Go.Proofs.Pw

/- rises of the statements. Conditions: texts of at most 1000000 bytes, lists of at most 1000000. -/
namespace Go.Proofs.Pw
open Go.RowKit
open Go.Lib hiding intOf

theorem risesB_of {n : Nat} {P V : Nat → ByteArray} {R : Nat → List Md} {K : Nat → List Str} {B : Nat → Bool} (h : ∀ i k, i < k → k < n → (P i).data.toList = (P k).data.toList → underB (R i) (R k) = true) : risesB (enF n P V R K B) = true := by
  unfold risesB
  rw [List.all_eq_true]
  intro i hi
  rw [List.all_eq_true]
  intro k hk
  rw [List.mem_range, enF_length] at hi hk
  rw [enAt_enF hi, enAt_enF hk]
  by_cases h1 : i < k
  · by_cases h2 : (P i).data.toList = (P k).data.toList
    · rw [h i k h1 hk h2, Bool.or_true]
    · rw [show decide ((P i).data.toList = (P k).data.toList) = false from decide_eq_false h2]; simp
  · rw [decide_eq_false h1]; simp
theorem risesB_not {n : Nat} {P V : Nat → ByteArray} {R : Nat → List Md} {K : Nat → List Str} {B : Nat → Bool} {i k : Nat} (h1 : i < k) (h2 : k < n) (h3 : (P i).data.toList = (P k).data.toList) (h4 : underB (R i) (R k) = false) : risesB (enF n P V R K B) = false := by
  cases h : risesB (enF n P V R K B)
  · rfl
  · have := risesB_at h h1 (by rw [enF_length]; exact h2) (by rw [enAt_enF (by omega), enAt_enF h2]; exact h3)
    rw [enAt_enF (by omega), enAt_enF h2] at this
    rw [show underB (R i) (R k) = true from this] at h4
    cases h4

end Go.Proofs.Pw

/- MvsLeast: its walk. -/
namespace Go.Proofs.Pw
open Go.RowKit
open Go.Lib hiding intOf

theorem longI_is (l : List Md) (most : Nat) : longI l most = if longMods l most then 1 else 0 := rfl
/-- what is shared by the walks -/
structure MlArgs (ks : List Nat) (A : Nat → Addr) (la : Option Addr) (ln lc : Nat) (P V : Nat → ByteArray) (R : Nat → List Md) (K : Nat → List Str) (Bk : Nat → Bool) (Rv Kv : Nat → Value) (av bv cv : Value) (Am Bm Cm : List Md) (w : World) : Prop where
  idx : IdxKs ks
  env : EnvP ks A w
  l : EntsIn w la ln lc P V R K Bk Rv Kv
  a : ModsAt w av Am
  b : ModsAt w bv Bm
  c : ModsAt w cv Cm


end Go.Proofs.Pw

/- FileTells: the numbers of errors are small. -/
namespace Go.Proofs.Pw
open Go.RowKit
open Go.Lib hiding intOf

theorem firstE_le {g : Nat → Nat} (h : ∀ j, g j ≤ 10) : ∀ n, (firstE g n).1 ≤ 10
  | 0 => Nat.zero_le _
  | n + 1 => by
    rw [firstE]
    split
    · exact firstE_le h n
    · split
      · exact h n
      · exact Nat.zero_le _
theorem orE_le {a b : Nat × Int} (ha : a.1 ≤ 10) (hb : b.1 ≤ 10) : (orE a b).1 ≤ 10 := by
  unfold orE
  split
  · exact ha
  · exact hb
theorem mdErr_le (m : Md) : mdErr m ≤ 4 := modErr_le _ _
theorem fileErr_le (f : Fl) : (fileErr f).1 ≤ 10 := by
  unfold fileErr
  split
  · exact Nat.le_trans (pathErr_le _) (by decide)
  · split
    · exact by decide
    · refine orE_le (firstE_le (fun j => ?_) _) (orE_le (firstE_le (fun j => ?_) _) (firstE_le (fun j => ?_) _))
      · unfold reqE
        have := mdErr_le (mdAt f.reqs j)
        split
        · omega
        · split
          · decide
          · split <;> decide
      · unfold excE
        have := mdErr_le (mdAt f.excl j)
        split
        · omega
        · split <;> decide
      · unfold claE
        split <;> decide
theorem fileRead_le (s : Str) : (fileRead s).2.1 ≤ 10 := by
  unfold fileRead
  split
  · exact by decide
  · split
    · exact (by decide : 1 ≤ 10)
    · split
      · exact fileErr_le _
      · exact Nat.zero_le _
theorem fileSet_le (f : Fl) (m : Md) : (fileSet f m).2 ≤ 10 := by
  unfold fileSet
  split
  · exact fileErr_le _
  · split
    · exact fileErr_le _
    · exact Nat.zero_le _
theorem fileDrop_le (f : Fl) (p : Str) : (fileDrop f p).2 ≤ 10 := by
  unfold fileDrop
  split
  · exact fileErr_le _
  · split
    · exact by decide
    · exact Nat.zero_le _
end Go.Proofs.Pw

/- The numbers of errors of an index, of roots, of selections are small. No program in sight. -/
namespace Go.Proofs.Pw
open Go.Lib hiding intOf

theorem reqE_le (p : Str) (l : List Md) (j : Nat) : reqE p l j ≤ 10 := by
  unfold reqE
  split
  · exact Nat.le_trans (mdErr_le _) (by decide)
  · split
    · decide
    · split <;> decide
theorem entErr_le (l : List En) (i : Nat) : entErr l i ≤ 10 := by
  unfold entErr
  split
  · exact Nat.le_trans (mdErr_le _) (by decide)
  · split
    · decide
    · split
      · unfold reqsErr
        split
        · decide
        · exact firstE_le (fun j => reqE_le _ _ j) _
      · unfold packsErr
        split
        · decide
        · split
          · refine firstE_le (fun j => ?_) _
            unfold packE
            split <;> decide
          · decide
theorem idxErr_le (l : List En) : (idxErr l).1 ≤ 10 := by
  unfold idxErr
  split
  · exact (by decide : 7 ≤ 10)
  · refine orE_le (firstE_le (fun j => entErr_le l j) _) (firstE_le (fun j => ?_) _)
    unfold lostE
    split <;> decide
theorem rootsErr_le (l : List En) (roots : List Md) : (rootsErr l roots).1 ≤ 10 := by
  unfold rootsErr
  refine firstE_le (fun j => ?_) _
  unfold rootE
  split <;> decide
theorem startErr_le (l : List En) (roots : List Md) : (startErr l roots).1 ≤ 10 := orE_le (idxErr_le l) (rootsErr_le l roots)
end Go.Proofs.Pw

/- errors.As and errors.Is at this program's errors: sentinels of errors.New's make, and *api.Fault round one. (Turned out of the guide's worked texts ToyasAs and SentryIs: their lines at this program's numbers; as_miss, the Fault's road through Unwrap are new.) Conditions: the sentinels' rows as errors.New lays them; errors.errorType holds its handle. -/
namespace Go.Proofs.Pw
open Go.RowKit Go.Extern.Stop Go.Stop Go.Extern

theorem Tryz.is_typeOf (v : Value) (w : World) : (Extern.ReflectliteType.typeOf #[.iface 271 v]).run Tryz.prog w = .ok (.iface 204 (.agg #[.pointer (some ⟨19, 271, none⟩)])) w := by kernel_rfl
theorem Tryz.is_comparable (w : World) : (Extern.ReflectliteType.method (fun t => do Rtype.noPackHeld "Comparable" t; pure (.bool (← typeInfo t).comparable)) #[.agg #[.pointer (some ⟨19, 271, none⟩)]]).run Tryz.prog w = .ok (.bool true) w := by kernel_rfl
theorem Tryz.is_callComparable (w : World) : (callFunc 297 #[.agg #[.pointer (some ⟨19, 271, none⟩)]]).run Tryz.prog w = .ok (.value (.bool true)) w := by
  have h := @run_callFunc_extern Tryz.prog 297 _ (Extern.ReflectliteType.method fun t => do Rtype.noPackHeld "Comparable" t; pure (.bool (← typeInfo t).comparable)) Tryz.func297 (by kernel_rfl) (by kernel_rfl) (by kernel_rfl) (by kernel_rfl)
  rw [h, Tryz.is_comparable]
  rfl
theorem Tryz.is_methodComparable (v : Value) (w : World) : (Go.method 409 204 v "Comparable").run Tryz.prog w = .ok (297, v) w := by kernel_rfl
theorem Tryz.is_comp : (Tryz.prog.info? 271).map (·.comparable) = some true := by kernel_rfl
theorem Tryz.is_size : (Tryz.prog.info? 273).map (·.size) = some 1 := by kernel_rfl
theorem Tryz.no_isE (v : Value) (xT : TypeId) (w : World) : (Instr.typeAssert (.iface 271 v) xT 215 true).run Tryz.prog w = .ok (.tuple #[.nilIface, .bool false]) w := run_typeAssert_lacksB Tryz.underlying215 (by kernel_rfl) (by kernel_rfl) v xT w
theorem Tryz.no_asE (v : Value) (xT : TypeId) (w : World) : (Instr.typeAssert (.iface 271 v) xT 208 true).run Tryz.prog w = .ok (.tuple #[.nilIface, .bool false]) w := run_typeAssert_lacksB Tryz.underlying208 (by kernel_rfl) (by kernel_rfl) v xT w
theorem Tryz.no_unwrapE (v : Value) (xT : TypeId) (w : World) : (Instr.typeAssert (.iface 271 v) xT 211 true).run Tryz.prog w = .ok (.tuple #[.nilIface, .bool false]) w := run_typeAssert_lacksB Tryz.underlying211 (by kernel_rfl) (by kernel_rfl) v xT w
theorem Tryz.no_unwrapsE (v : Value) (xT : TypeId) (w : World) : (Instr.typeAssert (.iface 271 v) xT 213 true).run Tryz.prog w = .ok (.tuple #[.nilIface, .bool false]) w := run_typeAssert_lacksB Tryz.underlying213 (by kernel_rfl) (by kernel_rfl) v xT w
theorem Tryz.no_isF (v : Value) (xT : TypeId) (w : World) : (Instr.typeAssert (.iface 102 v) xT 215 true).run Tryz.prog w = .ok (.tuple #[.nilIface, .bool false]) w := run_typeAssert_lacksB Tryz.underlying215 (by kernel_rfl) (by kernel_rfl) v xT w
theorem Tryz.has_unwrapF (v : Value) (xT : TypeId) (w : World) : (Instr.typeAssert (.iface 102 v) xT 211 true).run Tryz.prog w = .ok (.tuple #[.iface 102 v, .bool true]) w := run_typeAssert_hasB Tryz.underlying211 (by kernel_rfl) v xT w
theorem Tryz.method_unwrapF (v : Value) (w : World) : (Go.method 409 102 v "Unwrap").run Tryz.prog w = .ok (291, v) w := by kernel_rfl

/-- errors.Is(x, x), x a pointer to an errors.errorString. -/
theorem is_same (a : Addr) (w : World) :
    Calls Tryz.prog 117 #[.iface 271 (.pointer (some a)), .iface 271 (.pointer (some a))] w fun e w' => e = .returned (.bool true) ∧ w = w' := by
  obtain ⟨i, hi, hcmp⟩ := Option.map_eq_some_iff.1 Tryz.is_comp
  obtain ⟨j, hj, hjs⟩ := Option.map_eq_some_iff.1 Tryz.is_size
  have h8 := @run_callFunc_extern Tryz.prog 166 _ Extern.ReflectliteType.typeOf Tryz.func166 (by kernel_rfl) (by kernel_rfl) (by kernel_rfl) (by kernel_rfl)
  have h32 := Tryz.is_callComparable
  have tT := Tryz.is_typeOf
  have mR := Tryz.is_methodComparable
  have heq := run_eql_iface_ptr_same (P := Tryz.prog) w a Tryz.underlying29 Tryz.underlying271 hi hcmp hj
  go_enter Tryz.func117, Tryz.ntmps117
  go_wp2
  refine wp_loop_rounds 1 ?_
  rw [rounds_succ]
  go_wp2
  go_ret
  exact ⟨rfl, rfl⟩

/-- errors.Is(x, y), two different pointers to errors.errorString. -/
theorem is_other (a b : Addr) (ca cb : Array Value) (ta tb : TypeId) (w : World) (hne : a ≠ b) (ha : w.heap[a.block]? = some (.cells ca ta (0, 0))) (hb : w.heap[b.block]? = some (.cells cb tb (0, 0))) :
    Calls Tryz.prog 117 #[.iface 271 (.pointer (some a)), .iface 271 (.pointer (some b))] w fun e w' => e = .returned (.bool false) ∧ w = w' := by
  obtain ⟨i, hi, hcmp⟩ := Option.map_eq_some_iff.1 Tryz.is_comp
  obtain ⟨j, hj, hjs⟩ := Option.map_eq_some_iff.1 Tryz.is_size
  have h8 := @run_callFunc_extern Tryz.prog 166 _ Extern.ReflectliteType.typeOf Tryz.func166 (by kernel_rfl) (by kernel_rfl) (by kernel_rfl) (by kernel_rfl)
  have h32 := Tryz.is_callComparable
  have tT := Tryz.is_typeOf
  have mR := Tryz.is_methodComparable
  have nE := Tryz.no_isE
  have uE := Tryz.no_unwrapE
  have vE := Tryz.no_unwrapsE
  have heq := run_eql_iface_ptr_other (P := Tryz.prog) w Tryz.underlying29 Tryz.underlying271 hi hcmp hj (by rw [hjs]; decide) hne ha hb
  go_enter Tryz.func117, Tryz.ntmps117
  go_wp2
  refine wp_loop_rounds 1 ?_
  rw [rounds_succ]
  go_wp2
  go_ret
  exact ⟨rfl, rfl⟩

/-- errors.Is(f, x), f a *api.Fault round x itself. -/
theorem is_fault_same (pb : Nat) (b : Addr) (w : World) (h1 : w.cell? ⟨pb, 1, none⟩ = some (.iface 271 (.pointer (some b)))) :
    Calls Tryz.prog 117 #[.iface 102 (.pointer (some ⟨pb, 0, none⟩)), .iface 271 (.pointer (some b))] w fun e w' => e = .returned (.bool true) ∧ w = w' := by
  obtain ⟨i, hi, hcmp⟩ := Option.map_eq_some_iff.1 Tryz.is_comp
  obtain ⟨j, hj, hjs⟩ := Option.map_eq_some_iff.1 Tryz.is_size
  have h8 := @run_callFunc_extern Tryz.prog 166 _ Extern.ReflectliteType.typeOf Tryz.func166 (by kernel_rfl) (by kernel_rfl) (by kernel_rfl) (by kernel_rfl)
  have h32 := Tryz.is_callComparable
  have tT := Tryz.is_typeOf
  have mR := Tryz.is_methodComparable
  have nF := Tryz.no_isF
  have uF := Tryz.has_unwrapF
  have mU := Tryz.method_unwrapF
  have heq := run_eql_iface_ptr_same (P := Tryz.prog) w b Tryz.underlying29 Tryz.underlying271 hi hcmp hj
  have hty := run_eql_iface_types (P := Tryz.prog) 102 271 (.pointer (some ⟨pb, 0, none⟩)) (.pointer (some b)) Tryz.underlying29 (by decide) w
  go_enter Tryz.func117, Tryz.ntmps117
  go_wp2
  refine wp_loop_rounds 2 ?_
  rw [rounds_succ]
  go_wp2
  rw [rounds_succ]
  go_wp2
  go_ret
  exact ⟨rfl, rfl⟩

/-- errors.Is(f, x), f a *api.Fault round another sentinel. -/
theorem is_fault_other (pb : Nat) (b a : Addr) (ca cb : Array Value) (ta tb : TypeId) (w : World) (h1 : w.cell? ⟨pb, 1, none⟩ = some (.iface 271 (.pointer (some a)))) (hne : a ≠ b) (ha : w.heap[a.block]? = some (.cells ca ta (0, 0))) (hb : w.heap[b.block]? = some (.cells cb tb (0, 0))) :
    Calls Tryz.prog 117 #[.iface 102 (.pointer (some ⟨pb, 0, none⟩)), .iface 271 (.pointer (some b))] w fun e w' => e = .returned (.bool false) ∧ w = w' := by
  obtain ⟨i, hi, hcmp⟩ := Option.map_eq_some_iff.1 Tryz.is_comp
  obtain ⟨j, hj, hjs⟩ := Option.map_eq_some_iff.1 Tryz.is_size
  have h8 := @run_callFunc_extern Tryz.prog 166 _ Extern.ReflectliteType.typeOf Tryz.func166 (by kernel_rfl) (by kernel_rfl) (by kernel_rfl) (by kernel_rfl)
  have h32 := Tryz.is_callComparable
  have tT := Tryz.is_typeOf
  have mR := Tryz.is_methodComparable
  have nE := Tryz.no_isE
  have uE := Tryz.no_unwrapE
  have vE := Tryz.no_unwrapsE
  have nF := Tryz.no_isF
  have uF := Tryz.has_unwrapF
  have mU := Tryz.method_unwrapF
  have heq := run_eql_iface_ptr_other (P := Tryz.prog) w Tryz.underlying29 Tryz.underlying271 hi hcmp hj (by rw [hjs]; decide) hne ha hb
  have hty := run_eql_iface_types (P := Tryz.prog) 102 271 (.pointer (some ⟨pb, 0, none⟩)) (.pointer (some b)) Tryz.underlying29 (by decide) w
  go_enter Tryz.func117, Tryz.ntmps117
  go_wp2
  refine wp_loop_rounds 2 ?_
  rw [rounds_succ]
  go_wp2
  rw [rounds_succ]
  go_wp2
  go_ret
  exact ⟨rfl, rfl⟩
end Go.Proofs.Pw

/- errors.As and errors.Is at this program's errors: sentinels of errors.New's make, and *api.Fault round one. (Turned out of the guide's worked texts ToyasAs and SentryIs: their lines at this program's numbers; as_miss, the Fault's road through Unwrap are new.) Conditions: the sentinels' rows as errors.New lays them; errors.errorType holds its handle. -/
namespace Go.Proofs.Pw
open Go.RowKit Go.Extern.Stop Go.Stop Go.Extern

theorem as_nil (t : Value) (w : World) :
    Calls Tryz.prog 116 #[.nilIface, t] w fun e w' => e = .returned (.bool false) ∧ w' = w := by
  go_enter Tryz.func116, Tryz.ntmps116
  go_wp2
  go_ret
  exact ⟨rfl, rfl⟩

theorem Tryz.as_valueOf27 (t : Addr) (w : World) : (ReflectliteValue.unpack (.iface 131 (.pointer (some t)))).run Tryz.prog w
    = .ok (.agg #[.pointer (some ⟨19, 131, none⟩), .pointer (some ⟨w.heap.size, 0, none⟩), .int .u64 150]) (w.alloc (.cells #[.pointer (some t)] 131)) := by kernel_rfl
theorem Tryz.as_type27 (a : Addr) (w : World) : (ReflectliteValue.methodAny (ReflectliteValue.valueError "reflectlite.Value.Type" 0) (fun t _ _ _ => ReflectliteType.toType t) #[.agg #[.pointer (some ⟨19, 131, none⟩), .pointer (some a), .int .u64 150]]).run Tryz.prog w
    = .ok (.iface 204 (.agg #[.pointer (some ⟨19, 131, none⟩)])) w := by kernel_rfl
theorem Tryz.as_methodKind (h : Value) (w : World) : (Go.method 409 204 (.agg #[h]) "Kind").run Tryz.prog w = .ok (287, h) w := by kernel_rfl
theorem Tryz.as_kind27 (w : World) : ((ReflectliteType.abiMethod fun t => (fun a : Nat => Value.int IntKind.u8 (a : Int)) <$> Rtype.kind t) #[.pointer (some ⟨19, 131, none⟩)]).run Tryz.prog w = .ok (.int .u8 22) w := by kernel_rfl
theorem Tryz.as_kind25 (w : World) : ((ReflectliteType.abiMethod fun t => (fun a : Nat => Value.int IntKind.u8 (a : Int)) <$> Rtype.kind t) #[.pointer (some ⟨19, 102, none⟩)]).run Tryz.prog w = .ok (.int .u8 22) w := by kernel_rfl

theorem rlm (z : Sem Value) (f : TypeId → Addr → Nat → Nat → Sem Value) (v : Value) :
    ReflectliteValue.method z f #[v] = (do match ← ReflectliteValue.parts v with | none => z | some (t, a, fl) => f t a fl (fl % 32)) := rfl
theorem Tryz.as_parts27 (a : Addr) (w : World) : (ReflectliteValue.parts (.agg #[.pointer (some ⟨19, 131, none⟩), .pointer (some a), .int .u64 150])).run Tryz.prog w = .ok (some (131, a, 150)) w := by kernel_rfl
/-- (Value).IsNil at the Value of a **p.E that is not nil. -/
theorem Tryz.as_isNil27 (a p : Addr) (W : World) (ha : W.cell? a = some (.pointer (some p))) :
    (ReflectliteValue.method (ReflectliteValue.valueError "reflectlite.Value.IsNil" 0) ReflectliteValue.isNil #[.agg #[.pointer (some ⟨19, 131, none⟩), .pointer (some a), .int .u64 150]]).run Tryz.prog W = .ok (.bool false) W := by
  rw [rlm]
  simp only [Sem.run_bind, Tryz.as_parts27, Result.andThen]
  simp [ReflectliteValue.isNil, loadVar, isAgg, underlying, Tryz.underlying131, ha, Result.andThen]

theorem Tryz.as_methodElem (h : Value) (w : World) : (Go.method 409 204 (.agg #[h]) "Elem").run Tryz.prog w = .ok (298, .agg #[h]) w := by kernel_rfl
theorem Tryz.as_methodImplements (h : Value) (w : World) : (Go.method 409 204 (.agg #[h]) "Implements").run Tryz.prog w = .ok (299, .agg #[h]) w := by kernel_rfl
theorem Tryz.as_methodAssignableTo (h : Value) (w : World) : (Go.method 409 204 (.agg #[h]) "AssignableTo").run Tryz.prog w = .ok (296, .agg #[h]) w := by kernel_rfl
theorem Tryz.as_elem27 (w : World) : (ReflectliteType.method ReflectliteType.elem #[.agg #[.pointer (some ⟨19, 131, none⟩)]]).run Tryz.prog w = .ok (.iface 204 (.agg #[.pointer (some ⟨19, 102, none⟩)])) w := by kernel_rfl
theorem Tryz.as_implements25 (w : World) : (ReflectliteType.relation "Implements" ReflectliteType.implements_ #[.agg #[.pointer (some ⟨19, 102, none⟩)], .iface 204 (.agg #[.pointer (some ⟨19, 29, none⟩)])]).run Tryz.prog w = .ok (.bool true) w := by kernel_rfl
theorem Tryz.as_typeOf25 (v : Value) (w : World) : (ReflectliteType.typeOf #[.iface 102 v]).run Tryz.prog w = .ok (.iface 204 (.agg #[.pointer (some ⟨19, 102, none⟩)])) w := by kernel_rfl
theorem Tryz.as_assignable25 (w : World) : (ReflectliteType.relation "AssignableTo" ReflectliteType.assignableTo #[.agg #[.pointer (some ⟨19, 102, none⟩)], .iface 204 (.agg #[.pointer (some ⟨19, 102, none⟩)])]).run Tryz.prog w = .ok (.bool true) w := by kernel_rfl
theorem Tryz.as_valueOf25 (e : Addr) (w : World) : (ReflectliteValue.unpack (.iface 102 (.pointer (some e)))).run Tryz.prog w
    = .ok (.agg #[.pointer (some ⟨19, 102, none⟩), .pointer (some ⟨w.heap.size, 0, none⟩), .int .u64 150]) (w.alloc (.cells #[.pointer (some e)] 102)) := by kernel_rfl

theorem Tryz.as_elemOf27 (w : World) : (Rtype.elem? 131).run Tryz.prog w = .ok (some 102) w := by kernel_rfl
theorem Tryz.as_mk25 (p : Addr) (w : World) : (ReflectliteValue.mk 102 p ReflectliteValue.flagAddr).run Tryz.prog w = .ok (.agg #[.pointer (some ⟨19, 102, none⟩), .pointer (some p), .int .u64 406]) w := by kernel_rfl
/-- (Value).Elem at the Value of a **p.E that is not nil: the Value of the *p.E variable that it points to, addressable. -/
theorem Tryz.as_elemV27 (a p : Addr) (W : World) (ha : W.cell? a = some (.pointer (some p))) :
    (ReflectliteValue.method (ReflectliteValue.valueError "reflectlite.Value.Elem" 0) ReflectliteValue.elem #[.agg #[.pointer (some ⟨19, 131, none⟩), .pointer (some a), .int .u64 150]]).run Tryz.prog W
      = .ok (.agg #[.pointer (some ⟨19, 102, none⟩), .pointer (some p), .int .u64 406]) W := by
  rw [rlm]
  simp only [Sem.run_bind, Tryz.as_parts27, Result.andThen]
  simp [ReflectliteValue.elem, loadVar, isAgg, underlying, Tryz.underlying131, ha, Result.andThen, Tryz.as_elemOf27, Tryz.as_mk25]
theorem rls (v x : Value) : ReflectliteValue.set #[v, x] = (do
    let (some (dst, a, fl), some (src, b, _)) := (← ReflectliteValue.parts v, ← ReflectliteValue.parts x)
      | unsupported (.noEntry "extern/(internal/reflectlite.Value).Set.zeroValue")
    if fl / ReflectliteValue.flagAddr % 2 == 0 then unsupported (.noEntry "extern/(internal/reflectlite.Value).Set.unaddressable")
    let val ← loadVar src b
    if ← Rtype.directlyAssignable dst src then storeVar dst a val
    else if ← Rtype.implements dst src then
      if (← Rtype.kind src) == 20 then
        match val with
        | .nilIface => unsupported (.noEntry "extern/reflectlite: a nil value of one interface type handed on as a value of another")
        | _ => storeVar dst a val
      else storeVar dst a (.iface src val)
    else panicString ("reflectlite.Set: value of type " ++ (← Rtype.spelt src) ++ " is not assignable to type " ++ (← Rtype.spelt dst))
    pure (.tuple #[])) := rfl
theorem Tryz.as_parts25a (a : Addr) (w : World) : (ReflectliteValue.parts (.agg #[.pointer (some ⟨19, 102, none⟩), .pointer (some a), .int .u64 406])).run Tryz.prog w = .ok (some (102, a, 406)) w := by kernel_rfl
theorem Tryz.as_parts25 (a : Addr) (w : World) : (ReflectliteValue.parts (.agg #[.pointer (some ⟨19, 102, none⟩), .pointer (some a), .int .u64 150])).run Tryz.prog w = .ok (some (102, a, 150)) w := by kernel_rfl
theorem Tryz.as_direct25 (w : World) : (Rtype.directlyAssignable 102 102).run Tryz.prog w = .ok true w := by kernel_rfl
theorem Tryz.as_size25 (w : World) : (sizeOf 102).run Tryz.prog w = .ok 1 w := by kernel_rfl
/-- (Value).Set: the *p.E variable at 'ta' gets what the Value's own variable 'b' holds. -/
theorem Tryz.as_set25 (ta b e : Addr) (old : Value) (W : World) (hb : W.cell? b = some (.pointer (some e))) (ht : W.cell? ta = some old) (hf : W.frozen? ta = false) :
    (ReflectliteValue.set #[.agg #[.pointer (some ⟨19, 102, none⟩), .pointer (some ta), .int .u64 406], .agg #[.pointer (some ⟨19, 102, none⟩), .pointer (some b), .int .u64 150]]).run Tryz.prog W
      = .ok (.tuple #[]) (W.setCell ta (.pointer (some e))) := by
  rw [rls]
  simp only [Sem.run_bind, Tryz.as_parts25a, Tryz.as_parts25, Result.andThen]
  simp [ReflectliteValue.flagAddr, loadVar, isAgg, underlying, Tryz.underlying102, hb, Result.andThen, Tryz.as_direct25, storeVar, Value.cells, storeCells, Addr.add]
  rw [run_store Tryz.prog W ta _ _ (by rfl)]
  simp [ht, hf]

set_option maxHeartbeats 4000000 in
theorem as_hit (e t : Addr) (old : Value) (w : World) (hg : w.cell? ⟨10, 0, none⟩ = some (.iface 204 (.agg #[.pointer (some ⟨19, 29, none⟩)]))) (ht0 : w.cell? t = some old) (hf0 : w.frozen? t = false) :
    Calls Tryz.prog 116 #[.iface 102 (.pointer (some e)), .iface 131 (.pointer (some t))] w fun ev w' => ev = .returned (.bool true) ∧ w' = ((((w.alloc (.cells #[.pointer (some t)] 131)).alloc (.cells #[.pointer (some ⟨19, 131, none⟩), .pointer (some ⟨w.heap.size, 0, none⟩), .int .u64 150] 173)).alloc (.cells #[.pointer (some ⟨19, 131, none⟩), .pointer (some ⟨w.heap.size, 0, none⟩), .int .u64 150] 173)).alloc (.cells #[.pointer (some e)] 102)).setCell t (.pointer (some e)) := by
  have h6 := @run_callFunc_extern Tryz.prog 162 _ (fun args => ReflectliteValue.unpack (args.getD 0 (.tuple #[]))) Tryz.func162 (by kernel_rfl) (by kernel_rfl) (by kernel_rfl) (by kernel_rfl)
  have h7 := @run_callFunc_extern Tryz.prog 163 _ (ReflectliteValue.methodAny (ReflectliteValue.valueError "reflectlite.Value.Type" 0) (fun t _ _ _ => ReflectliteType.toType t)) Tryz.func163 (by kernel_rfl) (by kernel_rfl) (by kernel_rfl) (by kernel_rfl)
  have h8 := @run_callFunc_extern Tryz.prog 164 _ (ReflectliteValue.method (ReflectliteValue.valueError "reflectlite.Value.IsNil" 0) ReflectliteValue.isNil) Tryz.func164 (by kernel_rfl) (by kernel_rfl) (by kernel_rfl) (by kernel_rfl)
  have h27 := @run_callFunc_extern Tryz.prog 287 _ (ReflectliteType.abiMethod fun t => do pure (.int .u8 (← Rtype.kind t))) Tryz.func287 (by kernel_rfl) (by kernel_rfl) (by kernel_rfl) (by kernel_rfl)
  have h37 := @run_callFunc_extern Tryz.prog 298 _ (ReflectliteType.method ReflectliteType.elem) Tryz.func298 (by kernel_rfl) (by kernel_rfl) (by kernel_rfl) (by kernel_rfl)
  have h38 := @run_callFunc_extern Tryz.prog 299 _ (ReflectliteType.relation "Implements" ReflectliteType.implements_) Tryz.func299 (by kernel_rfl) (by kernel_rfl) (by kernel_rfl) (by kernel_rfl)
  have h10 := @run_callFunc_extern Tryz.prog 166 _ ReflectliteType.typeOf Tryz.func166 (by kernel_rfl) (by kernel_rfl) (by kernel_rfl) (by kernel_rfl)
  have h35 := @run_callFunc_extern Tryz.prog 296 _ (ReflectliteType.relation "AssignableTo" ReflectliteType.assignableTo) Tryz.func296 (by kernel_rfl) (by kernel_rfl) (by kernel_rfl) (by kernel_rfl)
  have h11 := @run_callFunc_extern Tryz.prog 196 _ (ReflectliteValue.method (ReflectliteValue.valueError "reflectlite.Value.Elem" 0) ReflectliteValue.elem) Tryz.func196 (by kernel_rfl) (by kernel_rfl) (by kernel_rfl) (by kernel_rfl)
  have h12 := @run_callFunc_extern Tryz.prog 197 _ ReflectliteValue.set Tryz.func197 (by kernel_rfl) (by kernel_rfl) (by kernel_rfl) (by kernel_rfl)
  have tO := Tryz.as_typeOf25
  have mA := Tryz.as_methodAssignableTo
  have a25 := Tryz.as_assignable25
  have v25 := Tryz.as_valueOf25
  have f6 := Tryz.as_valueOf27
  have f7 := Tryz.as_type27
  have mK := Tryz.as_methodKind
  have mE := Tryz.as_methodElem
  have mI := Tryz.as_methodImplements
  have k27 := Tryz.as_kind27
  have k25 := Tryz.as_kind25
  have e27 := Tryz.as_elem27
  have i25 := Tryz.as_implements25
  have n8 := Tryz.as_isNil27 ⟨w.heap.size, 0, none⟩ t ((w.alloc (.cells #[.pointer (some t)] 131)).alloc (.cells #[.pointer (some ⟨19, 131, none⟩), .pointer (some ⟨w.heap.size, 0, none⟩), .int .u64 150] 173)) (by simp)
  have hlt : 10 < w.heap.size := World.block_lt_of_cell? w _ hg
  have hg2 : ((w.alloc (.cells #[.pointer (some t)] 131)).alloc (.cells #[.pointer (some ⟨19, 131, none⟩), .pointer (some ⟨w.heap.size, 0, none⟩), .int .u64 150] 173)).cell? ⟨10, 0, none⟩ = some (.iface 204 (.agg #[.pointer (some ⟨19, 29, none⟩)])) := by
    rw [World.cell?_alloc_lt _ _ ⟨10, 0, none⟩ (by simp; omega), World.cell?_alloc_lt _ _ ⟨10, 0, none⟩ hlt]; exact hg
  have htl : t.block < w.heap.size := by
    rcases Nat.lt_or_ge t.block w.heap.size with h | h
    · exact h
    · simp [World.cell?, Array.getElem?_eq_none h] at ht0
  have el := Tryz.as_elemV27 ⟨w.heap.size, 0, none⟩ t (((w.alloc (.cells #[.pointer (some t)] 131)).alloc (.cells #[.pointer (some ⟨19, 131, none⟩), .pointer (some ⟨w.heap.size, 0, none⟩), .int .u64 150] 173)).alloc (.cells #[.pointer (some ⟨19, 131, none⟩), .pointer (some ⟨w.heap.size, 0, none⟩), .int .u64 150] 173)) (by rw [World.cell?_alloc_lt _ _ ⟨w.heap.size, 0, none⟩ (by simp; omega)]; simp)
  have st := Tryz.as_set25 t ⟨w.heap.size + 1 + 1 + 1, 0, none⟩ e old ((((w.alloc (.cells #[.pointer (some t)] 131)).alloc (.cells #[.pointer (some ⟨19, 131, none⟩), .pointer (some ⟨w.heap.size, 0, none⟩), .int .u64 150] 173)).alloc (.cells #[.pointer (some ⟨19, 131, none⟩), .pointer (some ⟨w.heap.size, 0, none⟩), .int .u64 150] 173)).alloc (.cells #[.pointer (some e)] 102))
    (by rw [World.cell?_alloc_at _ _ _ _ (by simp)]; rfl)
    (by rw [World.cell?_alloc_lt _ _ t (by simp; omega), World.cell?_alloc_lt _ _ t (by simp; omega), World.cell?_alloc_lt _ _ t (by simp; omega), World.cell?_alloc_lt _ _ t htl]; exact ht0)
    (by rw [World.frozen?_alloc_old _ _ t (by simp; omega), World.frozen?_alloc_old _ _ t (by simp; omega), World.frozen?_alloc_old _ _ t (by simp; omega), World.frozen?_alloc_old _ _ t (Nat.ne_of_lt htl)]; exact hf0)
  go_enter Tryz.func116, Tryz.ntmps116
  go_wp2
  refine wp_loop_rounds 1 ?_
  rw [rounds_succ]
  go_wp2
  go_ret
  exact ⟨rfl, rfl⟩


theorem Tryz.as_assignableE (w : World) : (ReflectliteType.relation "AssignableTo" ReflectliteType.assignableTo #[.agg #[.pointer (some ⟨19, 271, none⟩)], .iface 204 (.agg #[.pointer (some ⟨19, 102, none⟩)])]).run Tryz.prog w = .ok (.bool false) w := by kernel_rfl
set_option maxHeartbeats 4000000 in
theorem as_miss (e t : Addr) (old : Value) (w : World) (hg : w.cell? ⟨10, 0, none⟩ = some (.iface 204 (.agg #[.pointer (some ⟨19, 29, none⟩)]))) (ht0 : w.cell? t = some old) (_hf0 : w.frozen? t = false) :
    Calls Tryz.prog 116 #[.iface 271 (.pointer (some e)), .iface 131 (.pointer (some t))] w fun ev w' => ev = .returned (.bool false) ∧ Below w.heap.size w w' := by
  have h6 := @run_callFunc_extern Tryz.prog 162 _ (fun args => ReflectliteValue.unpack (args.getD 0 (.tuple #[]))) Tryz.func162 (by kernel_rfl) (by kernel_rfl) (by kernel_rfl) (by kernel_rfl)
  have h7 := @run_callFunc_extern Tryz.prog 163 _ (ReflectliteValue.methodAny (ReflectliteValue.valueError "reflectlite.Value.Type" 0) (fun t _ _ _ => ReflectliteType.toType t)) Tryz.func163 (by kernel_rfl) (by kernel_rfl) (by kernel_rfl) (by kernel_rfl)
  have h8 := @run_callFunc_extern Tryz.prog 164 _ (ReflectliteValue.method (ReflectliteValue.valueError "reflectlite.Value.IsNil" 0) ReflectliteValue.isNil) Tryz.func164 (by kernel_rfl) (by kernel_rfl) (by kernel_rfl) (by kernel_rfl)
  have h27 := @run_callFunc_extern Tryz.prog 287 _ (ReflectliteType.abiMethod fun t => do pure (.int .u8 (← Rtype.kind t))) Tryz.func287 (by kernel_rfl) (by kernel_rfl) (by kernel_rfl) (by kernel_rfl)
  have h37 := @run_callFunc_extern Tryz.prog 298 _ (ReflectliteType.method ReflectliteType.elem) Tryz.func298 (by kernel_rfl) (by kernel_rfl) (by kernel_rfl) (by kernel_rfl)
  have h38 := @run_callFunc_extern Tryz.prog 299 _ (ReflectliteType.relation "Implements" ReflectliteType.implements_) Tryz.func299 (by kernel_rfl) (by kernel_rfl) (by kernel_rfl) (by kernel_rfl)
  have h10 := @run_callFunc_extern Tryz.prog 166 _ ReflectliteType.typeOf Tryz.func166 (by kernel_rfl) (by kernel_rfl) (by kernel_rfl) (by kernel_rfl)
  have h35 := @run_callFunc_extern Tryz.prog 296 _ (ReflectliteType.relation "AssignableTo" ReflectliteType.assignableTo) Tryz.func296 (by kernel_rfl) (by kernel_rfl) (by kernel_rfl) (by kernel_rfl)
  have tO := Tryz.is_typeOf
  have aE := Tryz.as_assignableE
  have nA := Tryz.no_asE
  have uE := Tryz.no_unwrapE
  have vE := Tryz.no_unwrapsE
  have mA := Tryz.as_methodAssignableTo
  have f6 := Tryz.as_valueOf27
  have f7 := Tryz.as_type27
  have mK := Tryz.as_methodKind
  have mE := Tryz.as_methodElem
  have mI := Tryz.as_methodImplements
  have k27 := Tryz.as_kind27
  have k25 := Tryz.as_kind25
  have e27 := Tryz.as_elem27
  have i25 := Tryz.as_implements25
  have n8 := Tryz.as_isNil27 ⟨w.heap.size, 0, none⟩ t ((w.alloc (.cells #[.pointer (some t)] 131)).alloc (.cells #[.pointer (some ⟨19, 131, none⟩), .pointer (some ⟨w.heap.size, 0, none⟩), .int .u64 150] 173)) (by simp)
  have hlt : 10 < w.heap.size := World.block_lt_of_cell? w _ hg
  have hg2 : ((w.alloc (.cells #[.pointer (some t)] 131)).alloc (.cells #[.pointer (some ⟨19, 131, none⟩), .pointer (some ⟨w.heap.size, 0, none⟩), .int .u64 150] 173)).cell? ⟨10, 0, none⟩ = some (.iface 204 (.agg #[.pointer (some ⟨19, 29, none⟩)])) := by
    rw [World.cell?_alloc_lt _ _ ⟨10, 0, none⟩ (by simp; omega), World.cell?_alloc_lt _ _ ⟨10, 0, none⟩ hlt]; exact hg
  have htl : t.block < w.heap.size := by
    rcases Nat.lt_or_ge t.block w.heap.size with h | h
    · exact h
    · simp [World.cell?, Array.getElem?_eq_none h] at ht0
  go_enter Tryz.func116, Tryz.ntmps116
  go_wp2
  refine wp_loop_rounds 1 ?_
  rw [rounds_succ]
  go_wp2
  go_ret
  exact ⟨rfl, (((Below.refl _ _).alloc (Nat.le_refl _) _).alloc (by simp) _).alloc (by simp; omega) _⟩


end Go.Proofs.Pw

/- plain.Code: the number of an error. Conditions: the ten sentinels of package api lie as errors.New lays them, each at its own place; errors.errorType holds its handle. -/
namespace Go.Proofs.Pw
open Go.RowKit

structure EnvC (A : Nat → Addr) (w : World) : Prop where
  errs : EnvE allErrs A w
  handle : w.cell? ⟨10, 0, none⟩ = some (.iface 204 (.agg #[.pointer (some ⟨19, 29, none⟩)]))
theorem EnvC.below {A : Nat → Addr} {w w' : World} (h : EnvC A w) (hb : Below w.heap.size w w') : EnvC A w' := ⟨h.errs.below hb, Below.cell_same hb h.handle⟩

theorem Tryz.isIface_error : Tryz.prog.isIface 29 = true := by kernel_rfl

theorem code_nil (w : World) : Calls Tryz.prog 73 #[.nilIface] w fun e w' => e = .returned (.tuple #[.int .i64 0, .int .i64 (-1)]) ∧ w = w' := by
  go_enter Tryz.func73, Tryz.ntmps73
  go_wp2_with fail
  go_ret2
  exact ⟨rfl, rfl⟩

def ten (A : Nat → Addr) : Array Value := #[errP (A 1), errP (A 2), errP (A 3), errP (A 4), errP (A 5), errP (A 6), errP (A 7), errP (A 8), errP (A 9), errP (A 10)]
where errP (a : Addr) : Value := .iface 271 (.pointer (some a))
theorem ten_get (A : Nat → Addr) : ∀ i, i < 10 → (ten A)[i]? = some (.iface 271 (.pointer (some (A (i + 1)))))
  | 0, _ | 1, _ | 2, _ | 3, _ | 4, _ | 5, _ | 6, _ | 7, _ | 8, _ | 9, _ => rfl
  | _ + 10, h => absurd h (by omega)

/-- what plain.Code says of an error of errors.New's make -/
def CodeIs (A : Nat → Addr) (a : Addr) (n : Int) : Prop := (∃ k : Nat, 1 ≤ k ∧ k ≤ 10 ∧ a = A k ∧ n = k) ∨ ((∀ k : Nat, 1 ≤ k → k ≤ 10 → a ≠ A k) ∧ n = -1)

set_option maxHeartbeats 1000000 in
set_option maxRecDepth 100000 in
theorem code_any (a : Addr) (c : Array Value) (ta : TypeId) (A : Nat → Addr) (w : World) (hE : EnvC A w) (ha : w.heap[a.block]? = some (.cells c ta (0, 0))) :
    Calls Tryz.prog 73 #[.iface 271 (.pointer (some a))] w fun e w' =>
      (∃ n : Int, e = .returned (.tuple #[.int .i64 n, .int .i64 (-1)]) ∧ CodeIs A a n) ∧ Below w.heap.size w w' := by
  have hT := Tryz.isIface_error
  have hb0 : Below w.heap.size w (w.alloc (.cells #[.pointer none] 102)) := (Below.refl _ _).alloc (Nat.le_refl _) _
  have hE0 := hE.below hb0
  have ha0 := Below.row_same hb0 ha
  have ht0 : (w.alloc (.cells #[.pointer none] 102)).cell? ⟨w.heap.size, 0, none⟩ = some (.pointer none) := by simp
  have hf0 : (w.alloc (.cells #[.pointer none] 102)).frozen? ⟨w.heap.size, 0, none⟩ = false := by simp
  have hz0 : w.heap.size ≤ (w.alloc (.cells #[.pointer none] 102)).heap.size := hb0.size
  go_enter Tryz.func73, Tryz.ntmps73
  go_wp2_with fail
  refine (as_miss a ⟨w.heap.size, 0, none⟩ (.pointer none) _ hE0.handle ht0 hf0).mono ?_
  rintro e w1 ⟨rfl, hb1⟩
  have hb01 := hb0.trans (hb1.mono hz0)
  have hE1 := hE0.below hb1
  have ha1 := Below.row_same hb1 ha0
  have g1 := hE1.errs.var 1 (mem_allErrs (by decide) (by decide))
  have g2 := hE1.errs.var 2 (mem_allErrs (by decide) (by decide))
  have g3 := hE1.errs.var 3 (mem_allErrs (by decide) (by decide))
  have g4 := hE1.errs.var 4 (mem_allErrs (by decide) (by decide))
  have g5 := hE1.errs.var 5 (mem_allErrs (by decide) (by decide))
  have g6 := hE1.errs.var 6 (mem_allErrs (by decide) (by decide))
  have g7 := hE1.errs.var 7 (mem_allErrs (by decide) (by decide))
  have g8 := hE1.errs.var 8 (mem_allErrs (by decide) (by decide))
  have g9 := hE1.errs.var 9 (mem_allErrs (by decide) (by decide))
  have g10 := hE1.errs.var 10 (mem_allErrs (by decide) (by decide))
  simp only [errG] at g1 g2 g3 g4 g5 g6 g7 g8 g9 g10
  clear ht0 hf0 hE0 hb0 ha0 hb1
  go_wp2_with fail
  have hbt : Below w.heap.size w (w1.alloc (.cells (ten A) 29)) := hb01.alloc hb01.size _
  have hbu : Below w1.heap.size w1 (w1.alloc (.cells (ten A) 29)) := (Below.refl _ _).alloc (Nat.le_refl _) _
  have hE2 := hE1.below hbu
  have ha2 := Below.row_same hbu ha1
  have hcells : ∀ i, i < 10 → (w1.alloc (.cells (ten A) 29)).cell? ⟨w1.heap.size, i, none⟩ = some (.iface 271 (.pointer (some (A (i + 1))))) := fun i hi => by
    rw [World.cell?_alloc_at _ _ _ _ rfl]; exact ten_get A i hi
  obtain ⟨W, hW⟩ : ∃ W, W = w1.alloc (.cells (ten A) 29) := ⟨_, rfl⟩
  have hgoal : w1.alloc (.cells #[.iface 271 (.pointer (some (A 1))), .iface 271 (.pointer (some (A 2))), .iface 271 (.pointer (some (A 3))), .iface 271 (.pointer (some (A 4))), .iface 271 (.pointer (some (A 5))), .iface 271 (.pointer (some (A 6))), .iface 271 (.pointer (some (A 7))), .iface 271 (.pointer (some (A 8))), .iface 271 (.pointer (some (A 9))), .iface 271 (.pointer (some (A 10)))] 29) = W := by rw [hW]; rfl
  rw [hgoal]
  rw [← hW] at hbt hE2 ha2 hcells
  clear hgoal hW hbu hE1 ha1 g1 g2 g3 g4 g5 g6 g7 g8 g9 g10 hE ha
  go_loop [3, 28] (fun t i => ∃ k : Nat, k ≤ 10 ∧ t = .int .i64 (-1) ∧ i = .int .i64 k ∧ Hid (∀ j, j < k → a ≠ A (j + 1))) (fun _ i => 10 - (intOf i).toNat)
  case atStart => exact ⟨0, by omega, rfl, rfl, fun _ h => absurd h (Nat.not_lt_zero _)⟩
  case round =>
    obtain ⟨k, hk, rfl, rfl, HA⟩ := hrel
    by_cases hlt : k < 10
    · have hck := hcells k hlt
      obtain ⟨cb, tb, hcb⟩ := hE2.errs.row (k + 1) (mem_allErrs (by omega) (by omega))
      by_cases hsame : a = A (k + 1)
      · subst hsame
        go_wp2_with (go_at_call 117; refine (is_same _ _).mono ?_; rintro e w2 ⟨rfl, rfl⟩)
        go_ret2
        exact ⟨⟨(k : Int) + 1, rfl, .inl ⟨k + 1, by omega, by omega, rfl, by omega⟩⟩, hbt⟩
      · go_wp2_with (go_at_call 117; refine (is_other _ _ _ _ _ _ _ hsame ha2 hcb).mono ?_; rintro e w2 ⟨rfl, rfl⟩)
        go_round
        case rel =>
          refine ⟨k + 1, by omega, rfl, by go_num, ?_⟩
          intro j hj
          rcases Nat.lt_or_ge j k with h | h
          · exact HA.out j h
          · obtain rfl : j = k := by omega
            exact hsame
        case measure => simp [intOf]; omega
    · obtain rfl : k = 10 := by omega
      go_wp2_with fail
      go_ret2
      refine ⟨⟨-1, rfl, .inr ⟨fun k h1 h2 => ?_, rfl⟩⟩, hbt⟩
      have := HA.out (k - 1) (by omega)
      rwa [Nat.sub_add_cancel h1] at this
/-- errors.As hits: what is good of the world behind it. -/
theorem as_hit2 (e t : Addr) (old : Value) (w : World) (hg : w.cell? ⟨10, 0, none⟩ = some (.iface 204 (.agg #[.pointer (some ⟨19, 29, none⟩)]))) (ht0 : w.cell? t = some old) (hf0 : w.frozen? t = false) :
    Calls Tryz.prog 116 #[.iface 102 (.pointer (some e)), .iface 131 (.pointer (some t))] w fun ev w' => ev = .returned (.bool true) ∧ w'.cell? t = some (.pointer (some e)) ∧ Below t.block w w' := by
  have hlt : t.block < w.heap.size := World.block_lt_of_cell? w _ ht0
  refine (as_hit e t old w hg ht0 hf0).mono fun ev w' ⟨h1, h2⟩ => ⟨h1, ?_, ?_⟩
  · rw [h2]
    exact World.cell?_setCell_same _ _ _ (u := old) (by rw [World.cell?_alloc_lt _ _ t (by simp; omega), World.cell?_alloc_lt _ _ t (by simp; omega), World.cell?_alloc_lt _ _ t (by simp; omega), World.cell?_alloc_lt _ _ t hlt]; exact ht0)
  · rw [h2]
    exact ((((((Below.refl _ _).alloc (by omega) _).alloc (by simp; omega) _).alloc (by simp; omega) _).alloc (by simp; omega) _)).setCell (Nat.le_refl _) _

set_option maxHeartbeats 1000000 in
set_option maxRecDepth 100000 in
theorem code_fault (pb : Nat) (at_ : Int) (n : Nat) (A : Nat → Addr) (w : World) (hE : EnvC A w) (h1 : 1 ≤ n) (h2 : n ≤ 10) (hp0 : w.cell? ⟨pb, 0, none⟩ = some (.int .i64 at_)) (hp1 : w.cell? ⟨pb, 1, none⟩ = some (errV A n)) :
    Calls Tryz.prog 73 #[.iface 102 (.pointer (some ⟨pb, 0, none⟩))] w fun e w' => e = .returned (.tuple #[.int .i64 n, .int .i64 at_]) ∧ Below w.heap.size w w' := by
  have hT := Tryz.isIface_error
  have hb0 : Below w.heap.size w (w.alloc (.cells #[.pointer none] 102)) := (Below.refl _ _).alloc (Nat.le_refl _) _
  have hE0 := hE.below hb0
  rw [errV_pos A (by omega)] at hp1
  have hq0 := Below.cell_same hb0 hp0
  have hq1 := Below.cell_same hb0 hp1
  have hpl : pb < w.heap.size := World.block_lt_of_cell? w _ hp0
  have ht0 : (w.alloc (.cells #[.pointer none] 102)).cell? ⟨w.heap.size, 0, none⟩ = some (.pointer none) := by simp
  have hf0 : (w.alloc (.cells #[.pointer none] 102)).frozen? ⟨w.heap.size, 0, none⟩ = false := by simp
  have hz0 : w.heap.size ≤ (w.alloc (.cells #[.pointer none] 102)).heap.size := hb0.size
  go_enter Tryz.func73, Tryz.ntmps73
  go_wp2_with fail
  refine (as_hit2 ⟨pb, 0, none⟩ ⟨w.heap.size, 0, none⟩ (.pointer none) _ hE0.handle ht0 hf0).mono ?_
  rintro e w1 ⟨rfl, hc1, hb1⟩
  have hb01 : Below w.heap.size w w1 := hb0.trans hb1
  have hE1 := hE.below hb01
  have hr0 := Below.cell_same hb01 hp0
  have hr1 := Below.cell_same hb01 hp1
  have g1 := hE1.errs.var 1 (mem_allErrs (by decide) (by decide))
  have g2 := hE1.errs.var 2 (mem_allErrs (by decide) (by decide))
  have g3 := hE1.errs.var 3 (mem_allErrs (by decide) (by decide))
  have g4 := hE1.errs.var 4 (mem_allErrs (by decide) (by decide))
  have g5 := hE1.errs.var 5 (mem_allErrs (by decide) (by decide))
  have g6 := hE1.errs.var 6 (mem_allErrs (by decide) (by decide))
  have g7 := hE1.errs.var 7 (mem_allErrs (by decide) (by decide))
  have g8 := hE1.errs.var 8 (mem_allErrs (by decide) (by decide))
  have g9 := hE1.errs.var 9 (mem_allErrs (by decide) (by decide))
  have g10 := hE1.errs.var 10 (mem_allErrs (by decide) (by decide))
  simp only [errG] at g1 g2 g3 g4 g5 g6 g7 g8 g9 g10
  clear ht0 hf0 hE0 hb0 hq0 hq1 hb1 hp0 hp1
  go_wp2_with fail
  have hbt : Below w.heap.size w (w1.alloc (.cells (ten A) 29)) := hb01.alloc hb01.size _
  have hbu : Below w1.heap.size w1 (w1.alloc (.cells (ten A) 29)) := (Below.refl _ _).alloc (Nat.le_refl _) _
  have hE2 := hE1.below hbu
  have hs1 := Below.cell_same hbu hr1
  have hcells : ∀ i, i < 10 → (w1.alloc (.cells (ten A) 29)).cell? ⟨w1.heap.size, i, none⟩ = some (.iface 271 (.pointer (some (A (i + 1))))) := fun i hi => by
    rw [World.cell?_alloc_at _ _ _ _ rfl]; exact ten_get A i hi
  obtain ⟨W, hW⟩ : ∃ W, W = w1.alloc (.cells (ten A) 29) := ⟨_, rfl⟩
  have hgoal : w1.alloc (.cells #[.iface 271 (.pointer (some (A 1))), .iface 271 (.pointer (some (A 2))), .iface 271 (.pointer (some (A 3))), .iface 271 (.pointer (some (A 4))), .iface 271 (.pointer (some (A 5))), .iface 271 (.pointer (some (A 6))), .iface 271 (.pointer (some (A 7))), .iface 271 (.pointer (some (A 8))), .iface 271 (.pointer (some (A 9))), .iface 271 (.pointer (some (A 10)))] 29) = W := by rw [hW]; rfl
  rw [hgoal]
  rw [← hW] at hbt hE2 hs1 hcells
  clear hgoal hW hbu hE1 g1 g2 g3 g4 g5 g6 g7 g8 g9 g10 hE hr0 hr1 hc1
  go_loop [3, 28] (fun t i => ∃ k : Nat, t = .int .i64 at_ ∧ i = .int .i64 k ∧ k < n) (fun _ i => 10 - (intOf i).toNat)
  case atStart => exact ⟨0, rfl, rfl, by omega⟩
  case round =>
    obtain ⟨k, rfl, rfl, hk⟩ := hrel
    have hlt : k < 10 := by omega
    have hck := hcells k hlt
    obtain ⟨cb, tb, hcb⟩ := hE2.errs.row (k + 1) (mem_allErrs (by omega) (by omega))
    obtain ⟨ca, ta, hca⟩ := hE2.errs.row n (mem_allErrs (by omega) (by omega))
    by_cases hsame : n = k + 1
    · subst hsame
      go_wp2_with (go_at_call 117; refine (is_fault_same _ _ _ hs1).mono ?_; rintro e w2 ⟨rfl, rfl⟩)
      go_ret2
      exact ⟨rfl, hbt⟩
    · have hne : A n ≠ A (k + 1) := fun e => hsame (hE2.errs.inj _ (mem_allErrs (by omega) (by omega)) _ (mem_allErrs (by omega) (by omega)) e)
      go_wp2_with (go_at_call 117; refine (is_fault_other _ _ _ _ _ _ _ _ hs1 hne hca hcb).mono ?_; rintro e w2 ⟨rfl, rfl⟩)
      go_round
      case rel => exact ⟨k + 1, rfl, by go_num, by omega⟩
      case measure => simp [intOf]; omega
end Go.Proofs.Pw

/- coded of the statements' first package: an error's number. -/
namespace Go.Proofs.Pw
open Go.RowKit

theorem code_calls (i : Nat) (A : Nat → Addr) (w : World) (hE : EnvC A w) (hi : i ≤ 10) :
    Calls Tryz.prog 73 #[errV A i] w fun e w' => e = .returned (.tuple #[.int .i64 (i : Nat), .int .i64 (-1)]) ∧ Below w.heap.size w w' := by
  rcases Nat.eq_zero_or_pos i with rfl | h1
  · refine (code_nil w).mono ?_
    rintro e w' ⟨rfl, rfl⟩
    exact ⟨rfl, Below.refl _ _⟩
  · rw [errV_pos A (by omega)]
    obtain ⟨c, tc, hc⟩ := hE.errs.row i (mem_allErrs h1 hi)
    refine (code_any _ _ _ _ _ hE hc).mono ?_
    rintro e w1 ⟨⟨m, rfl, hm⟩, hb1⟩
    obtain rfl : m = i := by
      rcases hm with ⟨j, hj1, hj2, ha, rfl⟩ | ⟨h, _⟩
      · have := hE.errs.inj _ (mem_allErrs h1 hi) _ (mem_allErrs hj1 hj2) ha
        rw [this]
      · exact absurd rfl (h i h1 hi)
    exact ⟨rfl, hb1⟩

end Go.Proofs.Pw

/- faulted of the statements: an error's number and place are those of a fault. -/
namespace Go.Proofs.Pw
open Go.RowKit
open Go.Lib hiding intOf

theorem codeF_calls (A : Nat → Addr) (v : Value) (r : Nat × Int) (w : World) (hE : EnvC A w) (h : FaultAt A w v r) (hr : r.1 ≤ 10) :
    Calls Tryz.prog 73 #[v] w fun e w' => e = .returned (.tuple #[.int .i64 (r.1 : Nat), .int .i64 r.2]) ∧ Below w.heap.size w w' := by
  rcases h with ⟨h1, h2, rfl⟩ | ⟨h1, h2, rfl⟩ | ⟨h1, b, rfl, c3, c4⟩
  · rw [h1, h2]
    refine (code_nil w).mono ?_
    rintro e w' ⟨rfl, rfl⟩
    exact ⟨rfl, Below.refl _ _⟩
  · rw [h2]
    exact code_calls r.1 A w hE hr
  · exact code_fault b r.2 r.1 A w hE (by omega) hr c3 c4

theorem faulted2_calls (A : Nat → Addr) (v : Value) (r : Nat × Int) (w : World) (hE : EnvC A w) (h : FaultAt A w v r) (hr : r.1 ≤ 10) :
    Calls Tryz.prog 26 #[v, .agg #[.int .i64 (r.1 : Nat), .int .i64 r.2]] w fun e w' => e = .returned (.bool true) ∧ Below w.heap.size w w' := by
  have hB7 := below_alloc w (.cells #[.int .i64 (r.1 : Nat), .int .i64 r.2] 49)
  have hz := box2_alloc w (.int .i64 (r.1 : Nat)) (.int .i64 r.2) 49
  have hc := codeF_calls A v r _ (hE.below hB7) (h.below hB7) hr
  by_cases h0 : r.1 = 0
  · have h2 : r.2 = -1 := by
      rcases h with h | h | h
      · exact h.2.1
      · exact absurd h0 h.1
      · exact absurd h0 h.1
    rw [h0, h2] at hc hB7 hz ⊢
    clear h0 h2 h
    replace hc := Lib.hid hc
    go_enter Tryz.func26, Tryz.ntmps26
    obtain ⟨z0, z1, z2⟩ := id hz
    go_wp2_with fail
    refine (hc.out).mono ?_
    rintro e w1 ⟨rfl, hb⟩
    replace hB7 := below_step hB7 hb
    replace hz := hz.below hb
    clear hb
    obtain ⟨z0, z1, z2⟩ := id hz
    go_wp2_with fail
    go_ret
    exact ⟨rfl, hB7⟩
  · have hq : ((r.1 : Int) == 0) = false := beq_eq_false_iff_ne.2 (by omega)
    generalize r.2 = x at hc hz hB7 ⊢
    generalize r.1 = n at *
    clear h0 h
    replace hc := Lib.hid hc
    go_enter Tryz.func26, Tryz.ntmps26
    obtain ⟨z0, z1, z2⟩ := id hz
    go_wp2_with fail
    refine (hc.out).mono ?_
    rintro e w1 ⟨rfl, hb⟩
    replace hB7 := below_step hB7 hb
    replace hz := hz.below hb
    clear hb
    obtain ⟨z0, z1, z2⟩ := id hz
    go_wp2_with fail
    go_ret
    exact ⟨rfl, hB7⟩
end Go.Proofs.Pw

/- A box of two numbers: stores into it leave lists of texts and faults. -/
namespace Go.Proofs.Pw
open Go.RowKit
open Go.Lib hiding intOf

/-- a store into a box of two numbers leaves lists of texts -/
theorem ModsAt.flt {w : World} {b : Nat} {v : Value} {l : List Md} {x y : Int} (hm : ModsAt w v l) (hb : Box2 w b (.int .i64 x) (.int .i64 y)) (u0 u1 : Value) : ModsAt ((w.setCell ⟨b, 0, none⟩ u0).setCell ⟨b, 1, none⟩ u1) v l := by
  have key : ∀ (q : Addr) (s : ByteArray), w.cell? q = some (.string s) → ((w.setCell ⟨b, 0, none⟩ u0).setCell ⟨b, 1, none⟩ u1).cell? q = some (.string s) := fun q s hq => by
    rw [World.cell?_setCell_other _ _ _ _ (fun e => by rw [← e, hb.c1] at hq; cases hq), World.cell?_setCell_other _ _ _ _ (fun e => by rw [← e, hb.c0] at hq; cases hq)]
    exact hq
  obtain ⟨a, n, cap, P, V, e, e2, h3, h4, h5⟩ := hm
  exact ⟨a, n, cap, P, V, e, e2, h3, h4, fun j hj => let ⟨b', o', e', c0, c1⟩ := h5 j hj; ⟨b', o', e', key _ _ c0, key _ _ c1⟩⟩
theorem Box2.sto {w : World} {b : Nat} {u0 u1 : Value} (h : Box2 w b u0 u1) (v0 v1 : Value) : Box2 ((w.setCell ⟨b, 0, none⟩ v0).setCell ⟨b, 1, none⟩ v1) b v0 v1 := ⟨by rw [set_off _ (by decide)]; exact set_same _ h.c0, set_same _ (by rw [set_off _ (by decide)]; exact h.c1), fun j => by simp [h.fr j]⟩
theorem Box2.sto_away {w : World} {b c : Nat} {u0 u1 : Value} (h : Box2 w b u0 u1) (hne : b ≠ c) (v0 v1 : Value) : Box2 ((w.setCell ⟨c, 0, none⟩ v0).setCell ⟨c, 1, none⟩ v1) b u0 u1 := ⟨by rw [set_blk _ hne, set_blk _ hne]; exact h.c0, by rw [set_blk _ hne, set_blk _ hne]; exact h.c1, fun j => by simp [h.fr j]⟩
theorem below_sto2 {B : Nat} {w W : World} (h : Below B w W) {b : Nat} (hb : B ≤ b) (u0 u1 : Value) : Below B w ((W.setCell ⟨b, 0, none⟩ u0).setCell ⟨b, 1, none⟩ u1) := (h.setCell (p := ⟨b, 0, none⟩) hb u0).setCell (p := ⟨b, 1, none⟩) hb u1
theorem FaultAt.flt {A : Nat → Addr} {w : World} {b : Nat} {v : Value} {r : Nat × Int} {x y : Int} (h : FaultAt A w v r) (hb : Box2 w b (.int .i64 x) (.int .i64 y)) (u0 u1 : Value) : FaultAt A ((w.setCell ⟨b, 0, none⟩ u0).setCell ⟨b, 1, none⟩ u1) v r := by
  rcases h with h | h | ⟨h, c, h1, h2, h3⟩
  · exact .inl h
  · exact .inr (.inl h)
  · have hne : c ≠ b := fun e => by
      subst e
      rw [hb.c1, errV_pos A h] at h3
      cases h3
    exact .inr (.inr ⟨h, c, h1, by rw [set_blk _ hne, set_blk _ hne]; exact h2, by rw [set_blk _ hne, set_blk _ hne]; exact h3⟩)
end Go.Proofs.Pw

/- TrimTells: its walk. -/
namespace Go.Proofs.Pw
open Go.RowKit
open Go.Lib hiding intOf

theorem trimErr_le (l : List En) (sel : List Md) : (trimErr l sel).1 ≤ 10 := by
  unfold trimErr
  split
  · exact startErr_le l sel
  · split
    · exact (by decide : 0 ≤ 10)
    · exact (by decide : 3 ≤ 10)
/-- what is shared by the walks -/
structure TtArgs (ks : List Nat) (A : Nat → Addr) (la : Option Addr) (ln lc : Nat) (P V : Nat → ByteArray) (R : Nat → List Md) (K : Nat → List Str) (Bk : Nat → Bool) (Rv Kv : Nat → Value) (av bv : Value) (Am Bm : List Md) (w : World) : Prop where
  idx : IdxKs ks
  env : EnvP ks A w
  envC : EnvC A w
  l : EntsIn w la ln lc P V R K Bk Rv Kv
  a : ModsAt w av Am
  b : ModsAt w bv Bm

set_option maxHeartbeats 4000000 in
set_option maxRecDepth 100000 in
theorem trimTells_long (ks : List Nat) (A : Nat → Addr) (la : Option Addr) (ln lc : Nat) (P V : Nat → ByteArray) (R : Nat → List Md) (K : Nat → List Str) (Bk : Nat → Bool) (Rv Kv : Nat → Value) (av bv : Value) (Am Bm : List Md) (w : World) (H : TtArgs ks A la ln lc P V R K Bk Rv Kv av bv Am Bm w)
    (hlong : longIdx (enF ln P V R K Bk) = true ∨ (longIdx (enF ln P V R K Bk) = false ∧ (30 < ln ∨ (ln ≤ 30 ∧ ¬ (longMods Am 15 = false ∧ longMods Bm 15 = false))))) :
    Calls Tryz.prog 7 #[.slice la ln lc, av, bv] w fun e w' => e = .returned (.bool true) ∧ Below w.heap.size w w' := by
  obtain ⟨a1, n1, c1, _, _, rfl, _⟩ := id H.a
  obtain ⟨a2, n2, c2, _, _, rfl, _⟩ := id H.b
  have hre := trimmed_calls ks A H.idx w H.env
  have hlx := fun (W : World) (hb : Below w.heap.size w W) => longIndex_in la ln lc P V R K Bk Rv Kv W (H.l.below hb)
  have hlm1 := fun (W : World) (hb : Below w.heap.size w W) => longMods_calls (.slice a1 n1 c1) Am 15 W (H.a.below hb)
  have hlm2 := fun (W : World) (hb : Below w.heap.size w W) => longMods_calls (.slice a2 n2 c2) Bm 15 W (H.b.below hb)
  replace hre := Lib.hid hre
  replace hlx := Lib.hid hlx
  replace hlm1 := Lib.hid hlm1
  replace hlm2 := Lib.hid hlm2
  clear H
  rcases hlong with h1 | ⟨h1, h2 | ⟨h2, h3⟩⟩
  · rw [longII_yes h1] at hlx
    clear h1
    go_enter Tryz.func7, Tryz.ntmps7
    go_wp2_with fail
    refine hre.out.mono ?_
    rintro e w1 ⟨rfl, hB⟩
    go_wp2_with fail
    refine (hlx.out _ hB).mono ?_
    rintro e w' ⟨rfl, rfl⟩
    go_wp2_with fail
    go_ret
    exact ⟨rfl, hB⟩
  · rw [longII_no h1] at hlx
    have h2' : (30 : Int) < (ln : Int) := by omega
    clear h1
    go_enter Tryz.func7, Tryz.ntmps7
    go_wp2_with fail
    refine hre.out.mono ?_
    rintro e w1 ⟨rfl, hB⟩
    go_wp2_with fail
    refine (hlx.out _ hB).mono ?_
    rintro e w' ⟨rfl, rfl⟩
    go_wp2_with fail
    go_ret
    exact ⟨rfl, hB⟩
  · rw [longII_no h1] at hlx
    have h2' : ¬ (30 : Int) < (ln : Int) := by omega
    clear h1
    cases h4 : longMods Am 15 <;> cases h5 : longMods Bm 15
    · exact absurd ⟨h4, h5⟩ h3
    all_goals
      clear h3
      have e1 := longI_is Am 15
      have e2 := longI_is Bm 15
      rw [h4] at e1
      rw [h5] at e2
      simp only [e1, e2] at hlm1 hlm2
      clear h4 h5 e1 e2
      go_enter Tryz.func7, Tryz.ntmps7
      go_wp2_with fail
      refine hre.out.mono ?_
      rintro e w1 ⟨rfl, hB⟩
      go_wp2_with fail
      refine (hlx.out _ hB).mono ?_
      rintro e w' ⟨rfl, rfl⟩
      go_wp2_with fail
      refine (hlm1.out _ hB).mono ?_
      rintro e w' ⟨rfl, rfl⟩
      go_wp2_with fail
      refine (hlm2.out _ hB).mono ?_
      rintro e w' ⟨rfl, rfl⟩
      go_wp2_with fail
      go_ret
      exact ⟨rfl, hB⟩

set_option maxHeartbeats 8000000 in
set_option maxRecDepth 100000 in
theorem trimTells_main (ks : List Nat) (A : Nat → Addr) (la : Option Addr) (ln lc : Nat) (P V : Nat → ByteArray) (R : Nat → List Md) (K : Nat → List Str) (Bk : Nat → Bool) (Rv Kv : Nat → Value) (av bv : Value) (Am Bm : List Md) (w : World) (H : TtArgs ks A la ln lc P V R K Bk Rv Kv av bv Am Bm w)
    (h1 : longIdx (enF ln P V R K Bk) = false) (h2 : ln ≤ 30) (h3 : longMods Am 15 = false) (h4 : longMods Bm 15 = false) :
    Calls Tryz.prog 7 #[.slice la ln lc, av, bv] w fun e w' => e = .returned (.bool true) ∧ Below w.heap.size w w' := by
  obtain ⟨a1, n1, c1, _, _, rfl, _⟩ := id H.a
  obtain ⟨a2, n2, c2, _, _, rfl, _⟩ := id H.b
  have hre := trimmed_calls ks A H.idx w H.env
  have hlx := fun (W : World) (hb : Below w.heap.size w W) => longIndex_in la ln lc P V R K Bk Rv Kv W (H.l.below hb)
  have hlm1 := fun (W : World) (hb : Below w.heap.size w W) => longMods_calls (.slice a1 n1 c1) Am 15 W (H.a.below hb)
  have hlm2 := fun (W : World) (hb : Below w.heap.size w W) => longMods_calls (.slice a2 n2 c2) Bm 15 W (H.b.below hb)
  have hsi := longIdx_short h1
  have hsm := longIdx_small h1
  have hA1 := longMods_small h3
  have hA2 := longMods_small h4
  have HH := Lib.hid H
  have HSI := Lib.hid hsi
  have h2' : ¬ (30 : Int) < (ln : Int) := by omega
  have how := fun (W : World) (hb : Below w.heap.size w W) => ownIndex_calls (.slice la ln lc) (enF ln P V R K Bk) W ⟨la, ln, lc, P, V, R, K, Bk, Rv, Kv, rfl, rfl, HH.out.l.below hb⟩ (by rw [enF_length]; omega) (fun e he => by
    have h4 := longEn_small (hsm.2 e he)
    have h5 := longMods_small h4.2.2.1
    exact ⟨by omega, by omega⟩)
  have hom1 := fun (W : World) (hb : Below w.heap.size w W) => ownMods_calls (.slice a1 n1 c1) Am W (HH.out.a.below hb) (by omega)
  have hom2 := fun (W : World) (hb : Below w.heap.size w W) => ownMods_calls (.slice a2 n2 c2) Bm W (HH.out.b.below hb) (by omega)
  have hrr := fun (W : World) (hb : Below w.heap.size w W) => rootsOf_in la ln lc P V R K Bk Rv Kv (.slice a1 n1 c1) Am W (HH.out.l.below hb) (HH.out.a.below hb) hsi (by omega)
  have hb1 := fun (W : World) (hb : Below w.heap.size w W) => buildOf_in la ln lc P V R K Bk Rv Kv (.slice a1 n1 c1) Am W (HH.out.l.below hb) (HH.out.a.below hb) hsi (by omega)
  have hb2 := fun (W : World) (hb : Below w.heap.size w W) => buildOf_in la ln lc P V R K Bk Rv Kv (.slice a2 n2 c2) Bm W (HH.out.l.below hb) (HH.out.b.below hb) hsi (by omega)
  have hE := fun (W : World) (hb : Below w.heap.size w W) => HH.out.env.below hb
  have hEC := fun (W : World) (hb : Below w.heap.size w W) => HH.out.envC.below hb
  rw [longII_no h1] at hlx
  rw [longI_no h3] at hlm1
  rw [longI_no h4] at hlm2
  have HAL := Lib.hid (And.intro hA1.1 hA2.1)
  have HI := Lib.hid HH.out.idx
  generalize hl0 : enF ln P V R K Bk = l at *
  have hro := fun (oa : Option Addr) (on oc : Nat) P' V' R' K' B' Rv' Kv' (hOl : l = enF on P' V' R' K' B') (W : World) (hb : Below w.heap.size w W) (hO : EntsIn W oa on oc P' V' R' K' B' Rv' Kv') (rv : Value) (hr : ModsAt W rv Am) => trimRoots_in ks A HI.out oa on oc P' V' R' K' B' Rv' Kv' rv Am W (hE W hb) hO (by rw [← hOl]; exact HSI.out) hr (by omega)
  have hsa := fun (oa : Option Addr) (on oc : Nat) P' V' R' K' B' Rv' Kv' (hOl : l = enF on P' V' R' K' B') (W : World) (hb : Below w.heap.size w W) (hO : EntsIn W oa on oc P' V' R' K' B' Rv' Kv') (va vb : Value) (h8 : ModsAt W va Am) (h9 : ModsAt W vb Bm) => trimSame_in ks A HI.out oa on oc P' V' R' K' B' Rv' Kv' va vb Am Bm W (hE W hb) hO (by rw [← hOl]; exact HSI.out) h8 h9 (by omega) (by omega)
  have lT := trimErr_le l Am
  have lA := startErr_le l Am
  have lB := startErr_le l Bm
  have hS : sameR l Am Bm = if (startErr l Am).1 = 0 ∧ (startErr l Bm).1 = 0 then decide (buildR l Am = buildR l Bm) else false := by
    unfold sameR buildR
    by_cases h3 : (startErr l Am).1 = 0 ∧ (startErr l Bm).1 = 0
    · rw [if_pos h3, if_pos h3, if_pos h3.1, if_pos h3.2]
    · rw [if_neg h3, if_neg h3]
  have hfT := fun (W : World) (ev : Value) (h1 : Below w.heap.size w W) (h2 : FaultAt A W ev (trimErr l Am)) => faulted2_calls A ev _ W (hEC W h1) h2 lT
  have hfA := fun (W : World) (ev : Value) (h1 : Below w.heap.size w W) (h2 : FaultAt A W ev (startErr l Am)) => faulted2_calls A ev _ W (hEC W h1) h2 lA
  have hfB := fun (W : World) (ev : Value) (h1 : Below w.heap.size w W) (h2 : FaultAt A W ev (startErr l Bm)) => faulted2_calls A ev _ W (hEC W h1) h2 lB
  have hz0 : ∀ sel : List Md, (startErr l sel).1 = 0 → startErr l sel = (0, -1) := fun sel h => startErr_at h
  unfold fltV at hrr hb1 hb2
  have HZ1 := Lib.hid (hz0 Am)
  have HZ2 := Lib.hid (hz0 Bm)
  obtain ⟨SR, hSR⟩ : ∃ x, x = sameR l Am Bm := ⟨_, rfl⟩
  obtain ⟨TE, hTE⟩ : ∃ x, x = trimErr l Am := ⟨_, rfl⟩
  obtain ⟨TR, hTR⟩ : ∃ x, x = trimR l Am := ⟨_, rfl⟩
  obtain ⟨XA, hXA⟩ : ∃ x, x = buildR l Am := ⟨_, rfl⟩
  obtain ⟨XB, hXB⟩ : ∃ x, x = buildR l Bm := ⟨_, rfl⟩
  obtain ⟨EA, hEA⟩ : ∃ x, x = startErr l Am := ⟨_, rfl⟩
  obtain ⟨EB, hEB⟩ : ∃ x, x = startErr l Bm := ⟨_, rfl⟩
  simp only [← hTE, ← hTR] at hrr hfT
  simp only [← hXA, ← hEA] at hb1 hfA
  simp only [← hXB, ← hEB] at hb2 hfB
  rw [← hSR, ← hXA, ← hXB, ← hEA, ← hEB] at hS
  rw [← hEA] at HZ1
  rw [← hEB] at HZ2
  obtain ⟨tc, ta⟩ := TE
  obtain ⟨ac, aa⟩ := EA
  obtain ⟨bc, ba⟩ := EB
  simp only at hrr hb1 hb2 hfT hfA hfB hS
  have HS := Lib.hid hS
  have HSR := Lib.hid hSR
  have HTE := Lib.hid (And.intro hTE hTR)
  have HEE := Lib.hid (And.intro hEA hEB)
  clear hXA hXB hSR hTE hTR hEA hEB
  replace hre := Lib.hid hre
  replace hlx := Lib.hid hlx
  replace hlm1 := Lib.hid hlm1
  replace hlm2 := Lib.hid hlm2
  replace how := Lib.hid how
  replace hom1 := Lib.hid hom1
  replace hom2 := Lib.hid hom2
  replace hE := Lib.hid hE
  replace hrr := Lib.hid hrr
  replace hb1 := Lib.hid hb1
  replace hb2 := Lib.hid hb2
  replace hro := Lib.hid hro
  replace hsa := Lib.hid hsa
  replace hfT := Lib.hid hfT
  replace hfA := Lib.hid hfA
  replace hfB := Lib.hid hfB
  clear h1 h2 h3 h4 hsi hsm hA1 hA2 H hl0 hEC lT lA lB hz0 hS
  go_enter Tryz.func7, Tryz.ntmps7
  go_wp2_with fail
  refine hre.out.mono ?_
  rintro e w1 ⟨rfl, hB⟩
  go_wp2_with fail
  refine (hlx.out _ hB).mono ?_
  rintro e w' ⟨rfl, rfl⟩
  go_wp2_with fail
  refine (hlm1.out _ hB).mono ?_
  rintro e w' ⟨rfl, rfl⟩
  go_wp2_with fail
  refine (hlm2.out _ hB).mono ?_
  rintro e w' ⟨rfl, rfl⟩
  clear hre hlx hlm1 hlm2
  go_wp2_with fail
  refine (how.out _ hB).mono ?_
  rintro e w2 ⟨⟨ov, rfl, hOE⟩, hb⟩
  replace hB := below_step hB hb
  obtain ⟨oa, on, oc, P', V', R', K', B', Rv', Kv', rfl, hOl, hO⟩ := hOE
  have HO := Lib.hid hO
  have HOL := Lib.hid hOl
  have hC := Below.refl w2.heap.size w2
  clear hO hOl hb how
  go_wp2_with fail
  refine (hom1.out _ hB).mono ?_
  rintro e w3 ⟨⟨v3, rfl, hM3, _⟩, hb⟩
  replace hB := below_step hB hb
  replace hC := below_step hC hb
  obtain ⟨a3, n3, c3, _, _, rfl, _⟩ := id hM3
  have hr4 := hro.out oa on oc _ _ _ _ _ _ _ HOL.out _ hB (HO.out.below hC) _ hM3
  rw [← HOL.out, ← HTE.out.1, ← HTE.out.2] at hr4
  replace hr4 := Lib.hid hr4
  clear hb hM3
  go_wp2_with fail
  refine hr4.out.mono ?_
  rintro e w4 ⟨⟨x4, ev4, rfl, hf4, hx4⟩, hb⟩
  replace hB := below_step hB hb
  replace hC := below_step hC hb
  obtain ⟨a4, n4, c4, _, _, rfl, _⟩ := id hx4
  have HF4 := Lib.hid hf4
  have HX4 := Lib.hid hx4
  clear hb hr4 hf4 hx4
  go_wp2_with fail
  refine (hrr.out _ hB).mono ?_
  rintro e w5 ⟨⟨x5, rfl, hx5⟩, hb⟩
  have hba := below_alloc w5 (.cells #[.int .i64 (tc : Nat), .int .i64 ta] 49)
  have hz := box2_alloc w5 (.int .i64 (tc : Nat)) (.int .i64 ta) 49
  replace hC := below_step hC hb
  have hs5 := hC.size
  have hsb5 := (below_step hB hb).size
  replace hx5 := hx5.below hba
  replace hb := below_step hb hba
  replace hC := below_step hC hba
  replace hB := below_step hB hb
  have hf4 := HF4.out.below hb
  have hx4 := HX4.out.below hb
  obtain ⟨a5, n5, c5, _, _, rfl, _⟩ := id hx5
  have hft := hfT.out _ ev4 hB hf4
  have hsm := fun W (hW : Below (w5.alloc (.cells #[.int .i64 (tc : Nat), .int .i64 ta] 49)).heap.size (w5.alloc (.cells #[.int .i64 (tc : Nat), .int .i64 ta] 49)) W) => sameMods_calls _ _ _ _ W (hx4.below hW) (hx5.below hW)
  rw [decide_eq_true rfl] at hsm
  replace hft := Lib.hid hft
  replace hsm := Lib.hid hsm
  clear hb hba hrr hfT hf4 hx4 hx5 HF4 HX4
  obtain ⟨z0, z1, zf⟩ := id hz
  go_wp2_with fail
  generalize w5.alloc (.cells #[.int .i64 (tc : Nat), .int .i64 ta] 49) = w6 at *
  generalize w5.heap.size = bf at *
  refine hft.out.mono ?_
  rintro e w7 ⟨rfl, hb⟩
  replace hB := below_step hB hb
  replace hC := below_step hC hb
  replace hz := hz.below hb
  have hsm7 := hsm.out _ hb
  replace hsm7 := Lib.hid hsm7
  clear hb hft hsm z0 z1 zf
  go_wp2_with fail
  refine hsm7.out.mono ?_
  rintro e w8 ⟨rfl, hb⟩
  replace hB := below_step hB hb
  replace hC := below_step hC hb
  replace hz := hz.below hb
  clear hb hsm7
  go_wp2_with fail
  refine (hom1.out _ hB).mono ?_
  rintro e w9 ⟨⟨v9, rfl, hM9, _⟩, hb⟩
  replace hB := below_step hB hb
  replace hC := below_step hC hb
  replace hz := hz.below hb
  obtain ⟨a9, n9, c9, _, _, rfl, _⟩ := id hM9
  have HM9 := Lib.hid hM9
  clear hb hM9
  go_wp2_with fail
  refine (hom2.out _ hB).mono ?_
  rintro e w10 ⟨⟨v10, rfl, hM10, _⟩, hb⟩
  replace hB := below_step hB hb
  replace hC := below_step hC hb
  replace hz := hz.below hb
  obtain ⟨a10, n10, c10, _, _, rfl, _⟩ := id hM10
  have hs11 := hsa.out oa on oc _ _ _ _ _ _ _ HOL.out _ hB (HO.out.below hC) _ _ (HM9.out.below hb) hM10
  rw [← HOL.out, ← HSR.out, ← HEE.out.1, ← HEE.out.2] at hs11
  replace hs11 := Lib.hid hs11
  clear hb hM10
  go_wp2_with fail
  refine hs11.out.mono ?_
  rintro e w11 ⟨⟨ev11, rfl, hf11⟩, hb⟩
  replace hB := below_step hB hb
  replace hC := below_step hC hb
  replace hz := hz.below hb
  have HF11 := Lib.hid hf11
  clear hb hs11 hf11 HM9 hro hsa hom1 hom2
  go_wp2_with fail
  obtain ⟨z0, z1, zf⟩ := id hz
  refine (hb1.out _ hB).mono ?_
  rintro e w12 ⟨⟨x12, rfl, hx12⟩, hb⟩
  replace hz := hz.below hb
  replace hB := below_step hB hb
  replace hC := below_step hC hb
  have hf12 := HF11.out.below hb
  have hsb := hB.size
  clear z0 z1 zf hb
  obtain ⟨z0, z1, zf⟩ := id hz
  obtain ⟨a12, n12, c12, _, _, rfl, _⟩ := id hx12
  have hx13 := hx12.flt hz (.int .i64 (ac : Nat)) (.int .i64 aa)
  have hf13 := hf12.flt hz (.int .i64 (ac : Nat)) (.int .i64 aa)
  replace hz := hz.sto (.int .i64 (ac : Nat)) (.int .i64 aa)
  replace hB := below_sto2 hB (b := bf) (by omega) (.int .i64 (ac : Nat)) (.int .i64 aa)
  replace hC := below_sto2 hC (b := bf) (by omega) (.int .i64 (ac : Nat)) (.int .i64 aa)
  have HX12 := Lib.hid hx13
  have HF12 := Lib.hid hf13
  clear hx12 hx13 hf12 hf13 hb1 HF11
  go_wp2_with fail
  generalize (w12.setCell ⟨bf, 0, none⟩ (.int .i64 (ac : Nat))).setCell ⟨bf, 1, none⟩ (.int .i64 aa) = w13 at *
  clear z0 z1 zf
  refine (hb2.out _ hB).mono ?_
  rintro e w14 ⟨⟨x14, rfl, hx14⟩, hb⟩
  have hba := below_alloc w14 (.cells #[.int .i64 (bc : Nat), .int .i64 ba] 49)
  have hy := box2_alloc w14 (.int .i64 (bc : Nat)) (.int .i64 ba) 49
  have hlt14 : bf < w14.heap.size := Nat.lt_of_lt_of_le (lt_of_cell hz.c0) hb.size
  replace hx14 := hx14.below hba
  replace hb := below_step hb hba
  replace hB := below_step hB hb
  replace hC := below_step hC hb
  replace hz := hz.below hb
  have hx12 := HX12.out.below hb
  have hf12 := HF12.out.below hb
  obtain ⟨a14, n14, c14, _, _, rfl, _⟩ := id hx14
  obtain ⟨w15, hW⟩ : ∃ W, w14.alloc (.cells #[.int .i64 (bc : Nat), .int .i64 ba] 49) = W := ⟨_, rfl⟩
  rw [hW] at hy hx14 hx12 hf12 hB hC hz
  clear hb hba hb2 HX12 HF12
  obtain ⟨z0, z1, zf⟩ := id hz
  obtain ⟨y0, y1, yf⟩ := id hy
  have ny1 : bf ≠ w14.heap.size := by omega
  have ny2 : w14.heap.size ≠ bf := by omega
  by_cases h0 : ac = 0
  · have hor : orE (ac, aa) (bc, ba) = (bc, ba) := by unfold orE; rw [if_neg (by simp [h0])]
    rw [hor] at hf12
    have hx15 := hx12.flt hz (.int .i64 (bc : Nat)) (.int .i64 ba)
    have hx16 := hx14.flt hz (.int .i64 (bc : Nat)) (.int .i64 ba)
    have hf15 := hf12.flt hz (.int .i64 (bc : Nat)) (.int .i64 ba)
    have hz2 := hz.sto (.int .i64 (bc : Nat)) (.int .i64 ba)
    have hB2 := below_sto2 hB (b := bf) (by omega) (.int .i64 (bc : Nat)) (.int .i64 ba)
    obtain ⟨q0, q1, qf⟩ := id hz2
    subst h0
    by_cases h5 : bc = 0
    · obtain rfl : ev11 = .nilIface := by
        rcases fault_form hf12 with ⟨_, h⟩ | ⟨h, _⟩
        · exact h
        · exact absurd h5 h
      have hsm := sameMods_calls _ _ _ _ _ hx15 hx16
      rw [if_pos ⟨rfl, h5⟩] at HS
      rw [← HS.out] at hsm
      have hb5 : ¬ (0 : Int) < (bc : Int) := by omega
      replace hsm := Lib.hid hsm
      clear hx12 hx14 hx15 hx16 hf12 hf15 hor hz hy hB hC hfA hfB hE HEE h5
      go_wp2_with fail
      generalize (w15.setCell ⟨bf, 0, none⟩ (.int .i64 (bc : Nat))).setCell ⟨bf, 1, none⟩ (.int .i64 ba) = w16 at *
      refine hsm.out.mono ?_
      rintro e w17 ⟨rfl, hb⟩
      replace hB2 := below_step hB2 hb
      clear hb hsm z0 z1 zf hz2 q0 q1 qf hW
      cases SR
      all_goals
        go_wp2_with fail
        go_ret
        exact ⟨rfl, hB2⟩
    · have hft := hfB.out _ _ hB2 hf15
      have hSF : SR = false := by rw [HS.out, if_neg (fun h => h5 h.2)]
      subst hSF
      have hb5 : (0 : Int) < (bc : Int) := by omega
      replace hft := Lib.hid hft
      clear hx12 hx14 hx15 hx16 hf12 hf15 hor hz hy hB hC hfA hfB hE HEE HS h5
      go_wp2_with fail
      generalize (w15.setCell ⟨bf, 0, none⟩ (.int .i64 (bc : Nat))).setCell ⟨bf, 1, none⟩ (.int .i64 ba) = w16 at *
      refine hft.out.mono ?_
      rintro e w17 ⟨rfl, hb⟩
      go_wp2_with fail
      go_ret
      exact ⟨rfl, below_step hB2 hb⟩
  · have hor : orE (ac, aa) (bc, ba) = (ac, aa) := by unfold orE; rw [if_pos h0]
    rw [hor] at hf12
    have hft := hfA.out _ _ hB hf12
    have hSF : SR = false := by rw [HS.out, if_neg (fun h => h0 h.1)]
    subst hSF
    have hb5 : (0 : Int) < (ac : Int) := by omega
    have hb6 : ((ac : Int) == 0) = false := beq_eq_false_iff_ne.2 (by omega)
    replace hft := Lib.hid hft
    clear hx12 hx14 hf12 hor hC hfA hfB hE HEE HS h0
    go_wp2_with fail
    refine hft.out.mono ?_
    rintro e w16 ⟨rfl, hb⟩
    go_wp2_with fail
    go_ret
    exact ⟨rfl, below_step hB hb⟩

set_option maxHeartbeats 4000000 in
theorem trimTells_calls (ks : List Nat) (A : Nat → Addr) (hks : IdxKs ks) (lv av bv : Value) (l : List En) (Am Bm : List Md) (w : World) (hE : EnvP ks A w) (hC : EnvC A w) (hl : EntsAt w lv l) (ha : ModsAt w av Am) (hb : ModsAt w bv Bm) :
    Calls Tryz.prog 7 #[lv, av, bv] w fun e w' => e = .returned (.bool true) ∧ Below w.heap.size w w' := by
  obtain ⟨la, ln, lc, P, V, R, K, Bk, Rv, Kv, rfl, rfl, hin⟩ := hl
  have H : TtArgs ks A la ln lc P V R K Bk Rv Kv av bv Am Bm w := ⟨hks, hE, hC, hin, ha, hb⟩
  cases h1 : longIdx (enF ln P V R K Bk)
  · by_cases h2 : ln ≤ 30
    · by_cases h3 : longMods Am 15 = false ∧ longMods Bm 15 = false
      · exact trimTells_main ks A la ln lc P V R K Bk Rv Kv av bv Am Bm w H h1 h2 h3.1 h3.2
      · exact trimTells_long ks A la ln lc P V R K Bk Rv Kv av bv Am Bm w H (.inr ⟨h1, .inr ⟨h2, h3⟩⟩)
    · exact trimTells_long ks A la ln lc P V R K Bk Rv Kv av bv Am Bm w H (.inr ⟨h1, .inl (by omega)⟩)
  · exact trimTells_long ks A la ln lc P V R K Bk Rv Kv av bv Am Bm w H (.inl h1)
end Go.Proofs.Pw

/- From a row's listed variables to what the walks ask: the sentinels, each at its own place; errors.errorType's handle. -/
namespace Go.Proofs.Pw
open Go.RowKit Go.ChangeShapes

/-- a sentinel's datum -/
def sentD (text : List UInt8) : DataW Unit := .iface "*errors.errorString" (.ptr (.agg [.lit (.string text)]))

theorem Tryz.star : "*" ++ "errors.errorString" = "*errors.errorString" := by decide
theorem Tryz.rowES : ∀ u, Tryz.prog.typeName? 3 u = some "*errors.errorString" → u = 271 := fun u h =>
  typeName_ptr_named (P := Tryz.prog) (nm := "errors.errorString") (by rw [Tryz.star]; kernel_rfl) (by kernel_rfl) (by decide) u (by rw [Tryz.star]; exact h)

section
variable {W : World}

set_option maxRecDepth 100000 in
theorem sent_mem {n : String} {text : List UInt8} : ∀ {l : List (String × DataW Unit)} {ps : List MemPlace}, DataW.LaidVars Tryz.prog W l ps →
    (∀ b off, MemPlace.cell b off ∈ ps → (∃ c t, W.heap[b]? = some (.cells c t (0, 0))) ∧ ∀ u v, W.cell? ⟨b, off, none⟩ = some (.iface u v) → Value.okWide Tryz.prog W .any 0 u v) →
    (n, sentD text) ∈ l → (∀ g, Tryz.prog.globalNamed n = some g → (Tryz.prog.globals[g]?).map (·.type) = some 29) →
    ∃ (g : Nat) (a : Addr), Tryz.prog.globalNamed n = some g ∧ W.cell? ⟨g, 0, none⟩ = some (.iface 271 (.pointer (some a))) ∧ MemPlace.cell a.block a.off ∈ ps
  | [], _, _, _, hm, _ => by cases hm
  | (n0, d0) :: r, ps, h, hrows, hm, ht => by
    obtain ⟨g, t, cs, fuel, p, q, hg, htt, hv, hd, hq, rfl⟩ := h
    rcases List.mem_cons.1 hm with he | hm
    · obtain ⟨rfl, rfl⟩ := Prod.mk.injEq .. ▸ he
      obtain rfl := Option.some.inj ((ht g hg).symm.trans htt)
      obtain ⟨l0⟩ := cs
      have ok0 : ∀ u v, l0 = [.iface u v] → Value.okWide Tryz.prog W .any 0 u v := fun u v e => by
        subst e
        exact (hrows g 0 (by simp [MemPlace.row])).2 u v (by simpa using World.var?_cell hg hv 0)
      obtain ⟨a, s, rfl, _, _, _, rfl⟩ := errorString_of_trod Tryz.underlying29 Tryz.rowES Tryz.underlying271 Tryz.underlying273 rfl rfl Tryz.underlying9 (by kernel_rfl) (by kernel_rfl) hd ok0
      exact ⟨g, a, hg, by simpa using World.var?_cell hg hv 0, by simp [MemPlace.row]⟩
    · obtain ⟨g', a, h1, h2, h3⟩ := sent_mem hq (fun b off hm => hrows b off (List.mem_append_right _ hm)) hm ht
      exact ⟨g', a, h1, h2, List.mem_append_right _ h3⟩

set_option maxRecDepth 100000 in
theorem sent_ne {n n' : String} {text text' : List UInt8} (hnn : n ≠ n') : ∀ {l : List (String × DataW Unit)} {ps : List MemPlace}, DataW.LaidVars Tryz.prog W l ps → ps.Nodup →
    (∀ b off, MemPlace.cell b off ∈ ps → (∃ c t, W.heap[b]? = some (.cells c t (0, 0))) ∧ ∀ u v, W.cell? ⟨b, off, none⟩ = some (.iface u v) → Value.okWide Tryz.prog W .any 0 u v) →
    (n, sentD text) ∈ l → (n', sentD text') ∈ l → (∀ g, Tryz.prog.globalNamed n = some g → (Tryz.prog.globals[g]?).map (·.type) = some 29) → (∀ g, Tryz.prog.globalNamed n' = some g → (Tryz.prog.globals[g]?).map (·.type) = some 29) →
    ∀ (g g' : Nat) (a a' : Addr), Tryz.prog.globalNamed n = some g → Tryz.prog.globalNamed n' = some g' → W.cell? ⟨g, 0, none⟩ = some (.iface 271 (.pointer (some a))) → W.cell? ⟨g', 0, none⟩ = some (.iface 271 (.pointer (some a'))) → a ≠ a'
  | [], _, _, _, _, hm, _, _, _ => by cases hm
  | (n0, d0) :: r, ps, h, hnd, hrows, hm, hm', ht, ht' => by
    intro g g' a a' hg hg' hc hc'
    obtain ⟨g0, t0, cs, fuel, p, q, hg0, htt, hv, hd, hq, rfl⟩ := h
    have hrq : ∀ b off, MemPlace.cell b off ∈ q → (∃ c t, W.heap[b]? = some (.cells c t (0, 0))) ∧ ∀ u v, W.cell? ⟨b, off, none⟩ = some (.iface u v) → Value.okWide Tryz.prog W .any 0 u v := fun b off hm => hrows b off (List.mem_append_right _ hm)
    have head : ∀ {m : String} {tx : List UInt8} {gm : Nat} {am : Addr}, (m, sentD tx) = (n0, d0) → (∀ g, Tryz.prog.globalNamed m = some g → (Tryz.prog.globals[g]?).map (·.type) = some 29) → Tryz.prog.globalNamed m = some gm → W.cell? ⟨gm, 0, none⟩ = some (.iface 271 (.pointer (some am))) → MemPlace.cell am.block am.off ∈ p := by
      intro m tx gm am he htm hgm hcm
      obtain ⟨rfl, rfl⟩ := Prod.mk.injEq .. ▸ he
      obtain rfl := Option.some.inj (hg0.symm.trans hgm)
      obtain rfl := Option.some.inj ((htm g0 hg0).symm.trans htt)
      obtain ⟨l0⟩ := cs
      have ok0 : ∀ u v, l0 = [.iface u v] → Value.okWide Tryz.prog W .any 0 u v := fun u v e => by
        subst e
        exact (hrows g0 0 (by simp [MemPlace.row])).2 u v (by simpa using World.var?_cell hg0 hv 0)
      obtain ⟨a1, s, rfl, _, _, _, rfl⟩ := errorString_of_trod Tryz.underlying29 Tryz.rowES Tryz.underlying271 Tryz.underlying273 rfl rfl Tryz.underlying9 (by kernel_rfl) (by kernel_rfl) hd ok0
      have e := World.var?_cell hg0 hv 0
      rw [hcm] at e
      simp at e
      subst e
      simp [MemPlace.row]
    have tail : ∀ {m : String} {tx : List UInt8} {gm : Nat} {am : Addr}, (m, sentD tx) ∈ r → (∀ g, Tryz.prog.globalNamed m = some g → (Tryz.prog.globals[g]?).map (·.type) = some 29) → Tryz.prog.globalNamed m = some gm → W.cell? ⟨gm, 0, none⟩ = some (.iface 271 (.pointer (some am))) → MemPlace.cell am.block am.off ∈ q := by
      intro m tx gm am hmm htm hgm hcm
      obtain ⟨g2, a2, h1, h2, h3⟩ := sent_mem hq hrq hmm htm
      obtain rfl := Option.some.inj (hgm.symm.trans h1)
      rw [hcm] at h2
      simp at h2
      subst h2
      exact h3
    rw [List.nodup_append] at hnd
    have hpq : ∀ x, x ∈ p → x ∈ q → False := fun x hx hy => hnd.2.2 x (List.mem_append_right _ hx) x hy rfl
    rcases List.mem_cons.1 hm with he | hm
    · rcases List.mem_cons.1 hm' with he' | hm'
      · exact absurd ((Prod.mk.inj he).1.trans (Prod.mk.inj he').1.symm) hnn
      · intro e
        subst e
        exact hpq _ (head he ht hg hc) (tail hm' ht' hg' hc')
    · rcases List.mem_cons.1 hm' with he' | hm'
      · intro e
        subst e
        exact hpq _ (head he' ht' hg' hc') (tail hm ht hg hc)
      · exact sent_ne hnn hq hnd.2.1 hrq hm hm' ht ht' g g' a a' hg hg' hc hc'
end

/-- where the sentinel of a number lies, in a world -/
def errA (W : World) (k : Nat) : Addr := match W.cell? ⟨errG k, 0, none⟩ with
  | some (.iface _ (.pointer (some a))) => a
  | _ => default

/-- THE SENTINELS OF A LIST: names and texts by number. -/
theorem envE_of {W : World} {l : List (String × DataW Unit)} (h : laidMet Tryz.prog l W) (ks : List Nat) (nm : Nat → String) (tx : Nat → List UInt8)
    (hm : ∀ k ∈ ks, (nm k, sentD (tx k)) ∈ l) (hg : ∀ k ∈ ks, Tryz.prog.globalNamed (nm k) = some (errG k)) (ht : ∀ k ∈ ks, (Tryz.prog.globals[errG k]?).map (·.type) = some 29)
    (hne : ∀ j ∈ ks, ∀ k ∈ ks, j ≠ k → nm j ≠ nm k) : EnvE ks (errA W) W := by
  obtain ⟨ps, hv, hnd, hrows⟩ := h
  have htt : ∀ k ∈ ks, ∀ g, Tryz.prog.globalNamed (nm k) = some g → (Tryz.prog.globals[g]?).map (·.type) = some 29 := fun k hk g h => by
    obtain rfl := Option.some.inj ((hg k hk).symm.trans h)
    exact ht k hk
  have cell : ∀ k ∈ ks, W.cell? ⟨errG k, 0, none⟩ = some (.iface 271 (.pointer (some (errA W k)))) ∧ MemPlace.cell (errA W k).block (errA W k).off ∈ ps := fun k hk => by
    obtain ⟨g, a, h1, h2, h3⟩ := sent_mem hv hrows (hm k hk) (htt k hk)
    obtain rfl := Option.some.inj ((hg k hk).symm.trans h1)
    have e : errA W k = a := by unfold errA; rw [h2]
    rw [e]
    exact ⟨h2, h3⟩
  refine ⟨fun k hk => (cell k hk).1, fun k hk => (hrows _ _ (cell k hk).2).1, fun j hj k hk e => ?_⟩
  rcases Nat.decEq j k with hjk | hjk
  · exact absurd e (sent_ne (hne j hj k hk hjk) hv hnd hrows (hm j hj) (hm k hk) (htt j hj) (htt k hk) _ _ _ _ (hg j hj) (hg k hk) (cell j hj).1 (cell k hk).1)
  · exact hjk

theorem Tryz.et : Tryz.prog.globalNamed "errors.errorType" = some 10 := by kernel_rfl
theorem Tryz.rt : (Tryz.prog.cutTypes.find? (·.1 == "internal/reflectlite.rtype")).map (·.2) = some 204 := by kernel_rfl
theorem Tryz.oneRow : ((List.range 309).filter fun t => Tryz.prog.rowNamed t [101, 114, 114, 111, 114]) = [29] := by kernel_rfl
theorem Tryz.typesSize : Tryz.prog.types.size = 309 := by kernel_rfl

/-- errors.errorType's cell -/
theorem handle_of {W : World} {hs : List (String × DataW Unit)} (h : handlesMet Tryz.prog hs W)
    (hm : ("errors.errorType", (.iface "internal/reflectlite.rtype" (.agg [.ptr (.lit (.string [101, 114, 114, 111, 114]))]) : DataW Unit)) ∈ hs) :
    W.cell? ⟨10, 0, none⟩ = some (.iface 204 (.agg #[.pointer (some ⟨19, 29, none⟩)])) := by
  obtain ⟨name, u, ty, e1, e2, e3, e4, e5⟩ := h _ hm
  have en : name = [101, 114, 114, 111, 114] := (Option.some.inj e1).symm
  subst en
  obtain rfl := Option.some.inj (Tryz.rt.symm.trans e2)
  have hmm : ty ∈ (List.range 309).filter fun t => Tryz.prog.rowNamed t [101, 114, 114, 111, 114] := List.mem_filter.2 ⟨List.mem_range.2 (by rw [← Tryz.typesSize]; exact e3), e4⟩
  rw [Tryz.oneRow] at hmm
  obtain rfl := List.mem_singleton.1 hmm
  have hh : typeHandle Tryz.prog 29 = .pointer (some ⟨19, 29, none⟩) := by kernel_rfl
  rw [hh] at e5
  simpa using World.var?_cell Tryz.et e5 0
end Go.Proofs.Pw

/- From a row's listed variables to what packages ver and mod ask: the sentinels, strconv.ErrRange, the table of powers. -/
namespace Go.Proofs.Pw
open Go.RowKit Go.ChangeShapes

theorem tab_mem {W : World} {n : String} {k : IntKind} {zs : List Int} {g : Nat} {t e : TypeId} {m : Nat}
    (hg : Tryz.prog.globalNamed n = some g) (hty : (Tryz.prog.globals[g]?).map (·.type) = some t) (ht : Tryz.prog.underlying t = some (.array m e)) (he : Tryz.prog.underlying e = some (.int k)) (hce : Tryz.prog.cellsOf e = 1) (hct : Tryz.prog.cellsOf t = m) :
    ∀ {l : List (String × DataW Unit)} {ps : List MemPlace}, DataW.LaidVars Tryz.prog W l ps → (n, Lib.tabData k zs) ∈ l → Lib.TabIs Tryz.prog W n k zs
  | [], _, _, hm => by cases hm
  | (n0, d0) :: r, ps, h, hm => by
    obtain ⟨g', t', cs, fuel, p, q, hg', ht', hvar, hd, hq, rfl⟩ := h
    rcases List.mem_cons.1 hm with heq | hm
    · obtain ⟨rfl, rfl⟩ := Prod.mk.injEq .. ▸ heq
      obtain rfl := Option.some.inj (hg.symm.trans hg')
      obtain rfl := Option.some.inj (hty.symm.trans ht')
      unfold Lib.TabIs
      rw [hvar, ← Lib.cells_of_tab ht he hce hct hd]
    · exact tab_mem hg hty ht he hce hct hq hm

/-- an error's name and text by its number -/
def errNm : Nat → String
  | 1 => "pewholder/api.ErrText" | 2 => "pewholder/api.ErrBound" | 3 => "pewholder/api.ErrShape" | 4 => "pewholder/api.ErrMajor" | 5 => "pewholder/api.ErrNone"
  | 6 => "pewholder/api.ErrExist" | 7 => "pewholder/api.ErrFull" | 8 => "pewholder/api.ErrOrder" | 9 => "pewholder/api.ErrClash" | _ => "pewholder/api.ErrSum"
def errTx : Nat → List UInt8
  | 1 => [112, 101, 119, 104, 111, 108, 100, 101, 114, 58, 32, 116, 101, 120, 116]
  | 2 => [112, 101, 119, 104, 111, 108, 100, 101, 114, 58, 32, 98, 111, 117, 110, 100]
  | 3 => [112, 101, 119, 104, 111, 108, 100, 101, 114, 58, 32, 115, 104, 97, 112, 101]
  | 4 => [112, 101, 119, 104, 111, 108, 100, 101, 114, 58, 32, 109, 97, 106, 111, 114]
  | 5 => [112, 101, 119, 104, 111, 108, 100, 101, 114, 58, 32, 110, 111, 110, 101]
  | 6 => [112, 101, 119, 104, 111, 108, 100, 101, 114, 58, 32, 101, 120, 105, 115, 116]
  | 7 => [112, 101, 119, 104, 111, 108, 100, 101, 114, 58, 32, 102, 117, 108, 108]
  | 8 => [112, 101, 119, 104, 111, 108, 100, 101, 114, 58, 32, 111, 114, 100, 101, 114]
  | 9 => [112, 101, 119, 104, 111, 108, 100, 101, 114, 58, 32, 99, 108, 97, 115, 104]
  | _ => [112, 101, 119, 104, 111, 108, 100, 101, 114, 58, 32, 115, 117, 109]
def rangeTx : List UInt8 := [118, 97, 108, 117, 101, 32, 111, 117, 116, 32, 111, 102, 32, 114, 97, 110, 103, 101]

theorem maxLenEnv {W : World} (h : W.ShapedOpen Tryz.prog) : EnvM W := by
  obtain ⟨m, hm⟩ := Tryz.laysM143.s1_3 W h
  exact ⟨m, hm⟩

theorem envP_of {W : World} {l : List (String × DataW Unit)} (h : laidMet Tryz.prog l W) (hsh : W.ShapedOpen Tryz.prog) (ks : List Nat) (hks : 1 ∈ ks ∧ 2 ∈ ks)
    (hm : ∀ k ∈ ks, (errNm k, sentD (errTx k)) ∈ l) (hg : ∀ k ∈ ks, Tryz.prog.globalNamed (errNm k) = some (errG k)) (ht : ∀ k ∈ ks, (Tryz.prog.globals[errG k]?).map (·.type) = some 29)
    (hne : ∀ j ∈ ks, ∀ k ∈ ks, j ≠ k → errNm j ≠ errNm k) (hr : ("strconv.ErrRange", sentD rangeTx) ∈ l) (hp : ("internal/strconv.uint64pow10", Lib.tabData .u64 Lib.pow10Tab) ∈ l) : EnvP ks (errA W) W := by
  refine { m := maxLenEnv hsh, errs := envE_of h ks errNm errTx hm hg ht hne, has := hks, range := ?_, pow10 := ?_ }
  · obtain ⟨ps, hv, hnd, hrows⟩ := h
    obtain ⟨g, a, h1, h2, _⟩ := sent_mem hv hrows hr (fun g hg => by
      obtain rfl := Option.some.inj ((show Tryz.prog.globalNamed "strconv.ErrRange" = some 13 by kernel_rfl).symm.trans hg)
      kernel_rfl)
    obtain rfl := Option.some.inj ((show Tryz.prog.globalNamed "strconv.ErrRange" = some 13 by kernel_rfl).symm.trans h1)
    exact ⟨_, _, h2⟩
  · obtain ⟨ps, hv, _, _⟩ := h
    exact tab_mem (g := 16) (by kernel_rfl) (by kernel_rfl) (Tryz.underlying275) (Tryz.underlying165) (by kernel_rfl) (by kernel_rfl) hv hp

/-- a slice of texts that came in -/
theorem strsAt_open {w : World} {a : Addr} {len cap : Nat} {ss : List ByteArray} (hl : len ≤ cap) (hm : cap ≤ maxLen) (hlen : len ≤ ss.length) (hc : ∀ i, i < ss.length → w.cell? (a.add i) = some (.string (ss.getD i ByteArray.empty))) :
    StrsAt w (.slice (some a) len cap) (lstF len fun j => ss.getD j ByteArray.empty) := by
  refine ⟨some a, len, cap, _, rfl, rfl, hl, by unfold maxLen at hm; exact hm, fun j hj => ?_⟩
  have h0 := hc 0 (by omega)
  have hs : a.spot = none := by
    have e : a.add 0 = a := rfl
    rw [e] at h0
    unfold World.cell? at h0
    split at h0
    · split at h0
      · cases h0
      · rename_i h
        simpa using h
    · cases h0
  obtain ⟨b, o, s⟩ := a
  obtain rfl : s = none := hs
  refine ⟨b, o, rfl, ?_⟩
  have := hc j (by omega)
  have e : (⟨b, o, none⟩ : Addr).add j = ⟨b, o + j, none⟩ := by unfold Addr.add; split <;> simp_all
  rw [e] at this
  exact this

theorem wf64 {x : Int} (h : (Lit.int .i64 x).wf = true) : -9223372036854775808 ≤ x ∧ x ≤ 9223372036854775807 := by
  unfold Lit.wf at h
  simp only [Bool.and_eq_true, decide_eq_true_eq] at h
  exact h

set_option maxRecDepth 100000 in
theorem strsOpen {H : Type} {enc : TypeId × Value → H} {W : World} {base : Nat} {v : Value} {d : DataW H} {p : List MemPlace} (hv : Value.okWide Tryz.prog W .any base 41 v)
    (h : DataW.Trod enc Tryz.prog W 0 (fun _ => true) true 41 v d p) : ∃ l, StrsAt W v l := by
  obtain ⟨a0, len, cap, rfl⟩ := WideShapes.okWide_slice Tryz.underlying41 hv
  obtain ⟨fuel, hf⟩ := h
  rcases ChangeShapes.open_strings Tryz.underlying41 Tryz.underlying9 (by kernel_rfl) hf with ⟨hcs, _⟩ | ⟨a, len', cap', ss, hcs, _, hl, hm, hz, _, hcell, _⟩
  · simp [Value.cells] at hcs
    obtain ⟨rfl, rfl, rfl⟩ := hcs
    exact ⟨[], StrsAt.nil W⟩
  · simp [Value.cells] at hcs
    obtain ⟨rfl, rfl, rfl⟩ := hcs
    exact ⟨_, strsAt_open hl hm (by rw [hz, if_pos rfl]; exact hl) hcell⟩
end Go.Proofs.Pw

/- Arguments of the statements: a module, a slice of modules, as they lie in memory. -/
namespace Go.Proofs.Pw
open Go.RowKit Go.ChangeShapes Go.WideShapes

theorem spot_none {w : World} {a : Addr} {v : Value} (h : w.cell? a = some v) : a.spot = none := by
  unfold World.cell? at h
  split at h
  · split at h
    · cases h
    · rename_i hs
      simpa using hs
  · cases h
theorem add_off (b o i : Nat) : (⟨b, o, none⟩ : Addr).add i = ⟨b, o + i, none⟩ := by unfold Addr.add; split <;> simp_all
set_option maxRecDepth 100000 in
/-- a module's two cells -/
theorem mdTrod {H : Type} {enc : TypeId × Value → H} {w : World} {base : Nat} {spare : Nat → Bool} {held : Bool} {fuel : Nat} {cs : List Value} {x : DataW H × List MemPlace}
    (h : DataW.trod enc Tryz.prog w base spare held fuel 38 cs = some x) : ∃ p v : ByteArray, cs = [.string p, .string v] := by
  obtain ⟨xs, n, _, _, hl, hx, hf⟩ := DataW.trod_struct Tryz.underlying38 h
  have hc : Tryz.prog.cellsOf 38 = 2 := by kernel_rfl
  have hs : Tryz.prog.cellsOf 9 = 1 := by kernel_rfl
  have h0 : DataW.trod enc Tryz.prog w base spare held n 9 ((cs.drop 0).take (Tryz.prog.cellsOf 9)) = xs[0]? := hf 0 _ rfl
  have h1 : DataW.trod enc Tryz.prog w base spare held n 9 ((cs.drop 1).take (Tryz.prog.cellsOf 9)) = xs[1]? := hf 1 _ rfl
  match cs, hl.trans hc with
  | [c0, c1], _ =>
    rw [hs] at h0 h1
    match xs, hx with
    | [x0, x1], _ =>
      obtain ⟨p, e0, _⟩ := DataW.trod_string Tryz.underlying9 h0
      obtain ⟨v, e1, _⟩ := DataW.trod_string Tryz.underlying9 h1
      simp at e0 e1
      exact ⟨p, v, by rw [e0, e1]⟩

set_option maxRecDepth 100000 in
theorem mdOpen {H : Type} {enc : TypeId × Value → H} {W : World} {base : Nat} {v : Value} {d : DataW H} {p : List MemPlace} (hv : Value.okWide Tryz.prog W .any base 38 v)
    (h : DataW.Trod enc Tryz.prog W 0 (fun _ => true) true 38 v d p) : ∃ p v' : ByteArray, v = .agg #[.string p, .string v'] := by
  obtain ⟨cs, rfl, _⟩ := okWide_struct Tryz.underlying38 hv
  obtain ⟨fuel, hf⟩ := h
  obtain ⟨p, v', e⟩ := mdTrod hf
  obtain ⟨l⟩ := cs
  simp [Value.cells] at e
  exact ⟨p, v', by rw [e]⟩

set_option maxRecDepth 100000 in
/-- the cells of a slice of modules -/
theorem modsCells {H : Type} {enc : TypeId × Value → H} {W : World} {fuel : Nat} {cs : List Value} {x : DataW H × List MemPlace}
    (h : DataW.trod enc Tryz.prog W 0 (fun _ => true) true fuel 23 cs = some x) : ∃ a n cap l, cs = [.slice a n cap] ∧ ModsAt W (.slice a n cap) l := by
  rcases Go.Deep.open_slice Tryz.underlying23 h with ⟨rfl, _⟩ | ⟨a, len, cap, m, n, D, Pl, rfl, _, hl, hm, hmm, _, hi⟩
  · exact ⟨none, 0, 0, [], rfl, ModsAt.nil W⟩
  · have hc : Tryz.prog.cellsOf 38 = 2 := by kernel_rfl
    rw [if_pos rfl] at hmm
    have key : ∀ i, i < len → ∃ p v : ByteArray, W.cell? (a.add (i * 2)) = some (.string p) ∧ W.cell? (a.add (i * 2 + 1)) = some (.string v) := fun i h => by
      obtain ⟨cs', h1, h2⟩ := hi i (by omega)
      rw [hc] at h1
      obtain ⟨p, v, rfl⟩ := mdTrod h2
      obtain ⟨_, _, hat⟩ := World.cells?_some h1
      have a0 := hat 0 (by decide)
      have a1 := hat 1 (by decide)
      rw [Go.Deep.add_add] at a0 a1
      exact ⟨p, v, a0, a1⟩
    classical
    let P : Nat → ByteArray := fun i => if h : i < len then (key i h).choose else ByteArray.empty
    let V : Nat → ByteArray := fun i => if h : i < len then (key i h).choose_spec.choose else ByteArray.empty
    refine ⟨some a, len, cap, mdF len P V, rfl, some a, len, cap, P, V, rfl, rfl, hl, by unfold maxLen at hm; exact hm, fun j hj => ?_⟩
    have h0 := (key j hj).choose_spec.choose_spec
    have hs : a.spot = none := by
      have := (key 0 (by omega)).choose_spec.choose_spec.1
      exact spot_none (a := a) this
    obtain ⟨b, o, s⟩ := a
    obtain rfl : s = none := hs
    refine ⟨b, o, rfl, ?_, ?_⟩
    · refine (congrArg W.cell? (add_off b o (j * 2)).symm).trans (h0.1.trans ?_)
      show _ = some (Value.string (if h : j < len then (key j h).choose else ByteArray.empty))
      rw [dif_pos hj]
    · refine (congrArg W.cell? (add_off b o (j * 2 + 1)).symm).trans (h0.2.trans ?_)
      show _ = some (Value.string (if h : j < len then (key j h).choose_spec.choose else ByteArray.empty))
      rw [dif_pos hj]
set_option maxRecDepth 100000 in
theorem modsOpen {H : Type} {enc : TypeId × Value → H} {W : World} {base : Nat} {v : Value} {d : DataW H} {p : List MemPlace} (hv : Value.okWide Tryz.prog W .any base 23 v)
    (h : DataW.Trod enc Tryz.prog W 0 (fun _ => true) true 23 v d p) : ∃ l, ModsAt W v l := by
  obtain ⟨a0, len, cap, rfl⟩ := okWide_slice Tryz.underlying23 hv
  obtain ⟨fuel, hf⟩ := h
  obtain ⟨a, n, c, l, e, hM⟩ := modsCells hf
  simp [Value.cells] at e
  obtain ⟨rfl, rfl, rfl⟩ := e
  exact ⟨l, hM⟩
end Go.Proofs.Pw
