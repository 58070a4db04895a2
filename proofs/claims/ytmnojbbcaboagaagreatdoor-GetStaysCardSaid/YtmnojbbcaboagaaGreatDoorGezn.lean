/- Ge: walks and plain laws, joined: LongArgs FileLine2 FileLine3 FileRead Filed SlBin FileSet FileDrop FileAway LongIdx LongMath. Conditions: at each theorem. -/
import Derived.Test.YtmnojbbcaboagaaGreatDoorGeu
import Derived.Test.YtmnojbbcaboagaaGreatDoorGezi
import Derived.Test.YtmnojbbcaboagaaGreatDoorGei
import Derived.Test.YtmnojbbcaboagaaGreatDoorGec
import Derived.Shelf.Abstract
import Derived.Test.YtmnojbbcaboagaaGreatDoorGem
import Derived.Test.YtmnojbbcaboagaaGreatDoorGey
import Derived.Test.YtmnojbbcaboagaaGreatDoorGel
import Derived.Test.YtmnojbbcaboagaaGreatDoorGez
import Derived.Test.YtmnojbbcaboagaaGreatDoorGeg
import Derived.Deep.RegionWith
import Derived.Test.YtmnojbbcaboagaaGreatDoorGej

namespace Go.Proofs.Pw
open Go.RowKit
open Go.Lib hiding intOf
def longArgs (l : List Str) : Bool := decide (12 < l.length) || l.any fun s => decide (80 < s.length)
theorem longArgs_short {l : List Str} (h : longArgs l = false) : l.length ≤ 12 ∧ ∀ s ∈ l, s.length ≤ 80 := by
  unfold longArgs at h
  rw [Bool.or_eq_false_iff] at h
  refine ⟨by have := of_decide_eq_false h.1; omega, fun s hs => ?_⟩
  have := List.any_eq_false.1 h.2 s hs
  simp at this
  exact this
set_option maxHeartbeats 4000000 in
set_option maxRecDepth 100000 in
theorem longArgs_calls (v : Value) (l : List Str) (w : World) (h : StrsAt w v l) :
    Calls Tryz.prog 8 #[v] w fun e w' => e = .returned (.bool (longArgs l)) ∧ w = w' := by
  obtain ⟨a, n, c, L, rfl, rfl, h3, h4, hat⟩ := h
  have hnb : n ≤ 9223372036854775807 := Nat.le_trans h3 h4
  have HAT := Lib.hid hat
  clear hat h3 h4
  by_cases h1 : 12 < n
  · have h1' : (12 : Int) < (n : Int) := by omega
    have HF : Hid (longArgs (lstF n L) = true) := Lib.hid (by unfold longArgs; rw [lstF_length, decide_eq_true h1]; rfl)
    clear h1
    go_enter Tryz.func8, Tryz.ntmps8
    go_wp2_with fail
    go_ret
    rw [HF.out]
    exact ⟨rfl, rfl⟩
  · have h1' : ¬ (12 : Int) < (n : Int) := by omega
    have HN1 : Hid (decide (12 < n) = false) := Lib.hid (decide_eq_false h1)
    clear h1
    go_enter Tryz.func8, Tryz.ntmps8
    go_wp2_with fail
    go_loop [3] (fun i => ∃ k : Nat, k ≤ n ∧ i = .int .i64 k ∧ Hid (∀ j, j < k → (L j).size ≤ 80)) (fun i => n - (intOf i).toNat)
    case atStart => exact ⟨0, Nat.zero_le _, rfl, Lib.hid (fun j hj => absurd hj (Nat.not_lt_zero _))⟩
    case round =>
      obtain ⟨k, hk, rfl, HA⟩ := hrel
      by_cases hlt : k < n
      · have hkn : (k : Int) < (n : Int) := by omega
        obtain ⟨b1, o1, ea, c0⟩ := HAT.out k hlt
        subst ea
        by_cases hs : 80 < (L k).size
        · have hs' : (80 : Int) < ((L k).size : Int) := by omega
          have HF : Hid (longArgs (lstF n L) = true) := Lib.hid (by
            unfold longArgs
            rw [lstF_length, HN1.out, Bool.false_or]
            exact List.any_eq_true.2 ⟨_, List.mem_of_getElem? (lstF_get n L k hlt), decide_eq_true (by rw [← size_eq]; exact hs)⟩)
          clear hs
          go_wp2_with fail
          go_ret
          rw [HF.out]
          exact ⟨rfl, rfl⟩
        · have hs' : ¬ (80 : Int) < ((L k).size : Int) := by omega
          have HB : Hid (∀ j, j < k + 1 → (L j).size ≤ 80) := Lib.hid (fun j hj => by
            by_cases e : j = k
            · subst e; omega
            · exact HA.out j (by omega))
          clear hs
          go_wp2_with fail
          go_round
          case rel => exact ⟨k + 1, by omega, by go_num, HB⟩
          case measure => simp [intOf]; omega
      · obtain rfl : k = n := by omega
        have hkn : ¬ (k : Int) < (k : Int) := by omega
        have HF : Hid (longArgs (lstF k L) = false) := Lib.hid (by
          unfold longArgs
          rw [lstF_length, HN1.out, Bool.false_or]
          refine List.any_eq_false.2 fun s hs => ?_
          obtain ⟨j, hj⟩ := List.mem_iff_getElem?.1 hs
          have hjl : j < k := by have := (List.getElem?_eq_some_iff.1 hj).1; rwa [lstF_length] at this
          rw [lstF_get k L j hjl] at hj
          rw [← Option.some.inj hj]
          have := HA.out j hjl
          rw [size_eq] at this
          simp
          exact this)
        clear hlt hk
        go_wp2_with fail
        go_ret
        rw [HF.out]
        exact ⟨rfl, rfl⟩
end Go.Proofs.Pw

namespace Go.Proofs.Pw
open Go.RowKit
open Go.Lib hiding intOf
end Go.Proofs.Pw

namespace Go.Proofs.Pw
open Go.RowKit
open Go.Lib hiding intOf
end Go.Proofs.Pw

namespace Go.Proofs.Pw
open Go.RowKit
open Go.Lib hiding intOf
end Go.Proofs.Pw

namespace Go.Proofs.Pw
open Go.RowKit
open Go.Lib hiding intOf
end Go.Proofs.Pw

namespace Go.Proofs.Pw
open Go.RowKit
open Go.Lib hiding intOf
end Go.Proofs.Pw

namespace Go.Proofs.Pw
open Go.RowKit
open Go.Lib hiding intOf
def st3 (w : World) (b : Nat) (u0 u1 u2 : Value) : World := ((w.setCell ⟨b, 0, none⟩ u0).setCell ⟨b, 1, none⟩ u1).setCell ⟨b, 2, none⟩ u2
theorem Box3f.st {w : World} {b : Nat} {v0 v1 v2 : Value} (h : Box3f w b v0 v1 v2) (u0 u1 u2 : Value) : Box3f (st3 w b u0 u1 u2) b u0 u1 u2 := ((h.set0 u0).set1 u1).set2 u2
theorem Box3f.sto {w : World} {b c : Nat} {v0 v1 v2 : Value} (h : Box3f w b v0 v1 v2) (hc : b ≠ c) (u0 u1 u2 : Value) : Box3f (st3 w c u0 u1 u2) b v0 v1 v2 := ((h.other hc u0).other hc u1).other hc u2
theorem ModsAt.sto {w : World} {v : Value} {l : List Md} {c : Nat} (h : ModsAt w v l) (hc : ∀ q n m, v = .slice (some q) n m → q.block ≠ c) (u0 u1 u2 : Value) : ModsAt (st3 w c u0 u1 u2) v l := ((h.other hc u0).other hc u1).other hc u2
theorem Box3f.grownBy {w w' : World} {b : Nat} {v0 v1 v2 : Value} {r : Option Nat} (h : Box3f w b v0 v1 v2) (hg : w.grownBy w' r) (hr : some b ≠ r) : Box3f w' b v0 v1 v2 :=
  ⟨hg.cell h.c0 hr, hg.cell h.c1 hr, hg.cell h.c2 hr, fun i => (hg.frozen_far ⟨b, i, none⟩ (show b < w.heap.size from lt_of_cell h.c0) hr).trans (h.fz i)⟩
end Go.Proofs.Pw

namespace Go.Proofs.Pw
open Go.RowKit
open Go.Lib hiding intOf
end Go.Proofs.Pw

namespace Go.Proofs.Pw
open Go.RowKit
open Go.Lib hiding intOf
theorem longMods_no {l : List Md} {k : Nat} (h : longMods l k = false) : l.length ≤ k ∧ ∀ m ∈ l, m.1.length ≤ 70 ∧ m.2.length ≤ 60 := by
  unfold longMods at h
  rw [Bool.or_eq_false_iff] at h
  refine ⟨by have := of_decide_eq_false h.1; omega, fun m hm => ?_⟩
  have h2 := List.any_eq_false.1 h.2 m hm
  simp only [Bool.or_eq_true, decide_eq_true_eq] at h2
  omega
end Go.Proofs.Pw

namespace Go.Proofs.Pw
open Go.RowKit
open Go.Lib hiding intOf
def longEn (e : En) : Bool := decide (70 < e.md.1.length) || (decide (60 < e.md.2.length) || (longMods e.reqs 25 || (decide (15 < e.packs.length) || e.packs.any fun s => decide (70 < s.length))))
def longIdx (l : List En) : Bool := decide (30 < l.length ∧ l.length ≠ 101) || l.any longEn
def longII (l : List En) : Int := if longIdx l = true then 1 else 0
theorem longIdx_hit {l : List En} {k : Nat} (hk : k < l.length) (h : longEn (enAt l k) = true) : longII l = 1 := by
  unfold longII longIdx
  rw [if_pos]
  rw [Bool.or_eq_true]
  exact .inr (List.any_eq_true.2 ⟨_, enAt_mem hk, h⟩)
theorem longIdx_none {l : List En} (h0 : ¬ (30 < l.length ∧ l.length ≠ 101)) (h : ∀ j, j < l.length → longEn (enAt l j) = false) : longII l = 0 := by
  unfold longII longIdx
  rw [if_neg]
  rw [Bool.or_eq_true]
  rintro (h1 | h1)
  · exact h0 (of_decide_eq_true h1)
  · obtain ⟨e, he, h2⟩ := List.any_eq_true.1 h1
    obtain ⟨i, hi⟩ := List.getElem?_of_mem he
    have hl := (List.getElem?_eq_some_iff.1 hi).1
    rw [enAt_get hl] at hi
    rw [← Option.some.inj hi, h i hl] at h2
    cases h2
set_option maxHeartbeats 4000000 in
set_option maxRecDepth 100000 in
theorem longIndex_in (a : Option Addr) (n cap : Nat) (P V : Nat → ByteArray) (R : Nat → List Md) (K : Nat → List Str) (Bk : Nat → Bool) (Rv Kv : Nat → Value) (w : World) (h : EntsIn w a n cap P V R K Bk Rv Kv) :
    Calls Tryz.prog 6 #[.slice a n cap] w fun e w' => e = .returned (.int .i64 (longII (enF n P V R K Bk))) ∧ w = w' := by
  have hcap := h.cap
  have hle := h.le
  have H := Lib.hid h
  clear h
  by_cases h30 : 30 < n ∧ n ≠ 101
  · have HF : Hid (longII (enF n P V R K Bk) = 1) := Lib.hid (by
      unfold longII longIdx
      rw [if_pos]
      rw [Bool.or_eq_true, enF_length]
      exact .inl (decide_eq_true h30))
    have h1 : (30 : Int) < (n : Int) := by omega
    have h2 : ((n : Int) != 101) = true := bne_iff_ne.2 (by omega)
    have h3 : ((n : Int) == 101) = false := beq_eq_false_iff_ne.2 (by omega)
    clear h30
    go_enter Tryz.func6, Tryz.ntmps6
    go_wp2_with fail
    go_ret
    rw [HF.out]
    exact ⟨rfl, rfl⟩
  · have hn101 : n ≤ 101 := by omega
    by_cases h31 : n = 101
    · have h1 : (30 : Int) < (n : Int) := by omega
      have h2 : ((n : Int) != 101) = false := by subst h31; rfl
      have h3 : ((n : Int) == 101) = true := by subst h31; rfl
      clear h31
      go_enter Tryz.func6, Tryz.ntmps6
      go_wp2_with fail
      go_loop [3] (fun i => ∃ k : Nat, k ≤ n ∧ i = .int .i64 k ∧ Hid (∀ j, j < k → longEn (enAt (enF n P V R K Bk) j) = false)) (fun i => n - (intOf i).toNat)
      case atStart => exact ⟨0, Nat.zero_le _, rfl, Lib.hid (fun j hj => absurd hj (Nat.not_lt_zero _))⟩
      case round =>
        obtain ⟨k, hk, rfl, HA⟩ := hrel
        by_cases hlt : k < n
        · have hkn : (k : Int) < (n : Int) := by omega
          obtain ⟨b1, o1, ea, hcell⟩ := H.out.at_ k hlt
          have hM := H.out.reqs k hlt
          obtain ⟨aK, nK, cK, LK, eK, eKl, _, _, hKc⟩ := H.out.packs k hlt
          obtain ⟨aM, nM, cM, _, _, eM, _⟩ := id hM
          rw [eM, eK] at hcell
          rw [eM] at hM
          have hlm := longMods_calls (.slice aM nM cM) (R k) 25 w hM
          have hEn : longEn (enAt (enF n P V R K Bk) k) = (decide (70 < (P k).size) || (decide (60 < (V k).size) || (longMods (R k) 25 || (decide (15 < nK) || (lstF nK LK).any fun s => decide (70 < s.length))))) := by
            rw [enAt_enF hlt]
            unfold longEn
            simp only [← size_eq, eKl, lstF_length]
          have hhit : longEn (enAt (enF n P V R K Bk) k) = true → longII (enF n P V R K Bk) = 1 := longIdx_hit (by rw [enF_length]; exact hlt)
          subst ea
          obtain ⟨d0, d1, d2, d3, d4⟩ := hcell
          replace hhit := Lib.hid hhit
          replace hEn := Lib.hid hEn
          replace hlm := Lib.hid hlm
          replace hKc := Lib.hid hKc
          clear hM eM eK eKl
          by_cases c1 : 70 < (P k).size
          · have HF : Hid (longII (enF n P V R K Bk) = 1) := Lib.hid (hhit.out (by rw [hEn.out, decide_eq_true c1]; rfl))
            have c1' : (70 : Int) < ((P k).size : Int) := by omega
            go_wp2_with fail
            go_ret
            rw [HF.out]
            exact ⟨rfl, rfl⟩
          · have c1' : ¬ (70 : Int) < ((P k).size : Int) := by omega
            by_cases c2 : 60 < (V k).size
            · have HF : Hid (longII (enF n P V R K Bk) = 1) := Lib.hid (hhit.out (by rw [hEn.out, decide_eq_false c1, decide_eq_true c2]; rfl))
              have c2' : (60 : Int) < ((V k).size : Int) := by omega
              go_wp2_with fail
              go_ret
              rw [HF.out]
              exact ⟨rfl, rfl⟩
            · have c2' : ¬ (60 : Int) < ((V k).size : Int) := by omega
              cases c3 : longMods (R k) 25 with
              | true =>
                have HF : Hid (longII (enF n P V R K Bk) = 1) := Lib.hid (hhit.out (by rw [hEn.out, decide_eq_false c1, decide_eq_false c2, c3]; rfl))
                rw [longI_yes c3] at hlm
                clear c3
                go_wp2_with fail
                refine hlm.out.mono ?_
                rintro e w' ⟨rfl, rfl⟩
                go_wp2_with fail
                go_ret
                rw [HF.out]
                exact ⟨rfl, rfl⟩
              | false =>
                rw [longI_no c3] at hlm
                by_cases c4 : 15 < nK
                · have HF : Hid (longII (enF n P V R K Bk) = 1) := Lib.hid (hhit.out (by rw [hEn.out, decide_eq_false c1, decide_eq_false c2, c3, decide_eq_true c4]; rfl))
                  have c4' : (15 : Int) < (nK : Int) := by omega
                  clear c3
                  go_wp2_with fail
                  refine hlm.out.mono ?_
                  rintro e w' ⟨rfl, rfl⟩
                  go_wp2_with fail
                  go_ret
                  rw [HF.out]
                  exact ⟨rfl, rfl⟩
                · have c4' : ¬ (15 : Int) < (nK : Int) := by omega
                  have HE2 : Hid (longEn (enAt (enF n P V R K Bk) k) = (lstF nK LK).any fun s => decide (70 < s.length)) := Lib.hid (by rw [hEn.out, decide_eq_false c1, decide_eq_false c2, c3, decide_eq_false c4]; rfl)
                  clear c3
                  go_wp2_with fail
                  refine hlm.out.mono ?_
                  rintro e w' ⟨rfl, rfl⟩
                  go_wp2_with fail
                  go_loop [4] (fun i => ∃ q : Nat, q ≤ nK ∧ i = .int .i64 q ∧ Hid (∀ j, j < q → ¬ 70 < (LK j).size)) (fun i => nK - (intOf i).toNat)
                  case atStart => exact ⟨0, Nat.zero_le _, rfl, Lib.hid (fun j hj => absurd hj (Nat.not_lt_zero _))⟩
                  case round =>
                    obtain ⟨q, hq, rfl, HA2⟩ := hrel
                    by_cases hq2 : q < nK
                    · have hqn : (q : Int) < (nK : Int) := by omega
                      obtain ⟨b2, o2, ek, r0⟩ := hKc.out q hq2
                      subst ek
                      by_cases c5 : 70 < (LK q).size
                      · have HF : Hid (longII (enF n P V R K Bk) = 1) := Lib.hid (hhit.out (by
                          rw [HE2.out, List.any_eq_true]
                          refine ⟨_, List.mem_of_getElem? (show (lstF nK LK)[q]? = some (LK q).data.toList by simp [lstF, hq2]), ?_⟩
                          rw [← size_eq]; exact decide_eq_true c5))
                        have c5' : (70 : Int) < ((LK q).size : Int) := by omega
                        go_wp2_with fail
                        go_ret
                        rw [HF.out]
                        exact ⟨rfl, rfl⟩
                      · have c5' : ¬ (70 : Int) < ((LK q).size : Int) := by omega
                        have HN : Hid (∀ j, j < q + 1 → ¬ 70 < (LK j).size) := Lib.hid (fun j hj => by
                          by_cases e : j = q
                          · subst e; exact c5
                          · exact HA2.out j (by omega))
                        go_wp2_with fail
                        go_round
                        case rel => exact ⟨q + 1, by omega, by go_num, HN⟩
                        case measure => simp [intOf]; omega
                    · obtain rfl : nK = q := by omega
                      have HN : Hid (∀ j, j < k + 1 → longEn (enAt (enF n P V R K Bk) j) = false) := Lib.hid (fun j hj => by
                        by_cases e : j = k
                        · subst e
                          rw [HE2.out, List.any_eq_false]
                          intro s hs
                          obtain ⟨i, hi⟩ := List.getElem?_of_mem hs
                          have hil : i < nK := by have := (List.getElem?_eq_some_iff.1 hi).1; simpa [lstF] using this
                          have : (lstF nK LK)[i]? = some (LK i).data.toList := by simp [lstF, hil]
                          rw [this] at hi
                          rw [← Option.some.inj hi, ← size_eq]
                          have := HA2.out i hil
                          simpa using this
                        · exact HA.out j (by omega))
                      go_wp2_with fail
                      go_round
                      case rel => exact ⟨k + 1, by omega, by go_num, HN⟩
                      case measure => simp [intOf]; omega
        · obtain rfl : n = k := by omega
          have HF : Hid (longII (enF n P V R K Bk) = 0) := Lib.hid (longIdx_none (by rw [enF_length]; exact h30) (by rw [enF_length]; exact HA.out))
          go_wp2_with fail
          go_ret
          rw [HF.out]
          exact ⟨rfl, rfl⟩
    · have h1 : ¬ (30 : Int) < (n : Int) := by omega
      clear h31
      go_enter Tryz.func6, Tryz.ntmps6
      go_wp2_with fail
      go_loop [3] (fun i => ∃ k : Nat, k ≤ n ∧ i = .int .i64 k ∧ Hid (∀ j, j < k → longEn (enAt (enF n P V R K Bk) j) = false)) (fun i => n - (intOf i).toNat)
      case atStart => exact ⟨0, Nat.zero_le _, rfl, Lib.hid (fun j hj => absurd hj (Nat.not_lt_zero _))⟩
      case round =>
        obtain ⟨k, hk, rfl, HA⟩ := hrel
        by_cases hlt : k < n
        · have hkn : (k : Int) < (n : Int) := by omega
          obtain ⟨b1, o1, ea, hcell⟩ := H.out.at_ k hlt
          have hM := H.out.reqs k hlt
          obtain ⟨aK, nK, cK, LK, eK, eKl, _, _, hKc⟩ := H.out.packs k hlt
          obtain ⟨aM, nM, cM, _, _, eM, _⟩ := id hM
          rw [eM, eK] at hcell
          rw [eM] at hM
          have hlm := longMods_calls (.slice aM nM cM) (R k) 25 w hM
          have hEn : longEn (enAt (enF n P V R K Bk) k) = (decide (70 < (P k).size) || (decide (60 < (V k).size) || (longMods (R k) 25 || (decide (15 < nK) || (lstF nK LK).any fun s => decide (70 < s.length))))) := by
            rw [enAt_enF hlt]
            unfold longEn
            simp only [← size_eq, eKl, lstF_length]
          have hhit : longEn (enAt (enF n P V R K Bk) k) = true → longII (enF n P V R K Bk) = 1 := longIdx_hit (by rw [enF_length]; exact hlt)
          subst ea
          obtain ⟨d0, d1, d2, d3, d4⟩ := hcell
          replace hhit := Lib.hid hhit
          replace hEn := Lib.hid hEn
          replace hlm := Lib.hid hlm
          replace hKc := Lib.hid hKc
          clear hM eM eK eKl
          by_cases c1 : 70 < (P k).size
          · have HF : Hid (longII (enF n P V R K Bk) = 1) := Lib.hid (hhit.out (by rw [hEn.out, decide_eq_true c1]; rfl))
            have c1' : (70 : Int) < ((P k).size : Int) := by omega
            go_wp2_with fail
            go_ret
            rw [HF.out]
            exact ⟨rfl, rfl⟩
          · have c1' : ¬ (70 : Int) < ((P k).size : Int) := by omega
            by_cases c2 : 60 < (V k).size
            · have HF : Hid (longII (enF n P V R K Bk) = 1) := Lib.hid (hhit.out (by rw [hEn.out, decide_eq_false c1, decide_eq_true c2]; rfl))
              have c2' : (60 : Int) < ((V k).size : Int) := by omega
              go_wp2_with fail
              go_ret
              rw [HF.out]
              exact ⟨rfl, rfl⟩
            · have c2' : ¬ (60 : Int) < ((V k).size : Int) := by omega
              cases c3 : longMods (R k) 25 with
              | true =>
                have HF : Hid (longII (enF n P V R K Bk) = 1) := Lib.hid (hhit.out (by rw [hEn.out, decide_eq_false c1, decide_eq_false c2, c3]; rfl))
                rw [longI_yes c3] at hlm
                clear c3
                go_wp2_with fail
                refine hlm.out.mono ?_
                rintro e w' ⟨rfl, rfl⟩
                go_wp2_with fail
                go_ret
                rw [HF.out]
                exact ⟨rfl, rfl⟩
              | false =>
                rw [longI_no c3] at hlm
                by_cases c4 : 15 < nK
                · have HF : Hid (longII (enF n P V R K Bk) = 1) := Lib.hid (hhit.out (by rw [hEn.out, decide_eq_false c1, decide_eq_false c2, c3, decide_eq_true c4]; rfl))
                  have c4' : (15 : Int) < (nK : Int) := by omega
                  clear c3
                  go_wp2_with fail
                  refine hlm.out.mono ?_
                  rintro e w' ⟨rfl, rfl⟩
                  go_wp2_with fail
                  go_ret
                  rw [HF.out]
                  exact ⟨rfl, rfl⟩
                · have c4' : ¬ (15 : Int) < (nK : Int) := by omega
                  have HE2 : Hid (longEn (enAt (enF n P V R K Bk) k) = (lstF nK LK).any fun s => decide (70 < s.length)) := Lib.hid (by rw [hEn.out, decide_eq_false c1, decide_eq_false c2, c3, decide_eq_false c4]; rfl)
                  clear c3
                  go_wp2_with fail
                  refine hlm.out.mono ?_
                  rintro e w' ⟨rfl, rfl⟩
                  go_wp2_with fail
                  go_loop [4] (fun i => ∃ q : Nat, q ≤ nK ∧ i = .int .i64 q ∧ Hid (∀ j, j < q → ¬ 70 < (LK j).size)) (fun i => nK - (intOf i).toNat)
                  case atStart => exact ⟨0, Nat.zero_le _, rfl, Lib.hid (fun j hj => absurd hj (Nat.not_lt_zero _))⟩
                  case round =>
                    obtain ⟨q, hq, rfl, HA2⟩ := hrel
                    by_cases hq2 : q < nK
                    · have hqn : (q : Int) < (nK : Int) := by omega
                      obtain ⟨b2, o2, ek, r0⟩ := hKc.out q hq2
                      subst ek
                      by_cases c5 : 70 < (LK q).size
                      · have HF : Hid (longII (enF n P V R K Bk) = 1) := Lib.hid (hhit.out (by
                          rw [HE2.out, List.any_eq_true]
                          refine ⟨_, List.mem_of_getElem? (show (lstF nK LK)[q]? = some (LK q).data.toList by simp [lstF, hq2]), ?_⟩
                          rw [← size_eq]; exact decide_eq_true c5))
                        have c5' : (70 : Int) < ((LK q).size : Int) := by omega
                        go_wp2_with fail
                        go_ret
                        rw [HF.out]
                        exact ⟨rfl, rfl⟩
                      · have c5' : ¬ (70 : Int) < ((LK q).size : Int) := by omega
                        have HN : Hid (∀ j, j < q + 1 → ¬ 70 < (LK j).size) := Lib.hid (fun j hj => by
                          by_cases e : j = q
                          · subst e; exact c5
                          · exact HA2.out j (by omega))
                        go_wp2_with fail
                        go_round
                        case rel => exact ⟨q + 1, by omega, by go_num, HN⟩
                        case measure => simp [intOf]; omega
                    · obtain rfl : nK = q := by omega
                      have HN : Hid (∀ j, j < k + 1 → longEn (enAt (enF n P V R K Bk) j) = false) := Lib.hid (fun j hj => by
                        by_cases e : j = k
                        · subst e
                          rw [HE2.out, List.any_eq_false]
                          intro s hs
                          obtain ⟨i, hi⟩ := List.getElem?_of_mem hs
                          have hil : i < nK := by have := (List.getElem?_eq_some_iff.1 hi).1; simpa [lstF] using this
                          have : (lstF nK LK)[i]? = some (LK i).data.toList := by simp [lstF, hil]
                          rw [this] at hi
                          rw [← Option.some.inj hi, ← size_eq]
                          have := HA2.out i hil
                          simpa using this
                        · exact HA.out j (by omega))
                      go_wp2_with fail
                      go_round
                      case rel => exact ⟨k + 1, by omega, by go_num, HN⟩
                      case measure => simp [intOf]; omega
        · obtain rfl : n = k := by omega
          have HF : Hid (longII (enF n P V R K Bk) = 0) := Lib.hid (longIdx_none (by rw [enF_length]; exact h30) (by rw [enF_length]; exact HA.out))
          go_wp2_with fail
          go_ret
          rw [HF.out]
          exact ⟨rfl, rfl⟩
end Go.Proofs.Pw

namespace Go.Proofs.Pw
open Go.Lib hiding intOf
theorem longMods_small {l : List Md} {k : Nat} (h : longMods l k = false) : l.length ≤ k ∧ ∀ m ∈ l, m.1.length ≤ 70 ∧ m.2.length ≤ 60 := by
  unfold longMods at h
  rw [Bool.or_eq_false_iff] at h
  refine ⟨by have := of_decide_eq_false h.1; omega, fun m hm => ?_⟩
  have h2 := List.any_eq_false.1 h.2 m hm
  simp only [Bool.or_eq_true, decide_eq_true_eq] at h2
  omega
theorem longEn_small {e : En} (h : longEn e = false) : e.md.1.length ≤ 70 ∧ e.md.2.length ≤ 60 ∧ longMods e.reqs 25 = false ∧ e.packs.length ≤ 15 ∧ ∀ s ∈ e.packs, s.length ≤ 70 := by
  unfold longEn at h
  rw [Bool.or_eq_false_iff, Bool.or_eq_false_iff, Bool.or_eq_false_iff, Bool.or_eq_false_iff] at h
  obtain ⟨h1, h2, h3, h4, h5⟩ := h
  refine ⟨by have := of_decide_eq_false h1; omega, by have := of_decide_eq_false h2; omega, h3, by have := of_decide_eq_false h4; omega, fun s hs => ?_⟩
  have := List.any_eq_false.1 h5 s hs
  simp only [decide_eq_true_eq] at this
  omega
theorem longIdx_small {l : List En} (h : longIdx l = false) : l.length ≤ 101 ∧ ∀ e ∈ l, longEn e = false := by
  unfold longIdx at h
  rw [Bool.or_eq_false_iff] at h
  refine ⟨by have := of_decide_eq_false h.1; omega, fun e he => ?_⟩
  have := List.any_eq_false.1 h.2 e he
  simpa using this
theorem longIdx_short {l : List En} (h : longIdx l = false) : ShortI l := by
  obtain ⟨h1, h2⟩ := longIdx_small h
  refine ⟨by omega, fun e he => ?_, fun e he => ?_, fun e he => ?_⟩
  · have := longEn_small (h2 e he); omega
  · have h3 := longMods_small (longEn_small (h2 e he)).2.2.1
    exact ⟨by omega, fun m hm => by have := h3.2 m hm; omega⟩
  · have h3 := longEn_small (h2 e he)
    exact ⟨by omega, fun s hs => by have := h3.2.2.2.2 s hs; omega⟩
theorem longII_no {l : List En} (h : longIdx l = false) : longII l = 0 := by unfold longII; rw [h]; rfl
theorem longII_yes {l : List En} (h : longIdx l = true) : longII l = 1 := by unfold longII; rw [h]; rfl
end Go.Proofs.Pw
