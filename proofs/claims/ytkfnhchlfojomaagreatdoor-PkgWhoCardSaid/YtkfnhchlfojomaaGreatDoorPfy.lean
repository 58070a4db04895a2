/- Pf: walks and plain laws, joined: RefQuery3 RefQuery4 FindOf RefLatest. Conditions: at each theorem. -/
import Derived.Test.YtkfnhchlfojomaaGreatDoorPfx
import Derived.Test.YtkfnhchlfojomaaGreatDoorPfv
import Derived.Test.YtkfnhchlfojomaaGreatDoorPfh
import Derived.Test.YtkfnhchlfojomaaGreatDoorPfj
import Derived.Test.YtkfnhchlfojomaaGreatDoorPff
import Derived.Test.YtkfnhchlfojomaaGreatDoorPfi
import Derived.Test.YtkfnhchlfojomaaGreatDoorPfl
import Derived.Test.YtkfnhchlfojomaaGreatDoorPfk
import Derived.Test.YtkfnhchlfojomaaGreatDoorPfs

namespace Go.Proofs.Pw
open Go.RowKit
open Go.Lib hiding intOf
def suitsF (q v : Str) : Bool := match qBound q with
  | some b => withinF b.1 b.2 v
  | none => if verErr q = 0 then (v == q) else verBegins v q
set_option maxHeartbeats 2000000 in
set_option maxRecDepth 100000 in
theorem suits_calls (q v : ByteArray) (w : World) (hq : q.size ≤ 1000000) (hv : v.size ≤ 1000000) :
    Calls Tryz.prog 103 #[.string q, .string v] w fun e w' => e = .returned (.bool (suitsF q.data.toList v.data.toList)) ∧ Below w.heap.size w w' := by
  have hso := signOf_calls q w hq
  have hF : suitsF q.data.toList v.data.toList = match qBound q.data.toList with
    | some b => withinF b.1 b.2 v.data.toList
    | none => if verErr q.data.toList = 0 then (v.data.toList == q.data.toList) else verBegins v.data.toList q.data.toList := rfl
  generalize suitsF q.data.toList v.data.toList = F at hF ⊢
  cases hqb : qBound q.data.toList with
  | some b =>
    rw [hqb] at hso hF
    have hbl : b.2.length ≤ 1000000 := by
      have h := boundF_len (l := signs) (q := q.data.toList) (b := b) hqb
      rw [size_eq] at hq
      exact Nat.le_trans h hq
    have hsg := boundF_sign hqb
    obtain ⟨b1, b2⟩ := b
    simp only at hsg hbl hF
    have hz : (⟨b2.toArray⟩ : ByteArray).size ≤ 1000000 := by simpa [ByteArray.size] using hbl
    have hl1 := fun W => isLess_calls v ⟨b2.toArray⟩ W (by omega) (by omega)
    have hl2 := fun W => isLess_calls ⟨b2.toArray⟩ v W (by omega) (by omega)
    rw [show (⟨b2.toArray⟩ : ByteArray).data.toList = b2 from rfl] at hl1 hl2
    clear hqb hbl hz
    rcases hsg with rfl | rfl | rfl | rfl
    · skip
      have hs1 := hso
      rw [show signV q (some ([60, 61], b2)) = .tuple #[.string ⟨#[60, 61]⟩, .string ⟨b2.toArray⟩] from rfl] at hs1
      have HF : Hid (F = !verLess b2 v.data.toList) := Lib.hid (by rw [hF]; rfl)
      generalize verLess v.data.toList b2 = D1 at hl1 HF
      generalize verLess b2 v.data.toList = D2 at hl2 HF
      obtain ⟨bb, hbb⟩ : ∃ x : ByteArray, x = ⟨b2.toArray⟩ := ⟨_, rfl⟩
      rw [← hbb] at hl1 hl2 hs1
      replace hs1 := Lib.hid hs1
      replace hl1 := Lib.hid hl1
      replace hl2 := Lib.hid hl2
      clear hso hF hbb
      go_enter Tryz.func103, Tryz.ntmps103
      go_wp2_with fail
      refine hs1.out.mono ?_
      rintro e w1 ⟨rfl, hB⟩
      go_wp2_with fail
      refine (hl1.out w1).mono ?_
      rintro e w2 ⟨rfl, hb⟩
      replace hB := below_step hB hb
      clear hb
      go_wp2_with fail
      refine (hl2.out w2).mono ?_
      rintro e w3 ⟨rfl, hb⟩
      replace hB := below_step hB hb
      clear hb
      go_wp2_with fail
      go_ret
      rw [HF.out]
      exact ⟨rfl, hB⟩
    · skip
      have hs1 := hso
      rw [show signV q (some ([62, 61], b2)) = .tuple #[.string ⟨#[62, 61]⟩, .string ⟨b2.toArray⟩] from rfl] at hs1
      have HF : Hid (F = !verLess v.data.toList b2) := Lib.hid (by rw [hF]; rfl)
      generalize verLess v.data.toList b2 = D1 at hl1 HF
      generalize verLess b2 v.data.toList = D2 at hl2 HF
      obtain ⟨bb, hbb⟩ : ∃ x : ByteArray, x = ⟨b2.toArray⟩ := ⟨_, rfl⟩
      rw [← hbb] at hl1 hl2 hs1
      replace hs1 := Lib.hid hs1
      replace hl1 := Lib.hid hl1
      replace hl2 := Lib.hid hl2
      clear hso hF hbb
      go_enter Tryz.func103, Tryz.ntmps103
      go_wp2_with fail
      refine hs1.out.mono ?_
      rintro e w1 ⟨rfl, hB⟩
      go_wp2_with fail
      refine (hl1.out w1).mono ?_
      rintro e w2 ⟨rfl, hb⟩
      replace hB := below_step hB hb
      clear hb
      go_wp2_with fail
      refine (hl2.out w2).mono ?_
      rintro e w3 ⟨rfl, hb⟩
      replace hB := below_step hB hb
      clear hb
      go_wp2_with fail
      go_ret
      rw [HF.out]
      exact ⟨rfl, hB⟩
    · skip
      have hs1 := hso
      rw [show signV q (some ([60], b2)) = .tuple #[.string ⟨#[60]⟩, .string ⟨b2.toArray⟩] from rfl] at hs1
      have HF : Hid (F = verLess v.data.toList b2) := Lib.hid (by rw [hF]; rfl)
      generalize verLess v.data.toList b2 = D1 at hl1 HF
      generalize verLess b2 v.data.toList = D2 at hl2 HF
      obtain ⟨bb, hbb⟩ : ∃ x : ByteArray, x = ⟨b2.toArray⟩ := ⟨_, rfl⟩
      rw [← hbb] at hl1 hl2 hs1
      replace hs1 := Lib.hid hs1
      replace hl1 := Lib.hid hl1
      replace hl2 := Lib.hid hl2
      clear hso hF hbb
      go_enter Tryz.func103, Tryz.ntmps103
      go_wp2_with fail
      refine hs1.out.mono ?_
      rintro e w1 ⟨rfl, hB⟩
      go_wp2_with fail
      refine (hl1.out w1).mono ?_
      rintro e w2 ⟨rfl, hb⟩
      replace hB := below_step hB hb
      clear hb
      go_wp2_with fail
      refine (hl2.out w2).mono ?_
      rintro e w3 ⟨rfl, hb⟩
      replace hB := below_step hB hb
      clear hb
      go_wp2_with fail
      go_ret
      rw [HF.out]
      exact ⟨rfl, hB⟩
    · skip
      have hs1 := hso
      rw [show signV q (some ([62], b2)) = .tuple #[.string ⟨#[62]⟩, .string ⟨b2.toArray⟩] from rfl] at hs1
      have HF : Hid (F = verLess b2 v.data.toList) := Lib.hid (by rw [hF]; rfl)
      generalize verLess v.data.toList b2 = D1 at hl1 HF
      generalize verLess b2 v.data.toList = D2 at hl2 HF
      obtain ⟨bb, hbb⟩ : ∃ x : ByteArray, x = ⟨b2.toArray⟩ := ⟨_, rfl⟩
      rw [← hbb] at hl1 hl2 hs1
      replace hs1 := Lib.hid hs1
      replace hl1 := Lib.hid hl1
      replace hl2 := Lib.hid hl2
      clear hso hF hbb
      go_enter Tryz.func103, Tryz.ntmps103
      go_wp2_with fail
      refine hs1.out.mono ?_
      rintro e w1 ⟨rfl, hB⟩
      go_wp2_with fail
      refine (hl1.out w1).mono ?_
      rintro e w2 ⟨rfl, hb⟩
      replace hB := below_step hB hb
      clear hb
      go_wp2_with fail
      refine (hl2.out w2).mono ?_
      rintro e w3 ⟨rfl, hb⟩
      replace hB := below_step hB hb
      clear hb
      go_wp2_with fail
      go_ret
      rw [HF.out]
      exact ⟨rfl, hB⟩
  | none =>
    rw [hqb] at hso hF
    rw [show signV q none = .tuple #[.string ⟨#[]⟩, .string q] from rfl] at hso
    simp only at hF
    have hl1 := fun W => isLess_calls v q W (by omega) (by omega)
    have hl2 := fun W => isLess_calls q v W (by omega) (by omega)
    have hiv := fun W => isVer_calls q W (by omega)
    have hdb := fun W => doesBegin_calls v q W (by omega) (by omega)
    generalize verLess v.data.toList q.data.toList = D1 at hl1
    generalize verLess q.data.toList v.data.toList = D2 at hl2
    clear hqb
    by_cases hv0 : verErr q.data.toList = 0
    · have HF : Hid (F = (v.toList == q.toList)) := Lib.hid (by rw [hF, if_pos hv0, toList_data, toList_data])
      rw [decide_eq_true hv0] at hiv
      replace hso := Lib.hid hso
      replace hl1 := Lib.hid hl1
      replace hl2 := Lib.hid hl2
      replace hiv := Lib.hid hiv
      clear hv0 hF hdb
      go_enter Tryz.func103, Tryz.ntmps103
      go_wp2_with fail
      refine hso.out.mono ?_
      rintro e w1 ⟨rfl, hB⟩
      go_wp2_with fail
      refine (hl1.out w1).mono ?_
      rintro e w2 ⟨rfl, hb⟩
      replace hB := below_step hB hb
      clear hb
      go_wp2_with fail
      refine (hl2.out w2).mono ?_
      rintro e w3 ⟨rfl, hb⟩
      replace hB := below_step hB hb
      clear hb
      go_wp2_with fail
      refine (hiv.out w3).mono ?_
      rintro e w4 ⟨rfl, hb⟩
      replace hB := below_step hB hb
      clear hb
      go_wp2_with fail
      go_ret
      rw [HF.out]
      exact ⟨rfl, hB⟩
    · have HF : Hid (F = verBegins v.data.toList q.data.toList) := Lib.hid (by rw [hF, if_neg hv0])
      rw [decide_eq_false hv0] at hiv
      generalize verBegins v.data.toList q.data.toList = D3 at hdb HF
      replace hso := Lib.hid hso
      replace hl1 := Lib.hid hl1
      replace hl2 := Lib.hid hl2
      replace hiv := Lib.hid hiv
      replace hdb := Lib.hid hdb
      clear hv0 hF
      go_enter Tryz.func103, Tryz.ntmps103
      go_wp2_with fail
      refine hso.out.mono ?_
      rintro e w1 ⟨rfl, hB⟩
      go_wp2_with fail
      refine (hl1.out w1).mono ?_
      rintro e w2 ⟨rfl, hb⟩
      replace hB := below_step hB hb
      clear hb
      go_wp2_with fail
      refine (hl2.out w2).mono ?_
      rintro e w3 ⟨rfl, hb⟩
      replace hB := below_step hB hb
      clear hb
      go_wp2_with fail
      refine (hiv.out w3).mono ?_
      rintro e w4 ⟨rfl, hb⟩
      replace hB := below_step hB hb
      clear hb
      go_wp2_with fail
      refine (hdb.out w4).mono ?_
      rintro e w5 ⟨rfl, hb⟩
      replace hB := below_step hB hb
      clear hb
      go_wp2_with fail
      go_ret
      rw [HF.out]
      exact ⟨rfl, hB⟩
end Go.Proofs.Pw

namespace Go.Proofs.Pw
open Go.RowKit
open Go.Lib hiding intOf
set_option maxHeartbeats 2000000 in
set_option maxRecDepth 100000 in
theorem refQErr_calls (q : ByteArray) (w : World) (hq : q.size ≤ 1000000) :
    Calls Tryz.prog 38 #[.string q] w fun e w' => e = .returned (.int .i64 (qErr q.data.toList : Nat)) ∧ Below w.heap.size w w' := by
  have hso := signOf_calls q w hq
  have hwo := refIsWord_calls q w
  have hF : qErr q.data.toList = if qWord q.data.toList then 0 else match qBound q.data.toList with
    | some b => verErr b.2
    | none => if verErr q.data.toList = 1 then headErr q.data.toList else verErr q.data.toList := rfl
  generalize qErr q.data.toList = F at hF ⊢
  cases hqw : qWord q.data.toList with
  | true =>
    rw [hqw] at hwo hF
    rw [if_pos rfl] at hF
    have HF := Lib.hid hF
    replace hwo := Lib.hid hwo
    clear hso hF hqw
    go_enter Tryz.func38, Tryz.ntmps38
    go_wp2_with fail
    refine hwo.out.mono ?_
    rintro e w1 ⟨rfl, rfl⟩
    go_wp2_with fail
    go_ret
    rw [HF.out]
    exact ⟨rfl, Below.refl _ _⟩
  | false =>
    rw [hqw] at hwo hF
    rw [if_neg (by simp)] at hF
    clear hqw
    cases hqb : qBound q.data.toList with
    | some b =>
      rw [hqb] at hso hF
      have hbl : b.2.length ≤ 1000000 := by
        have h := boundF_len (l := signs) (q := q.data.toList) (b := b) hqb
        rw [size_eq] at hq
        exact Nat.le_trans h hq
      have hsg := boundF_sign hqb
      obtain ⟨b1, b2⟩ := b
      simp only at hsg hbl hF
      have hz : (⟨b2.toArray⟩ : ByteArray).size ≤ 1000000 := by simpa [ByteArray.size] using hbl
      have hvo := fun W => refVerOf_calls ⟨b2.toArray⟩ W (by omega)
      rw [show verErr (⟨b2.toArray⟩ : ByteArray).data.toList = verErr b2 from rfl] at hvo
      clear hqb hbl hz
      rcases hsg with rfl | rfl | rfl | rfl
      · skip
        have hs1 := hso
        rw [show signV q (some ([60, 61], b2)) = .tuple #[.string ⟨#[60, 61]⟩, .string ⟨b2.toArray⟩] from rfl] at hs1
        obtain ⟨bb, hbb⟩ : ∃ x : ByteArray, x = ⟨b2.toArray⟩ := ⟨_, rfl⟩
        have HF := Lib.hid hF
        rw [show ∀ k, verNum (⟨b2.toArray⟩ : ByteArray).data.toList k = verNum b2 k from fun _ => rfl] at hvo
        generalize verErr b2 = e2 at hvo HF
        generalize verNum b2 0 = N0 at hvo
        generalize verNum b2 1 = N1 at hvo
        generalize verNum b2 2 = N2 at hvo
        rw [← hbb] at hvo hs1
        replace hs1 := Lib.hid hs1
        replace hvo := Lib.hid hvo
        replace hwo := Lib.hid hwo
        clear hso hF hbb
        go_enter Tryz.func38, Tryz.ntmps38
        go_wp2_with fail
        refine hwo.out.mono ?_
        rintro e w1 ⟨rfl, rfl⟩
        go_wp2_with fail
        refine hs1.out.mono ?_
        rintro e w2 ⟨rfl, hB⟩
        go_wp2_with fail
        refine (hvo.out w2).mono ?_
        rintro e w3 ⟨⟨v3, rfl, hs3⟩, hb⟩
        obtain ⟨a3, m3, c3, _, rfl, _⟩ := hs3
        replace hB := below_step hB hb
        replace hB := hB.trans ((below_alloc w3 (.cells #[.int .i64 (N0 : Nat), .int .i64 (N1 : Nat), .int .i64 (N2 : Nat), .slice a3 m3 c3] 149)).mono hB.size)
        clear hb hvo hs1 hwo
        go_wp2_with fail
        go_ret
        rw [HF.out]
        exact ⟨rfl, hB⟩
      · skip
        have hs1 := hso
        rw [show signV q (some ([62, 61], b2)) = .tuple #[.string ⟨#[62, 61]⟩, .string ⟨b2.toArray⟩] from rfl] at hs1
        obtain ⟨bb, hbb⟩ : ∃ x : ByteArray, x = ⟨b2.toArray⟩ := ⟨_, rfl⟩
        have HF := Lib.hid hF
        rw [show ∀ k, verNum (⟨b2.toArray⟩ : ByteArray).data.toList k = verNum b2 k from fun _ => rfl] at hvo
        generalize verErr b2 = e2 at hvo HF
        generalize verNum b2 0 = N0 at hvo
        generalize verNum b2 1 = N1 at hvo
        generalize verNum b2 2 = N2 at hvo
        rw [← hbb] at hvo hs1
        replace hs1 := Lib.hid hs1
        replace hvo := Lib.hid hvo
        replace hwo := Lib.hid hwo
        clear hso hF hbb
        go_enter Tryz.func38, Tryz.ntmps38
        go_wp2_with fail
        refine hwo.out.mono ?_
        rintro e w1 ⟨rfl, rfl⟩
        go_wp2_with fail
        refine hs1.out.mono ?_
        rintro e w2 ⟨rfl, hB⟩
        go_wp2_with fail
        refine (hvo.out w2).mono ?_
        rintro e w3 ⟨⟨v3, rfl, hs3⟩, hb⟩
        obtain ⟨a3, m3, c3, _, rfl, _⟩ := hs3
        replace hB := below_step hB hb
        replace hB := hB.trans ((below_alloc w3 (.cells #[.int .i64 (N0 : Nat), .int .i64 (N1 : Nat), .int .i64 (N2 : Nat), .slice a3 m3 c3] 149)).mono hB.size)
        clear hb hvo hs1 hwo
        go_wp2_with fail
        go_ret
        rw [HF.out]
        exact ⟨rfl, hB⟩
      · skip
        have hs1 := hso
        rw [show signV q (some ([60], b2)) = .tuple #[.string ⟨#[60]⟩, .string ⟨b2.toArray⟩] from rfl] at hs1
        obtain ⟨bb, hbb⟩ : ∃ x : ByteArray, x = ⟨b2.toArray⟩ := ⟨_, rfl⟩
        have HF := Lib.hid hF
        rw [show ∀ k, verNum (⟨b2.toArray⟩ : ByteArray).data.toList k = verNum b2 k from fun _ => rfl] at hvo
        generalize verErr b2 = e2 at hvo HF
        generalize verNum b2 0 = N0 at hvo
        generalize verNum b2 1 = N1 at hvo
        generalize verNum b2 2 = N2 at hvo
        rw [← hbb] at hvo hs1
        replace hs1 := Lib.hid hs1
        replace hvo := Lib.hid hvo
        replace hwo := Lib.hid hwo
        clear hso hF hbb
        go_enter Tryz.func38, Tryz.ntmps38
        go_wp2_with fail
        refine hwo.out.mono ?_
        rintro e w1 ⟨rfl, rfl⟩
        go_wp2_with fail
        refine hs1.out.mono ?_
        rintro e w2 ⟨rfl, hB⟩
        go_wp2_with fail
        refine (hvo.out w2).mono ?_
        rintro e w3 ⟨⟨v3, rfl, hs3⟩, hb⟩
        obtain ⟨a3, m3, c3, _, rfl, _⟩ := hs3
        replace hB := below_step hB hb
        replace hB := hB.trans ((below_alloc w3 (.cells #[.int .i64 (N0 : Nat), .int .i64 (N1 : Nat), .int .i64 (N2 : Nat), .slice a3 m3 c3] 149)).mono hB.size)
        clear hb hvo hs1 hwo
        go_wp2_with fail
        go_ret
        rw [HF.out]
        exact ⟨rfl, hB⟩
      · skip
        have hs1 := hso
        rw [show signV q (some ([62], b2)) = .tuple #[.string ⟨#[62]⟩, .string ⟨b2.toArray⟩] from rfl] at hs1
        obtain ⟨bb, hbb⟩ : ∃ x : ByteArray, x = ⟨b2.toArray⟩ := ⟨_, rfl⟩
        have HF := Lib.hid hF
        rw [show ∀ k, verNum (⟨b2.toArray⟩ : ByteArray).data.toList k = verNum b2 k from fun _ => rfl] at hvo
        generalize verErr b2 = e2 at hvo HF
        generalize verNum b2 0 = N0 at hvo
        generalize verNum b2 1 = N1 at hvo
        generalize verNum b2 2 = N2 at hvo
        rw [← hbb] at hvo hs1
        replace hs1 := Lib.hid hs1
        replace hvo := Lib.hid hvo
        replace hwo := Lib.hid hwo
        clear hso hF hbb
        go_enter Tryz.func38, Tryz.ntmps38
        go_wp2_with fail
        refine hwo.out.mono ?_
        rintro e w1 ⟨rfl, rfl⟩
        go_wp2_with fail
        refine hs1.out.mono ?_
        rintro e w2 ⟨rfl, hB⟩
        go_wp2_with fail
        refine (hvo.out w2).mono ?_
        rintro e w3 ⟨⟨v3, rfl, hs3⟩, hb⟩
        obtain ⟨a3, m3, c3, _, rfl, _⟩ := hs3
        replace hB := below_step hB hb
        replace hB := hB.trans ((below_alloc w3 (.cells #[.int .i64 (N0 : Nat), .int .i64 (N1 : Nat), .int .i64 (N2 : Nat), .slice a3 m3 c3] 149)).mono hB.size)
        clear hb hvo hs1 hwo
        go_wp2_with fail
        go_ret
        rw [HF.out]
        exact ⟨rfl, hB⟩
    | none =>
      rw [hqb] at hso hF
      rw [show signV q none = .tuple #[.string ⟨#[]⟩, .string q] from rfl] at hso
      simp only at hF
      have hvo := fun W => refVerOf_calls q W (by omega)
      have hho := fun W => headOf_calls q W (by omega)
      generalize verNum q.data.toList 0 = N0 at hvo
      generalize verNum q.data.toList 1 = N1 at hvo
      generalize verNum q.data.toList 2 = N2 at hvo
      clear hqb
      by_cases h1 : verErr q.data.toList = 1
      · have HF : Hid (F = headErr q.data.toList) := Lib.hid (by rw [hF, if_pos h1])
        rw [h1] at hvo
        generalize headErr q.data.toList = e2 at hho HF
        replace hso := Lib.hid hso
        replace hwo := Lib.hid hwo
        replace hvo := Lib.hid hvo
        replace hho := Lib.hid hho
        clear hF h1
        go_enter Tryz.func38, Tryz.ntmps38
        go_wp2_with fail
        refine hwo.out.mono ?_
        rintro e w1 ⟨rfl, rfl⟩
        go_wp2_with fail
        refine hso.out.mono ?_
        rintro e w2 ⟨rfl, hB⟩
        go_wp2_with fail
        refine (hvo.out w2).mono ?_
        rintro e w3 ⟨⟨v3, rfl, hs3⟩, hb⟩
        obtain ⟨a3, m3, c3, _, rfl, _⟩ := hs3
        replace hB := below_step hB hb
        replace hB := hB.trans ((below_alloc w3 (.cells #[.int .i64 (N0 : Nat), .int .i64 (N1 : Nat), .int .i64 (N2 : Nat), .slice a3 m3 c3] 149)).mono hB.size)
        clear hb hvo hso hwo
        go_wp2_with fail
        refine (hho.out _).mono ?_
        rintro e w5 ⟨⟨v5, rfl, hs5⟩, hb⟩
        replace hB := below_step hB hb
        clear hb hho hs5
        go_wp2_with fail
        go_ret
        rw [HF.out]
        exact ⟨rfl, hB⟩
      · have HF : Hid (F = verErr q.data.toList) := Lib.hid (by rw [hF, if_neg h1])
        generalize verErr q.data.toList = e2 at hvo HF h1
        have hq1 : ((e2 : Int) != 1) = true := by simp; omega
        replace hso := Lib.hid hso
        replace hwo := Lib.hid hwo
        replace hvo := Lib.hid hvo
        clear hF h1 hho
        go_enter Tryz.func38, Tryz.ntmps38
        go_wp2_with fail
        refine hwo.out.mono ?_
        rintro e w1 ⟨rfl, rfl⟩
        go_wp2_with fail
        refine hso.out.mono ?_
        rintro e w2 ⟨rfl, hB⟩
        go_wp2_with fail
        refine (hvo.out w2).mono ?_
        rintro e w3 ⟨⟨v3, rfl, hs3⟩, hb⟩
        obtain ⟨a3, m3, c3, _, rfl, _⟩ := hs3
        replace hB := below_step hB hb
        replace hB := hB.trans ((below_alloc w3 (.cells #[.int .i64 (N0 : Nat), .int .i64 (N1 : Nat), .int .i64 (N2 : Nat), .slice a3 m3 c3] 149)).mono hB.size)
        clear hb hvo hso hwo
        go_wp2_with fail
        go_ret
        rw [HF.out]
        exact ⟨rfl, hB⟩
end Go.Proofs.Pw

namespace Go.Proofs.Pw
open Go.RowKit
open Go.Lib hiding intOf
set_option maxHeartbeats 1000000 in
set_option maxRecDepth 100000 in
theorem findOf_in (a : Option Addr) (n cap : Nat) (P V : Nat → ByteArray) (R : Nat → List Md) (K : Nat → List Str) (B : Nat → Bool) (Rv Kv : Nat → Value) (p v : ByteArray) (w : World) (h : EntsIn w a n cap P V R K B Rv Kv) (hl : n ≤ 1000000) :
    Calls Tryz.prog 62 #[.slice a n cap, .agg #[.string p, .string v]] w fun e w' => e = .returned (.int .i64 (findE (enF n P V R K B) (p.data.toList, v.data.toList))) ∧ Below w.heap.size w w' := by
  have hB := below_alloc w (.cells #[.string p, .string v] 29)
  obtain ⟨z0, z1, _⟩ := box2_alloc w (.string p) (.string v) 29
  have H := Lib.hid (h.below hB)
  have hg := Tryz.md_guard
  clear h
  go_enter Tryz.func62, Tryz.ntmps62
  go_wp2_with fail
  generalize hw1 : w.alloc (.cells #[.string p, .string v] 29) = w1 at *
  clear hw1
  go_loopw [5] (fun i wr => ∃ k : Nat, k ≤ n ∧ i = .int .i64 k ∧ Below w1.heap.size w1 wr ∧ Hid (∀ j, j < k → ((P j).data.toList, (V j).data.toList) ≠ (p.data.toList, v.data.toList))) (fun i _ => n - (intOf i).toNat)
  case atStart => exact ⟨0, Nat.zero_le _, rfl, Below.refl _ _, Lib.hid (fun j hj => absurd hj (Nat.not_lt_zero _))⟩
  case round =>
    obtain ⟨k, hk, rfl, hBk, HA⟩ := hrel
    have hBw := below_step hB hBk
    by_cases hlt : k < n
    · have hkn : (k : Int) < (n : Int) := by omega
      obtain ⟨b1, o1, ea, hcell⟩ := H.out.at_ k hlt
      have c0 := Below.cell_some hBk hcell.c0
      have c1 := Below.cell_some hBk hcell.c1
      have y0 := Below.cell_some hBk z0
      have y1 := Below.cell_some hBk z1
      subst ea
      have he := md_eql (P k) (V k) p v
      by_cases hm : ((P k).data.toList, (V k).data.toList) = (p.data.toList, v.data.toList)
      · have hd : decide (P k = p ∧ V k = v) = true := decide_eq_true (bytes_pair.1 hm)
        simp only [hd] at he
        have HF : Hid (findE (enF n P V R K B) (p.data.toList, v.data.toList) = k) := Lib.hid (findI_hit (enF_get n P V R K B k hlt) (decide_eq_true hm) (fun j y hj hy => by
          rw [enF_get n P V R K B j (by omega)] at hy
          cases hy
          exact decide_eq_false (HA.out j hj)))
        clear hm hcell hd
        go_wp2_with fail
        have kqc0 := fun d os => cell_patch (d := d) (os := os) c0
        have kqc1 := fun d os => cell_patch (d := d) (os := os) c1
        have kqy0 := fun d os => cell_patch (d := d) (os := os) y0
        have kqy1 := fun d os => cell_patch (d := d) (os := os) y1
        refine wp_region_quiet_patch (by kernel_rfl) (by kernel_rfl) ?_
        repeat (go_big_quiet_step (fail))
        refine wpQuiet_nil ?_
        intro _ hw'
        obtain ⟨⟨dq, osq⟩, hw''⟩ := hw'
        subst hw''
        clear kqc0 kqc1 kqy0 kqy1
        have hb := below_patch wr dq osq
        replace hBw := below_step hBw hb
        clear hb
        generalize patch wr dq osq = wq1 at hBw ⊢
        go_wp2_with fail
        go_ret
        rw [HF.out]
        exact ⟨rfl, hBw⟩
      · have hd : decide (P k = p ∧ V k = v) = false := decide_eq_false (fun h => hm (bytes_pair.2 h))
        simp only [hd] at he
        have HN : Hid (∀ j, j < k + 1 → ((P j).data.toList, (V j).data.toList) ≠ (p.data.toList, v.data.toList)) := Lib.hid (fun j hj => by
          by_cases e : j = k
          · subst e; exact hm
          · exact HA.out j (by omega))
        clear hm hcell hd
        go_wp2_with fail
        have kqc0 := fun d os => cell_patch (d := d) (os := os) c0
        have kqc1 := fun d os => cell_patch (d := d) (os := os) c1
        have kqy0 := fun d os => cell_patch (d := d) (os := os) y0
        have kqy1 := fun d os => cell_patch (d := d) (os := os) y1
        refine wp_region_quiet_patch (by kernel_rfl) (by kernel_rfl) ?_
        repeat (go_big_quiet_step (fail))
        refine wpQuiet_nil ?_
        intro _ hw'
        obtain ⟨⟨dq, osq⟩, hw''⟩ := hw'
        subst hw''
        clear kqc0 kqc1 kqy0 kqy1
        have hb := below_patch wr dq osq
        replace hBk := below_step hBk hb
        clear hb
        generalize patch wr dq osq = wq1 at hBk ⊢
        go_wp2_with fail
        go_roundw
        case rel => exact ⟨k + 1, by omega, by go_num, hBk, HN⟩
        case measure => simp [intOf]; omega
    · obtain rfl : n = k := by omega
      have HF : Hid (findE (enF n P V R K B) (p.data.toList, v.data.toList) = -1) := Lib.hid (findI_none (fun j y hy => by
        have hj : j < n := by have := (List.getElem?_eq_some_iff.1 hy).1; rwa [enF_length] at this
        rw [enF_get n P V R K B j hj] at hy
        cases hy
        exact decide_eq_false (HA.out j hj)))
      go_wp2_with fail
      go_ret
      rw [HF.out]
      exact ⟨rfl, hBw⟩
end Go.Proofs.Pw

namespace Go.Proofs.Pw
open Go.RowKit
open Go.Lib hiding intOf
set_option maxHeartbeats 2000000 in
set_option maxRecDepth 100000 in
theorem rank_in (a : Option Addr) (n cap : Nat) (P V : Nat → ByteArray) (R : Nat → List Md) (K : Nat → List Str) (Bk : Nat → Bool) (Rv Kv : Nat → Value) (p s : ByteArray) (w : World) (h : EntsIn w a n cap P V R K Bk Rv Kv) (hn : n ≤ 1000000) (hs : s.size ≤ 1000000000) :
    Calls Tryz.prog 165 #[.slice a n cap, .string p, .string s] w fun e w' => e = .returned (.int .i64 (rankS (enF n P V R K Bk) p.data.toList s.data.toList : Nat)) ∧ Below w.heap.size w w' := by
  have hf := findOf_in a n cap P V R K Bk Rv Kv p s w h hn
  have hvo := fun W => refVerOf_calls s W hs
  have hB : backB (enF n P V R K Bk) p.data.toList s.data.toList = (decide (0 ≤ findE (enF n P V R K Bk) (p.data.toList, s.data.toList)) && (enAt (enF n P V R K Bk) (findE (enF n P V R K Bk) (p.data.toList, s.data.toList)).toNat).back) := rfl
  have hfn := fun h => findE_nat (l := enF n P V R K Bk) (m := (p.data.toList, s.data.toList)) h
  have hR : rankS (enF n P V R K Bk) p.data.toList s.data.toList = if backB (enF n P V R K Bk) p.data.toList s.data.toList = true then 0 else if (decide (verErr s.data.toList ≠ 0) || decide (0 < (verPre s.data.toList).length)) = true then 1 else 2 := rfl
  generalize findE (enF n P V R K Bk) (p.data.toList, s.data.toList) = x at hf hB hfn
  generalize rankS (enF n P V R K Bk) p.data.toList s.data.toList = RK at *
  generalize verPre s.data.toList = VP at *
  generalize verErr s.data.toList = VE at *
  generalize verNum s.data.toList 0 = N0 at *
  generalize verNum s.data.toList 1 = N1 at *
  generalize verNum s.data.toList 2 = N2 at *
  by_cases h0 : x < 0
  · have HR : Hid (RK = if (decide (VE ≠ 0) || decide (0 < VP.length)) = true then 1 else 2) := Lib.hid (by rw [hR, hB, decide_eq_false (by omega)]; rfl)
    have h0' : ¬ (0 : Int) ≤ x := by omega
    clear hfn hB hR
    replace hf := Lib.hid hf
    replace hvo := Lib.hid hvo
    go_enter Tryz.func165, Tryz.ntmps165
    go_wp2_with fail
    refine hf.out.mono ?_
    rintro e w1 ⟨rfl, hb⟩
    go_wp2_with fail
    refine (hvo.out _).mono ?_
    rintro e w2 ⟨⟨v, rfl, hv⟩, hb2⟩
    obtain ⟨a1, n1, c1, L1, rfl, rfl, _⟩ := hv
    rw [lstF_length] at HR
    have hba := below_alloc w2 (.cells #[.int .i64 (N0 : Nat), .int .i64 (N1 : Nat), .int .i64 (N2 : Nat), .slice a1 n1 c1] 149)
    replace hb2 := below_step hb2 hba
    by_cases h5 : VE = 0
    · subst h5
      by_cases h6 : 0 < n1
      · have h6' : (0 : Int) < (n1 : Int) := by omega
        have HR2 : Hid (RK = 1) := Lib.hid (by rw [HR.out]; simp [h6])
        clear HR
        go_wp2_with fail
        go_ret
        rw [HR2.out]
        exact ⟨rfl, below_step hb hb2⟩
      · have h6' : ¬ (0 : Int) < (n1 : Int) := by omega
        have HR2 : Hid (RK = 2) := Lib.hid (by rw [HR.out]; simp [h6])
        clear HR
        go_wp2_with fail
        go_ret
        rw [HR2.out]
        exact ⟨rfl, below_step hb hb2⟩
    · have h5' : (0 : Int) < (VE : Int) := by omega
      have HR2 : Hid (RK = 1) := Lib.hid (by rw [HR.out]; simp [h5])
      clear HR
      go_wp2_with fail
      go_ret
      rw [HR2.out]
      exact ⟨rfl, below_step hb hb2⟩
  · obtain ⟨k, rfl, hk, _⟩ := hfn h0
    rw [enF_length] at hk
    obtain ⟨b1, o1, rfl, hcell⟩ := h.at_ k hk
    have hB2 : backB (enF n P V R K Bk) p.data.toList s.data.toList = Bk k := by
      rw [hB, decide_eq_true (by omega), Bool.true_and]
      show (enAt (enF n P V R K Bk) k).back = _
      rw [enAt_enF hk]
    have h0' : (0 : Int) ≤ (k : Int) := by omega
    have hkn : (k : Int) < (n : Int) := by omega
    have c4 := hcell.c4
    rw [hB2] at hR
    clear hfn hB h0 hcell hB2
    generalize Bk k = X at c4 hR
    cases X with
    | true =>
      have HR : Hid (RK = 0) := Lib.hid (by rw [hR]; rfl)
      clear hR
      replace hf := Lib.hid hf
      go_enter Tryz.func165, Tryz.ntmps165
      go_wp2_with fail
      refine hf.out.mono ?_
      rintro e w1 ⟨rfl, hb⟩
      replace c4 := Below.cell_some hb c4
      go_wp2_with fail
      go_ret
      rw [HR.out]
      exact ⟨rfl, hb⟩
    | false =>
      have HR : Hid (RK = if (decide (VE ≠ 0) || decide (0 < VP.length)) = true then 1 else 2) := Lib.hid (by rw [hR]; rfl)
      clear hR
      replace hf := Lib.hid hf
      replace hvo := Lib.hid hvo
      go_enter Tryz.func165, Tryz.ntmps165
      go_wp2_with fail
      refine hf.out.mono ?_
      rintro e w1 ⟨rfl, hb⟩
      replace c4 := Below.cell_some hb c4
      go_wp2_with fail
      refine (hvo.out _).mono ?_
      rintro e w2 ⟨⟨v, rfl, hv⟩, hb2⟩
      obtain ⟨a1, n1, c1, L1, rfl, rfl, _⟩ := hv
      rw [lstF_length] at HR
      have hba := below_alloc w2 (.cells #[.int .i64 (N0 : Nat), .int .i64 (N1 : Nat), .int .i64 (N2 : Nat), .slice a1 n1 c1] 149)
      replace hb2 := below_step hb2 hba
      by_cases h5 : VE = 0
      · subst h5
        by_cases h6 : 0 < n1
        · have h6' : (0 : Int) < (n1 : Int) := by omega
          have HR2 : Hid (RK = 1) := Lib.hid (by rw [HR.out]; simp [h6])
          clear HR
          go_wp2_with fail
          go_ret
          rw [HR2.out]
          exact ⟨rfl, below_step hb hb2⟩
        · have h6' : ¬ (0 : Int) < (n1 : Int) := by omega
          have HR2 : Hid (RK = 2) := Lib.hid (by rw [HR.out]; simp [h6])
          clear HR
          go_wp2_with fail
          go_ret
          rw [HR2.out]
          exact ⟨rfl, below_step hb hb2⟩
      · have h5' : (0 : Int) < (VE : Int) := by omega
        have HR2 : Hid (RK = 1) := Lib.hid (by rw [HR.out]; simp [h5])
        clear HR
        go_wp2_with fail
        go_ret
        rw [HR2.out]
        exact ⟨rfl, below_step hb hb2⟩
set_option maxHeartbeats 2000000 in
set_option maxRecDepth 100000 in
theorem likedOf_in (a : Option Addr) (n cap : Nat) (P V : Nat → ByteArray) (R : Nat → List Md) (K : Nat → List Str) (Bk : Nat → Bool) (Rv Kv : Nat → Value) (p : ByteArray) (sv : Value) (l : List Str) (w : World) (h : EntsIn w a n cap P V R K Bk Rv Kv) (hn : n ≤ 1000000) (hv : StrsAt w sv l) (hl : l.length ≤ 1000000) (hls : ∀ x ∈ l, x.length ≤ 1000000) :
    Calls Tryz.prog 104 #[.slice a n cap, .string p, sv, .bool false] w fun e w' => e = .returned (.string ⟨(lastS (likedL (enF n P V R K Bk) p.data.toList l)).toArray⟩) ∧ Below w.heap.size w w' := by
  obtain ⟨sa, m, sc, L, rfl, rfl, _, _, hc⟩ := hv
  rw [lstF_length] at hl
  have hrk := fun (j : Nat) (hj : j < m) (W : World) (hb : Below w.heap.size w W) => rank_in a n cap P V R K Bk Rv Kv p (L j) W (h.below hb) hn (by
    have := hls _ (lstF_mem'.2 ⟨j, hj, rfl⟩)
    simp only [Array.length_toList] at this
    have e : (L j).size = (L j).data.size := rfl
    omega)
  rw [← latest_best]
  generalize rankS (enF n P V R K Bk) p.data.toList = rk at *
  replace hrk := Lib.hid hrk
  replace hc := Lib.hid hc
  clear h hls
  go_enter Tryz.func104, Tryz.ntmps104
  go_wp2_with fail
  go_loopw [9, 10, 11, 12] (fun b r i _ wr => ∃ (k : Nat) (T : Str) (z : Int), k ≤ m ∧ i = .int .i64 k ∧ b = .string ⟨T.toArray⟩ ∧ r = .int .i64 z ∧ Hid (bestS rk ((lstF m L).take k) ([], -1) = (T, z)) ∧ Below w.heap.size w wr) (fun _ _ i _ _ => m - (intOf i).toNat)
  case atStart => exact ⟨0, [], -1, Nat.zero_le _, rfl, rfl, rfl, Lib.hid rfl, Below.refl _ _⟩
  case round =>
    obtain ⟨k, T, z, hk, rfl, rfl, rfl, hT, hBr⟩ := hrel
    by_cases hlt : k < m
    · have hkn : (k : Int) < (m : Int) := by omega
      obtain ⟨b1, o1, ea, c0⟩ := hc.out k hlt
      replace c0 := Below.cell_some hBr c0
      subst ea
      have hf := hrk.out k hlt wr hBr
      have hst : bestS rk ((lstF m L).take (k + 1)) ([], -1) = if z ≤ (rk (L k).data.toList : Int) then ((L k).data.toList, (rk (L k).data.toList : Int)) else (T, z) := by
        rw [List.take_add_one, lstF_get m L k hlt]
        show bestS rk (_ ++ [_]) _ = _
        rw [bestS_snoc, hT.out]
      generalize rk (L k).data.toList = q at hf hst
      by_cases hzq : z ≤ (q : Int)
      · rw [if_pos hzq] at hst
        have HS : Hid (bestS rk ((lstF m L).take (k + 1)) ([], -1) = ((L k).data.toList, (q : Int))) := Lib.hid hst
        by_cases hz2 : z < (q : Int)
        · replace hf := Lib.hid hf
          clear hst hT hzq
          go_wp2_with fail
          refine hf.out.mono ?_
          rintro e w1 ⟨rfl, hb⟩
          replace hBr := below_step hBr hb
          replace c0 := Below.cell_some hb c0
          clear hb hf
          go_wp2_with fail
          go_roundw
          case rel => exact ⟨k + 1, _, _, by omega, by go_num, by rw [bytes_back], rfl, HS, hBr⟩
          case measure => simp [intOf]; omega
        · obtain rfl : z = (q : Int) := by omega
          replace hf := Lib.hid hf
          clear hst hT hzq
          go_wp2_with fail
          refine hf.out.mono ?_
          rintro e w1 ⟨rfl, hb⟩
          replace hBr := below_step hBr hb
          replace c0 := Below.cell_some hb c0
          clear hb hf
          go_wp2_with fail
          go_roundw
          case rel => exact ⟨k + 1, _, _, by omega, by go_num, by rw [bytes_back], rfl, HS, hBr⟩
          case measure => simp [intOf]; omega
      · rw [if_neg hzq] at hst
        have HS : Hid (bestS rk ((lstF m L).take (k + 1)) ([], -1) = (T, z)) := Lib.hid hst
        have hz2 : ¬ z < (q : Int) := by omega
        have hz3 : ((q : Int) == z) = false := beq_eq_false_iff_ne.2 (by omega)
        replace hf := Lib.hid hf
        clear hst hT hzq
        go_wp2_with fail
        refine hf.out.mono ?_
        rintro e w1 ⟨rfl, hb⟩
        replace hBr := below_step hBr hb
        clear hb hf c0
        go_wp2_with fail
        go_roundw
        case rel => exact ⟨k + 1, T, z, by omega, by go_num, rfl, rfl, HS, hBr⟩
        case measure => simp [intOf]; omega
    · have HF : Hid (bestS rk (lstF m L) ([], -1) = (T, z)) := Lib.hid (by
        rw [← hT.out, show k = m by omega, List.take_of_length_le (by rw [lstF_length]; exact Nat.le_refl _)])
      have hnk : ¬ (k : Int) < (m : Int) := by omega
      clear hT hlt
      go_wp2_with fail
      go_ret
      rw [HF.out]
      exact ⟨rfl, hBr⟩
end Go.Proofs.Pw
