/- Pf: walks and plain laws, joined: VerBeg QMath Mod. Conditions: at each theorem. -/
import Derived.Test.YtkfnhchlfojomaaGreatDoorPfi
import Derived.Test.YtkfnhchlfojomaaGreatDoorPfc
import Derived.Test.YtkfnhchlfojomaaGreatDoorPfg
import Derived.Test.YtkfnhchlfojomaaGreatDoorPfa
import Derived.Lib.AppendIntMem

namespace Go.Proofs.Pw
open Go.RowKit
open Go.Lib hiding intOf
theorem equalInts_calls (v u : Value) (l m : List Nat) (w : World) (h : IntsAt w v l) (g : IntsAt w u m) :
    Calls Tryz.prog 151 #[v, u] w fun e w' => e = .returned (.bool (decide (l = m))) ∧ Below w.heap.size w w' := by
  obtain ⟨a, n, cap, L, rfl, rfl, hn, hcap, hc⟩ := h
  obtain ⟨a', n', cap', M, rfl, rfl, hn', hcap', hc'⟩ := g
  by_cases hnn : n = n'
  · subst hnn
    have H1 := Lib.hid hc
    have H2 := Lib.hid hc'
    clear hc hc'
    have hext : ((List.range n).map L = (List.range n).map M) ↔ ∀ j, j < n → L j = M j := by simp
    have HX := Lib.hid hext
    clear hext
    go_enter Tryz.func151, Tryz.ntmps151
    go_wp2_with fail
    go_loopw [13] (fun i wr => ∃ k : Nat, k ≤ n ∧ i = .int .i64 k ∧ Below w.heap.size w wr ∧ Hid (∀ j, j < k → L j = M j)) (fun i _ => n - (intOf i).toNat)
    case atStart => exact ⟨0, by omega, rfl, Below.refl _ _, Lib.hid (fun j hj => absurd hj (Nat.not_lt_zero _))⟩
    case round =>
      obtain ⟨k, hk, rfl, hb, HA⟩ := hrel
      by_cases hlt : k < n
      · obtain ⟨b1, o1, rfl, d1⟩ := H1.out k hlt
        obtain ⟨b2, o2, rfl, d2⟩ := H2.out k hlt
        replace d1 := Below.cell_some hb d1
        replace d2 := Below.cell_some hb d2
        by_cases he : L k = M k
        · have HE := Lib.hid he
          rw [he] at d1
          generalize M k = y at d1 d2
          clear he
          go_wp2_with fail
          go_region
          all_goals
            go_wp2_with fail
            go_roundw
            case rel =>
              refine ⟨k + 1, by omega, by go_num, hb.drew, Lib.hid (fun j hj => ?_)⟩
              by_cases e : j = k
              · subst e; exact HE.out
              · exact HA.out j (by omega)
            case measure => simp [intOf]; omega
        · have HF : Hid (decide ((List.range n).map L = (List.range n).map M) = false) := Lib.hid (decide_eq_false (fun e => he (HX.out.1 e k hlt)))
          have he1 : (((L k : Nat) : Int) == ((M k : Nat) : Int)) = false := beq_eq_false_iff_ne.2 (by omega)
          generalize L k = x at d1 he1
          generalize M k = y at d2 he1
          clear he
          go_wp2_with fail
          go_region
          all_goals
            go_wp2_with fail
            go_ret
            rw [HF.out]
            exact ⟨rfl, hb.drew⟩
      · obtain rfl : k = n := by omega
        have HF : Hid (decide ((List.range k).map L = (List.range k).map M) = true) := Lib.hid (decide_eq_true (HX.out.2 HA.out))
        go_wp2_with fail
        go_ret
        rw [HF.out]
        exact ⟨rfl, hb⟩
  · have HF : Hid (decide ((List.range n).map L = (List.range n').map M) = false) := Lib.hid (decide_eq_false (fun e => hnn (by have := congrArg List.length e; simpa using this)))
    have hnn2 : ((n : Int) == (n' : Int)) = false := beq_eq_false_iff_ne.2 (by omega)
    clear hc hc' hnn
    go_enter Tryz.func151, Tryz.ntmps151
    go_wp2_with fail
    go_ret
    rw [HF.out]
    exact ⟨rfl, Below.refl _ _⟩
def verBegins (s h : Str) : Bool :=
  decide (verErr s = 0) && (decide (s = h) || (decide (headErr h = 0) && decide (headNums h = [verNum s 0, verNum s 1].take (headNums h).length)))
theorem nums_two {n : Nat} (L : Nat → Nat) (x y : Nat) (hn : n ≤ 2) : ((List.range n).map L = [x, y].take ((List.range n).map L).length) ↔ ∀ j, j < n → L j = if j = 0 then x else y := by
  obtain rfl | rfl | rfl : n = 0 ∨ n = 1 ∨ n = 2 := by omega
  · simp
  · simp
  · simp [List.range_succ]
    constructor
    · rintro ⟨h1, h2⟩ j hj
      obtain rfl | rfl : j = 0 ∨ j = 1 := by omega
      · simpa using h1
      · simpa using h2
    · intro h
      exact ⟨by simpa using h 0 (by omega), by simpa using h 1 (by omega)⟩
set_option maxRecDepth 100000 in
set_option maxHeartbeats 1000000 in
theorem verBegins_calls (ks : List Nat) (A : Nat → Addr) (s h : ByteArray) (w : World) (hE : EnvP ks A w) (hs : s.size ≤ 1000000000) (hh : h.size ≤ 1000000000) :
    Calls Tryz.prog 91 #[.string s, .string h] w fun e w' => e = .returned (.bool (verBegins s.data.toList h.data.toList)) ∧ Below w.heap.size w w' := by
  have hm : verBegins s.data.toList h.data.toList = (decide (verErr s.data.toList = 0) && (decide (s.data.toList = h.data.toList) || (decide (headErr h.data.toList = 0) && decide (headNums h.data.toList = [verNum s.data.toList 0, verNum s.data.toList 1].take (headNums h.data.toList).length)))) := rfl
  generalize verBegins s.data.toList h.data.toList = R at hm ⊢
  have HM := Lib.hid hm
  clear hm
  go_enter Tryz.func91, Tryz.ntmps91
  go_wp2_with fail
  refine (verSplit_calls ks A s w hE hs).mono ?_
  rintro e w1 ⟨hb1, v, rfl, a, n, cap, L, rfl, _, _, _, _⟩
  have hbA := below_alloc w1 (.cells #[.int .i64 (verNum s.data.toList 0 : Nat), .int .i64 (verNum s.data.toList 1 : Nat), .int .i64 (verNum s.data.toList 2 : Nat), .slice a n cap] 132)
  have hzA := box4_alloc w1 (.int .i64 (verNum s.data.toList 0 : Nat)) (.int .i64 (verNum s.data.toList 1 : Nat)) (.int .i64 (verNum s.data.toList 2 : Nat)) (.slice a n cap) 132
  have hb1A := below_step hb1 hbA
  have hE1 := (hE.below hb1).below hbA
  generalize verNum s.data.toList 0 = x0 at *
  generalize verNum s.data.toList 1 = x1 at *
  generalize verNum s.data.toList 2 = x2 at *
  by_cases h1 : verErr s.data.toList = 0
  · rw [h1, errV_zero]
    by_cases h2 : s.data.toList = h.data.toList
    · have HR : Hid (R = true) := Lib.hid (by rw [HM.out, decide_eq_true h1, decide_eq_true h2]; rfl)
      obtain rfl := bytes_ext.1 h2
      clear h1 h2
      go_wp2_with fail
      go_ret
      rw [HR.out]
      exact ⟨rfl, hb1A⟩
    · have hq1 : (s.toList == h.toList) = false := by rw [toList_data, toList_data]; exact beq_eq_false_iff_ne.2 h2
      have hq2 : s ≠ h := fun e => h2 (by rw [e])
      have HR : Hid (R = (decide (headErr h.data.toList = 0) && decide (headNums h.data.toList = [x0, x1].take (headNums h.data.toList).length))) := Lib.hid (by rw [HM.out, decide_eq_true h1, decide_eq_false h2]; rfl)
      have hl2 := headNums_len h.data.toList
      have hcall := verHead_calls ks A h _ hE1 hh
      generalize headErr h.data.toList = he at hcall HR
      generalize headNums h.data.toList = hn at hcall HR hl2
      have HCall := Lib.hid hcall
      clear h1 h2 hcall HM
      go_wp2_with fail
      refine HCall.out.mono ?_
      rintro e w3 ⟨⟨vh, rfl, hI⟩, hb3⟩
      obtain ⟨a2, n2, cap2, L2, rfl, rfl, hn2, hcap2, hc2⟩ := id hI
      rw [List.length_map, List.length_range] at hl2
      clear HCall
      by_cases h0 : he = 0
      · subst h0
        rw [errV_zero]
        have hz3 := hzA.below hb3
        have c0 := hz3.c0
        have c1 := hz3.c1
        have HR2 : Hid (R = decide ((List.range n2).map L2 = [x0, x1].take ((List.range n2).map L2).length)) := Lib.hid (by rw [HR.out]; rfl)
        have hI3 : IntsAt (w3.alloc (.cells #[.int .i64 x0, .int .i64 x1] 3)) (.slice (some ⟨w3.heap.size, 0, none⟩) n2 2) ((List.range n2).map fun j => if j = 0 then x0 else x1) :=
          ⟨_, n2, 2, _, rfl, rfl, hl2, by decide, fun j hj => ⟨_, 0, rfl, by
            obtain rfl | rfl : j = 0 ∨ j = 1 := by omega
            all_goals simp⟩⟩
        have hbC := below_alloc w3 (.cells #[.int .i64 x0, .int .i64 x1] 3)
        have hEq := equalInts_calls _ _ _ _ _ (hI.below hbC) hI3
        have hiff : decide ((List.range n2).map L2 = (List.range n2).map fun j => if j = 0 then x0 else x1) = decide ((List.range n2).map L2 = [x0, x1].take ((List.range n2).map L2).length) := by
          congr 1
          rw [nums_two L2 x0 x1 hl2]
          simp
        rw [hiff, ← HR2.out] at hEq
        have HEq := Lib.hid hEq
        have hbw := below_step (below_step hb1A hb3) hbC
        have hl2' : (n2 : Int) ≤ 2 := by omega
        clear hEq hiff HR2 hc2 HR hI hI3 hz3 hzA hbC
        go_wp2_with fail
        refine HEq.out.mono ?_
        rintro e w5 ⟨rfl, hb5⟩
        have hb5w := below_step hbw hb5
        clear HEq
        go_wp2_with fail
        go_ret
        exact ⟨rfl, hb5w⟩
      · have HR2 : Hid (R = false) := Lib.hid (by rw [HR.out, decide_eq_false h0]; rfl)
        rw [errV_pos A h0]
        have hbw := below_step hb1A hb3
        clear h0 HR hc2
        go_wp2_with fail
        go_ret
        rw [HR2.out]
        exact ⟨rfl, hbw⟩
  · have HR : Hid (R = false) := Lib.hid (by rw [HM.out, decide_eq_false h1]; rfl)
    rw [errV_pos A h1]
    clear h1
    go_wp2_with fail
    go_ret
    rw [HR.out]
    exact ⟨rfl, hb1A⟩
set_option maxRecDepth 100000 in
set_option maxHeartbeats 1000000 in
theorem doesBegin_calls (s h : ByteArray) (w : World) (hs : s.size ≤ 1000000000) (hh : h.size ≤ 1000000000) :
    Calls Tryz.prog 164 #[.string s, .string h] w fun e w' => e = .returned (.bool (verBegins s.data.toList h.data.toList)) ∧ Below w.heap.size w w' := by
  have hm : verBegins s.data.toList h.data.toList = (decide (verErr s.data.toList = 0) && (decide (s.data.toList = h.data.toList) || (decide (headErr h.data.toList = 0) && decide (headNums h.data.toList = [verNum s.data.toList 0, verNum s.data.toList 1].take (headNums h.data.toList).length)))) := rfl
  generalize verBegins s.data.toList h.data.toList = R at hm ⊢
  have HM := Lib.hid hm
  clear hm
  go_enter Tryz.func164, Tryz.ntmps164
  go_wp2_with fail
  refine (refVerOf_calls s w hs).mono ?_
  rintro e w1 ⟨⟨v, rfl, a, n, cap, L, rfl, _, _, _, _⟩, hb1⟩
  have hbA := below_alloc w1 (.cells #[.int .i64 (verNum s.data.toList 0 : Nat), .int .i64 (verNum s.data.toList 1 : Nat), .int .i64 (verNum s.data.toList 2 : Nat), .slice a n cap] 149)
  have hzA := numsAt_alloc w1 s.data.toList (.slice a n cap) 149
  have hb1A := below_step hb1 hbA
  by_cases h1 : verErr s.data.toList = 0
  · rw [h1]
    by_cases h2 : s.data.toList = h.data.toList
    · have HR : Hid (R = true) := Lib.hid (by rw [HM.out, decide_eq_true h1, decide_eq_true h2]; rfl)
      obtain rfl := bytes_ext.1 h2
      clear h1 h2
      go_wp2_with fail
      go_ret
      rw [HR.out]
      exact ⟨rfl, hb1A⟩
    · have hq1 : (s.toList == h.toList) = false := by rw [toList_data, toList_data]; exact beq_eq_false_iff_ne.2 h2
      have hq2 : s ≠ h := fun e => h2 (by rw [e])
      have HR : Hid (R = (decide (headErr h.data.toList = 0) && decide (headNums h.data.toList = [verNum s.data.toList 0, verNum s.data.toList 1].take (headNums h.data.toList).length))) := Lib.hid (by rw [HM.out, decide_eq_true h1, decide_eq_false h2]; rfl)
      have hl2 := headNums_len h.data.toList
      have hcall := fun W => headOf_calls h W hh
      generalize headErr h.data.toList = he at hcall HR
      generalize headNums h.data.toList = hn at hcall HR hl2
      have HCall := Lib.hid hcall
      clear h1 h2 hcall HM
      go_wp2_with fail
      refine (HCall.out _).mono ?_
      rintro e w3 ⟨⟨vh, rfl, hI⟩, hb3⟩
      obtain ⟨a2, n2, cap2, L2, rfl, rfl, hn2, hcap2, hc2⟩ := id hI
      rw [List.length_map, List.length_range] at hl2
      have hbw := below_step hb1A hb3
      clear HCall
      by_cases h0 : he = 0
      · subst h0
        have HR2 : Hid (R = decide ((List.range n2).map L2 = [verNum s.data.toList 0, verNum s.data.toList 1].take ((List.range n2).map L2).length)) := Lib.hid (by rw [HR.out]; rfl)
        have hiff := nums_two L2 (verNum s.data.toList 0) (verNum s.data.toList 1) hl2
        have HIF := Lib.hid hiff
        have HC2 := Lib.hid hc2
        have hz3 := hzA.below hb3
        clear hiff hc2 HR hI
        go_wp2_with fail
        go_loopw [8] (fun i wr => ∃ k : Nat, k ≤ n2 ∧ i = .int .i64 k ∧ Below w3.heap.size w3 wr ∧ Hid (∀ j, j < k → L2 j = if j = 0 then verNum s.data.toList 0 else verNum s.data.toList 1)) (fun i _ => n2 - (intOf i).toNat)
        case atStart => exact ⟨0, Nat.zero_le _, rfl, Below.refl _ _, Lib.hid (fun j hj => absurd hj (Nat.not_lt_zero _))⟩
        case round =>
          obtain ⟨k, hk, rfl, hbr, HA⟩ := hrel
          have hbrw := below_step hbw hbr
          by_cases hlt : k < n2
          · obtain ⟨b1, o1, rfl, d1⟩ := HC2.out k hlt
            replace d1 := Below.cell_some hbr d1
            have d2 := (hz3.below hbr).c k (by omega)
            have hk3 : k < 3 := by omega
            have hvk : verNum s.data.toList k = if k = 0 then verNum s.data.toList 0 else verNum s.data.toList 1 := by
              obtain rfl | rfl : k = 0 ∨ k = 1 := by omega
              all_goals rfl
            by_cases he : L2 k = verNum s.data.toList k
            · have HN : Hid (∀ j, j < k + 1 → L2 j = if j = 0 then verNum s.data.toList 0 else verNum s.data.toList 1) := Lib.hid (fun j hj => by
                by_cases e : j = k
                · subst e; rw [he, ← hvk]
                · exact HA.out j (by omega))
              rw [he] at d1
              generalize verNum s.data.toList k = y at d1 d2
              clear he hvk
              go_wp2_with fail
              go_region
              all_goals
                go_wp2_with fail
                go_roundw
                case rel => exact ⟨k + 1, by omega, by go_num, hbr.drew, HN⟩
                case measure => simp [intOf]; omega
            · have HF : Hid (R = false) := Lib.hid (by
                rw [HR2.out]
                apply decide_eq_false
                intro e
                exact he (by rw [HIF.out.1 e k hlt, ← hvk]))
              have he1 : (((L2 k : Nat) : Int) == ((verNum s.data.toList k : Nat) : Int)) = false := beq_eq_false_iff_ne.2 (by omega)
              generalize L2 k = x at d1 he1
              generalize verNum s.data.toList k = y at d2 he1
              clear he hvk
              go_wp2_with fail
              go_region
              all_goals
                go_wp2_with fail
                go_ret
                rw [HF.out]
                exact ⟨rfl, hbrw.drew⟩
          · obtain rfl : k = n2 := by omega
            have HF : Hid (R = true) := Lib.hid (by rw [HR2.out]; exact decide_eq_true (HIF.out.2 HA.out))
            go_wp2_with fail
            go_ret
            rw [HF.out]
            exact ⟨rfl, hbrw⟩
      · have HR2 : Hid (R = false) := Lib.hid (by rw [HR.out, decide_eq_false h0]; rfl)
        have h0' : (0 : Int) < (he : Int) := by omega
        clear h0 HR hc2
        go_wp2_with fail
        go_ret
        rw [HR2.out]
        exact ⟨rfl, hbw⟩
  · have HR : Hid (R = false) := Lib.hid (by rw [HM.out, decide_eq_false h1]; rfl)
    have h1' : (0 : Int) < (verErr s.data.toList : Int) := by omega
    generalize verErr s.data.toList = ev at h1'
    clear h1
    go_wp2_with fail
    go_ret
    rw [HR.out]
    exact ⟨rfl, hb1A⟩
end Go.Proofs.Pw

namespace Go.Proofs.Pw
open Go.Lib hiding intOf
def wLatest : Str := [108, 97, 116, 101, 115, 116]
def wUpgrade : Str := [117, 112, 103, 114, 97, 100, 101]
def wPatch : Str := [112, 97, 116, 99, 104]
def wNone : Str := [110, 111, 110, 101]
def qWord (q : Str) : Bool := decide (q = wLatest ∨ q = wUpgrade ∨ q = wPatch ∨ q = wNone)
def signs : List Str := [[60, 61], [62, 61], [60], [62]]
def boundF : List Str → Str → Option (Str × Str)
  | [], _ => none
  | s :: r, q => if hasPrefix q s then some (s, trimPrefix q s) else boundF r q
theorem boundF_len : ∀ {l : List Str} {q : Str} {b : Str × Str}, boundF l q = some b → b.2.length ≤ q.length
  | [], _, _, h => by cases h
  | s :: r, q, b, h => by
    unfold boundF at h
    split at h
    · obtain rfl := Option.some.inj h
      show (trimPrefix q s).length ≤ _
      unfold trimPrefix
      split <;> simp
    · exact boundF_len h
def qBound (q : Str) : Option (Str × Str) := boundF signs q
def qErr (q : Str) : Nat :=
  if qWord q then 0 else match qBound q with
    | some b => verErr b.2
    | none => if verErr q = 1 then headErr q else verErr q
def withinF (sign v s : Str) : Bool :=
  if sign = [60] then verLess s v else if sign = [60, 61] then !verLess v s else if sign = [62] then verLess v s else !verLess s v
def likedF (l : List En) (p : Str) (vs : List Str) (least : Bool) : Option Str :=
  if likedL l p vs = [] then none else some (if least then (likedL l p vs).headD [] else lastS (likedL l p vs))
def patchHead (now : Str) : Str := 118 :: (itoa (verNum now 0 : Nat) ++ 46 :: itoa (verNum now 1 : Nat))
def patchOut (now s : Str) : Bool := !verBegins s (patchHead now) || verLess s now
def patchF (l : List En) (p now : Str) (vs : List Str) : Option Str :=
  if verErr now ≠ 0 then likedF l p vs false else likedF l p (vs.filter fun s => !patchOut now s) false
def namedF (l : List En) (p q now : Str) (vs : List Str) : Option Str :=
  if q = wNone then some q else if q = wPatch then patchF l p now vs
  else (likedF l p vs false).map fun s => if q = wUpgrade then verMax s now else s
def pickF (l : List En) (p q now : Str) : Option Str :=
  if qWord q then namedF l p q now (vsort (versL l p)) else match qBound q with
    | some b => likedF l p ((vsort (versL l p)).filter fun s => !!withinF b.1 b.2 s) (decide (b.1.headD 0 = 62))
    | none => if verErr q = 0 then (if q ∈ vsort (versL l p) then some q else none) else likedF l p ((vsort (versL l p)).filter fun s => !!verBegins s q) false
def pickErr (l : List En) (p q now : Str) : Nat × Int :=
  if qErr q ≠ 0 then (qErr q, -1) else orE (idxErr l) (if (pickF l p q now).isNone then (5, -1) else (0, -1))
def pickS (l : List En) (p q now : Str) : Str := if (pickErr l p q now).1 = 0 then (pickF l p q now).getD [] else []
end Go.Proofs.Pw

namespace Go.Proofs.Pw
open Go.RowKit
open Go.Lib hiding intOf
theorem elemOk_of {s : Str} {b1 b2 b3 b4 : Bool} (h1 : s.isEmpty = b1) (h2 : s.all isElemByte = b2) (h3 : s.all (· == 46) = b3) (h4 : contains s dots = b4) : elemOk s = (!b1 && b2 && !b3 && !b4) := by
  unfold elemOk; rw [h1, h2, h3, h4]
set_option maxHeartbeats 400000 in
theorem elem_calls (ks : List Nat) (A : Nat → Addr) (s : ByteArray) (w : World) (hE : EnvP ks A w) (hs : s.size ≤ 4000000000) :
    Calls Tryz.prog 113 #[.string s] w fun e w' => e = .returned (.bool (elemOk s.data.toList)) ∧ Below w.heap.size w w' := by
  have HP := Lib.hid (trimS_nil_bool s.data.toList elemSet isElemByte elemSet_ok)
  have HQ := Lib.hid (trimS_nil_bool s.data.toList [46] (· == 46) dotSet_ok)
  by_cases he : s.data.toList = []
  · have hr : elemOk s.data.toList = false := by rw [he]; rfl
    have h1 : s.toList.isEmpty = true := by rw [isEmpty_toList, he]; rfl
    have h2 : s.toList = [] := by simpa using h1
    rw [hr]
    clear he hr
    go_enter Tryz.func113, Tryz.ntmps113
    go_wp2_with fail
    go_ret
    exact ⟨rfl, Below.refl _ _⟩
  · have h1 : s.toList.isEmpty = false := by rw [isEmpty_toList]; simpa using he
    have h2 : (s.toList == []) = false := by simpa using h1
    have h0 : s.data.toList.isEmpty = false := by simpa using he
    have H0 := Lib.hid h0
    clear he h0
    cases ha : s.data.toList.all isElemByte with
    | false =>
      rw [show elemOk s.data.toList = false from by rw [elemOk_of H0.out ha rfl rfl]; rfl]
      have e1 : (trimS s.data.toList elemSet == []) = false := by rw [HP.out, ha]
      clear ha
      go_enter Tryz.func113, Tryz.ntmps113
      go_wp2_with fail
      refine (trim_calls _ _ _ hs (by decide) (by decide)).mono ?_
      rintro e w1 ⟨rfl, hb1⟩
      rw [show (⟨#[97, 98, 99, 100, 101, 102, 103, 104, 105, 106, 107, 108, 109, 110, 111, 112, 113, 114, 115, 116, 117, 118, 119, 120, 121, 122, 48, 49, 50, 51, 52, 53, 54, 55, 56, 57, 46, 45, 95]⟩ : ByteArray).data.toList = elemSet from rfl]
      generalize trimS s.data.toList elemSet = t at e1 ⊢
      have e2 : (⟨t.toArray⟩ : ByteArray).toList.isEmpty = false := by rw [toList_mk]; simpa using e1
      have e3 : t.isEmpty = false := by simpa using e1
      clear e1
      go_wp2_with fail
      go_ret
      exact ⟨rfl, hb1⟩
    | true =>
      have e1 : trimS s.data.toList elemSet = [] := by
        have := HP.out
        rw [ha] at this
        exact beq_iff_eq.1 this
      have E1 := Lib.hid e1
      have HA := Lib.hid ha
      clear e1 ha
      cases hd : s.data.toList.all (· == 46) with
      | true =>
        rw [show elemOk s.data.toList = false from by rw [elemOk_of H0.out HA.out hd rfl]; rfl]
        have e1 : trimS s.data.toList [46] = [] := by
          have := HQ.out
          rw [hd] at this
          exact beq_iff_eq.1 this
        have E2 := Lib.hid e1
        clear e1 hd
        go_enter Tryz.func113, Tryz.ntmps113
        go_wp2_with fail
        refine (trim_calls _ _ _ hs (by decide) (by decide)).mono ?_
        rintro e w1 ⟨rfl, hb1⟩
        rw [show (⟨#[97, 98, 99, 100, 101, 102, 103, 104, 105, 106, 107, 108, 109, 110, 111, 112, 113, 114, 115, 116, 117, 118, 119, 120, 121, 122, 48, 49, 50, 51, 52, 53, 54, 55, 56, 57, 46, 45, 95]⟩ : ByteArray).data.toList = elemSet from rfl, E1.out]
        go_wp2_with fail
        refine (trim_calls _ _ _ hs (by decide) (by decide)).mono ?_
        rintro e w2 ⟨rfl, hb2⟩
        rw [show (⟨#[46]⟩ : ByteArray).data.toList = [46] from rfl, E2.out]
        go_wp2_with fail
        go_ret
        exact ⟨rfl, below_step hb1 hb2⟩
      | false =>
        generalize hc : contains s.data.toList dots = c
        rw [show elemOk s.data.toList = !c from by rw [elemOk_of H0.out HA.out hd hc]; simp]
        have HC := Lib.hid hc
        have e1 : (trimS s.data.toList [46] == []) = false := by rw [HQ.out, hd]
        clear hd hc
        go_enter Tryz.func113, Tryz.ntmps113
        go_wp2_with fail
        refine (trim_calls _ _ _ hs (by decide) (by decide)).mono ?_
        rintro e w1 ⟨rfl, hb1⟩
        rw [show (⟨#[97, 98, 99, 100, 101, 102, 103, 104, 105, 106, 107, 108, 109, 110, 111, 112, 113, 114, 115, 116, 117, 118, 119, 120, 121, 122, 48, 49, 50, 51, 52, 53, 54, 55, 56, 57, 46, 45, 95]⟩ : ByteArray).data.toList = elemSet from rfl, E1.out]
        go_wp2_with fail
        refine (trim_calls _ _ _ hs (by decide) (by decide)).mono ?_
        rintro e w2 ⟨rfl, hb2⟩
        have hb12 := below_step hb1 hb2
        rw [show (⟨#[46]⟩ : ByteArray).data.toList = [46] from rfl]
        generalize trimS s.data.toList [46] = t at e1 ⊢
        have e2 : (⟨t.toArray⟩ : ByteArray).toList.isEmpty = false := by rw [toList_mk]; simpa using e1
        have e3 : t.isEmpty = false := by simpa using e1
        clear e1
        go_wp2_with fail
        refine (contains_calls _ _ _ (hE.below hb12).m hs).mono ?_
        rintro e w3 ⟨rfl, rfl⟩
        rw [show (⟨#[46, 46, 46]⟩ : ByteArray).data.toList = dots from rfl, HC.out]
        go_wp2_with fail
        go_ret
        exact ⟨rfl, hb12⟩
theorem itoa_calls (ks : List Nat) (A : Nat → Addr) (n : Nat) (w : World) (hE : EnvP ks A w) (hn : n ≤ 9223372036854775807) :
    Calls Tryz.prog 136 #[.int .i64 n] w fun e w' => e = .returned (.string ⟨(Lib.itoa n).toArray⟩) ∧ Below w.heap.size w w' :=
  (Tryz.strconv_Itoa n (by omega) (by omega) w hE.pow10).mono fun e w' ⟨h, k, os, h2⟩ => ⟨h, by subst h2; exact below_grow _ _ (Nat.le_refl _) _ _⟩
theorem suf_no {s : Str} (h : looksSuf s = false) : isSuf s = false ∧ sufWell s = true := by
  have h1 : isSuf s = false := by unfold isSuf; rw [h]; rfl
  exact ⟨h1, by unfold sufWell; rw [h]; rfl⟩
theorem suf_digits {s : Str} (h : looksSuf s = true) : sufWell s = isSuf s := by unfold sufWell; rw [h]; rfl
theorem suffix_no (ks : List Nat) (A : Nat → Addr) (s : ByteArray) (w : World) (_hE : EnvP ks A w) (hs : s.size ≤ 4000000000) (hl : looksSuf s.data.toList = false) :
    Calls Tryz.prog 110 #[.string s] w fun e w' => e = .returned (.tuple #[.int .i64 0, .bool false, .bool true]) ∧ Below w.heap.size w w' := by
  have ht : (trimPrefix s.data.toList [118]).length ≤ s.size := by rw [size_eq s]; exact trimPrefix_le _ _
  cases hp : hasPrefix s.data.toList [118] with
  | false =>
    go_enter Tryz.func110, Tryz.ntmps110
    go_wp2_with fail
    refine (cutPrefix_calls _ _ _).mono ?_
    rintro e w1 ⟨rfl, rfl⟩
    rw [show (⟨#[118]⟩ : ByteArray).data.toList = [118] from rfl, hp]
    clear hp hl
    go_wp2_with fail
    all_goals go_ret3
    all_goals exact ⟨rfl, Below.refl _ _⟩
  | true =>
    have hd : areDigits (trimPrefix s.data.toList [118]) = false := by
      have := hl
      unfold looksSuf sufD at this
      rw [hp] at this
      exact this
    have HP := Lib.hid hp
    have HQ := Lib.hid (trimS_nil_bool (trimPrefix s.data.toList [118]) digitsSet isDig digitsSet_ok)
    clear hp hl
    go_enter Tryz.func110, Tryz.ntmps110
    go_wp2_with fail
    refine (cutPrefix_calls _ _ _).mono ?_
    rintro e w1 ⟨rfl, rfl⟩
    rw [show (⟨#[118]⟩ : ByteArray).data.toList = [118] from rfl, HP.out]
    by_cases h0 : trimPrefix s.data.toList [118] = []
    · rw [h0]
      clear hd HQ h0
      go_wp2_with fail
      all_goals go_ret3
      all_goals exact ⟨rfl, Below.refl _ _⟩
    · have hne : (⟨(trimPrefix s.data.toList [118]).toArray⟩ : ByteArray).toList.isEmpty = false := by rw [toList_mk]; simpa using h0
      have hne2 : (trimPrefix s.data.toList [118]).isEmpty = false := by simpa using h0
      have hne3 : ((trimPrefix s.data.toList [118]) == []) = false := by simpa using h0
      have e1 : (trimS (trimPrefix s.data.toList [118]) digitsSet == []) = false := by
        rw [HQ.out]
        unfold areDigits at hd
        rw [hne2] at hd
        simpa using hd
      have ht4 : (⟨(trimPrefix s.data.toList [118]).toArray⟩ : ByteArray).size ≤ 4000000000 := Nat.le_trans ht hs
      generalize trimPrefix s.data.toList [118] = D at e1 hne hne2 hne3 ht4 ⊢
      clear hd HQ h0 ht
      go_wp2_with fail
      refine (trim_calls _ _ _ ht4 (by decide) (by decide)).mono ?_
      rintro e w2 ⟨rfl, hb2⟩
      rw [show (⟨#[48, 49, 50, 51, 52, 53, 54, 55, 56, 57]⟩ : ByteArray).data.toList = digitsSet from rfl, data_mk]
      generalize trimS D digitsSet = t at e1 ⊢
      have e2 : (⟨t.toArray⟩ : ByteArray).toList.isEmpty = false := by rw [toList_mk]; simpa using e1
      have e3 : t.isEmpty = false := by simpa using e1
      clear e1
      go_wp2_with fail
      go_ret3
      exact ⟨rfl, hb2⟩
theorem suffix_dig (ks : List Nat) (A : Nat → Addr) (s : ByteArray) (w : World) (hE : EnvP ks A w) (hs : s.size ≤ 4000000000) (hl : looksSuf s.data.toList = true) :
    Calls Tryz.prog 110 #[.string s] w fun e w' => (∃ n : Int, e = .returned (.tuple #[.int .i64 n, .bool (isSuf s.data.toList), .bool (isSuf s.data.toList)]) ∧ (isSuf s.data.toList = true → n = (sufNum s.data.toList : Nat))) ∧ Below w.heap.size w w' := by
  have ht : (trimPrefix s.data.toList [118]).length ≤ s.size := by rw [size_eq s]; exact trimPrefix_le _ _
  have hl2 : hasPrefix s.data.toList [118] = true ∧ areDigits (trimPrefix s.data.toList [118]) = true := by
    unfold looksSuf sufD at hl
    simpa using hl
  have his : isSuf s.data.toList = decide ((numberOf (trimPrefix s.data.toList [118])).2 = 0 ∧ 2 ≤ (numberOf (trimPrefix s.data.toList [118])).1) := by unfold isSuf; rw [hl]; rfl
  have hnu : sufNum s.data.toList = (numberOf (trimPrefix s.data.toList [118])).1 := rfl
  obtain ⟨hp, hd⟩ := hl2
  have HP := Lib.hid hp
  have ht4 : (⟨(trimPrefix s.data.toList [118]).toArray⟩ : ByteArray).size ≤ 4000000000 := Nat.le_trans ht hs
  generalize isSuf s.data.toList = R at his ⊢
  generalize sufNum s.data.toList = N at hnu ⊢
  generalize hD : trimPrefix s.data.toList [118] = D at hd ht4 his hnu
  have HR := Lib.hid his
  have HN := Lib.hid hnu
  have HDD := Lib.hid hD
  clear hp hl his hnu hD
  go_enter Tryz.func110, Tryz.ntmps110
  go_wp2_with fail
  refine (cutPrefix_calls _ _ _).mono ?_
  rintro e w1 ⟨rfl, rfl⟩
  rw [show (⟨#[118]⟩ : ByteArray).data.toList = [118] from rfl, HP.out, HDD.out]
  clear ht
  have h0 : D ≠ [] := by intro e; rw [e] at hd; exact absurd hd (by decide)
  have hne : (⟨D.toArray⟩ : ByteArray).toList.isEmpty = false := by rw [toList_mk]; simpa using h0
  have hne2 : D.isEmpty = false := by simpa using h0
  have hne3 : (D == []) = false := by simpa using h0
  have e1 : trimS D digitsSet = [] := by
    have := trimS_nil_bool D digitsSet isDig digitsSet_ok
    have hd2 := hd
    unfold areDigits at hd2
    rw [hne2] at hd2
    rw [show D.all isDig = true by simpa using hd2] at this
    exact beq_iff_eq.1 this
  have E1 := Lib.hid e1
  have HD := Lib.hid hd
  clear e1 hd h0
  go_wp2_with fail
  refine (trim_calls _ _ _ ht4 (by decide) (by decide)).mono ?_
  rintro e w2 ⟨rfl, hb2⟩
  rw [show (⟨#[48, 49, 50, 51, 52, 53, 54, 55, 56, 57]⟩ : ByteArray).data.toList = digitsSet from rfl, data_mk, E1.out]
  have hE2 := hE.below hb2
  go_wp2_with fail
  refine (atoi_calls ks A _ _ hE2 ht4 HD.out).mono ?_
  rintro e w3 ⟨hr, hb3⟩
  have hb23 := below_step hb2 hb3
  have hE3 := hE.below hb23
  rcases hr with ⟨x, te, pe, rfl, h7⟩ | rfl
  · have hf : ¬ ((numberOf D).2 = 0 ∧ 2 ≤ (numberOf D).1) := by
      rintro ⟨h, _⟩
      by_cases hz : areDigits D = false ∨ (1 < D.length ∧ D.head? = some 48)
      · rw [numberOf_text hz] at h; exact absurd h (by decide)
      · rw [numberOf_long hz h7] at h; exact absurd h (by decide)
    have HF := Lib.hid hf
    clear hf h7 hE3 hE2 hne hne2 hne3 ht4
    go_wp2_with fail
    go_ret3
    have hR : R = false := by rw [HR.out, decide_eq_false HF.out]
    rw [hR]
    exact ⟨⟨x, rfl, fun h => absurd h (by decide)⟩, hb23⟩
  · rw [data_mk]
    have hsm := decVal_small HD.out
    have hit := itoa_decVal HD.out
    have hnum : (1 < D.length ∧ D.head? = some 48) ∨ (¬ (1 < D.length ∧ D.head? = some 48)) := Decidable.em _
    have hv63 : decVal D ≤ 999999 ∨ 999999 < decVal D := Nat.lt_or_ge 999999 (decVal D) |>.symm
    generalize hv : decVal D = v at hsm hit hv63 ⊢
    have HV := Lib.hid hv
    clear hv
    by_cases h2 : v < 2
    · have HF : Hid (R = false) := by
        refine Lib.hid ?_
        rw [HR.out]
        apply decide_eq_false
        rintro ⟨h, h3⟩
        by_cases hz : areDigits D = false ∨ (1 < D.length ∧ D.head? = some 48)
        · rw [numberOf_text hz] at h; exact absurd h (by decide)
        · by_cases hl6 : 6 < D.length
          · rw [numberOf_long hz hl6] at h; exact absurd h (by decide)
          · rw [numberOf_ok hz hl6, HV.out] at h3; simp only at h3; omega
      clear hE3 hE2 hne hne2 hne3 ht4 hsm hit hnum hv63
      go_wp2_with fail
      go_ret3
      rw [HF.out]
      exact ⟨⟨_, rfl, fun h => absurd h (by decide)⟩, hb23⟩
    · rcases hv63 with hle | hgt
      · have hita := itoa_calls ks A v w3 hE3 (by omega)
        by_cases heq : itoa ((v : Nat) : Int) = D
        · have hz := hit.1 heq
          have hl6 := (hsm hz).1 hle
          have HF : Hid (R = true ∧ N = v) := by
            have hzz : ¬ (areDigits D = false ∨ (1 < D.length ∧ D.head? = some 48)) := by
              rintro (h | h)
              · rw [HD.out] at h; exact absurd h (by decide)
              · exact hz h
            have e := numberOf_ok hzz (Nat.not_lt.2 hl6)
            rw [HV.out] at e
            refine Lib.hid ⟨?_, ?_⟩
            · rw [HR.out, e]
              simp only
              rw [decide_eq_true]
              exact ⟨trivial, by omega⟩
            · rw [HN.out, e]
          have HQ := Lib.hid heq
          clear hE3 hE2 hne hne2 hne3 ht4 hsm hit hnum hz hl6 heq
          go_wp2_with fail
          refine hita.mono ?_
          rintro e w4 ⟨rfl, hb4⟩
          rw [HQ.out]
          have hb24 := below_step hb23 hb4
          clear hita
          go_wp2_with fail
          go_ret3
          rw [HF.out.1, HF.out.2]
          exact ⟨⟨_, rfl, fun _ => rfl⟩, hb24⟩
        · have hz : 1 < D.length ∧ D.head? = some 48 := Decidable.of_not_not fun h => heq (hit.2 h)
          have HF : Hid (R = false) := by
            refine Lib.hid ?_
            rw [HR.out]
            apply decide_eq_false
            rintro ⟨h, h3⟩
            rw [numberOf_text (.inr hz)] at h
            exact absurd h (by decide)
          generalize itoa ((v : Nat) : Int) = t at heq hita
          have hq1 : (t == D) = false := beq_eq_false_iff_ne.2 heq
          have hq2 : (⟨t.toArray⟩ : ByteArray) ≠ ⟨D.toArray⟩ := by
            intro e; injection e with e; exact heq (by simpa using congrArg Array.toList e)
          have hq4 : ((⟨t.toArray⟩ : ByteArray).toList == (⟨D.toArray⟩ : ByteArray).toList) = false := by rw [toList_mk, toList_mk]; exact hq1
          clear hE3 hE2 hne hne2 hne3 ht4 hsm hit hnum hz
          go_wp2_with fail
          refine hita.mono ?_
          rintro e w4 ⟨rfl, hb4⟩
          have hb24 := below_step hb23 hb4
          clear hita
          go_wp2_with fail
          go_ret3
          rw [HF.out]
          exact ⟨⟨_, rfl, fun h => absurd h (by decide)⟩, hb24⟩
      · have HF : Hid (R = false) := by
          refine Lib.hid ?_
          rw [HR.out]
          apply decide_eq_false
          rintro ⟨h, h3⟩
          by_cases hz : areDigits D = false ∨ (1 < D.length ∧ D.head? = some 48)
          · rw [numberOf_text hz] at h; exact absurd h (by decide)
          · by_cases hl6 : 6 < D.length
            · rw [numberOf_long hz hl6] at h; exact absurd h (by decide)
            · have := (hsm (fun e => hz (.inr e))).2 (by omega)
              omega
        clear hE3 hE2 hne hne2 hne3 ht4 hsm hit hnum
        go_wp2_with fail
        go_ret3
        rw [HF.out]
        exact ⟨⟨_, rfl, fun h => absurd h (by decide)⟩, hb23⟩
end Go.Proofs.Pw
