/- Pf: walks and plain laws, joined: Reached ErrIs Query1 SlDel SortLayS. Conditions: at each theorem. -/
import Derived.Test.YtkfnhchlfojomaaGreatDoorPfp
import Derived.Test.YtkfnhchlfojomaaGreatDoorProg
import Derived.WalkKit
import Derived.LaidEql
import Derived.Stop.Asserts
import Derived.RowKitTokens
import Derived.Lib.Hide
import Derived.Test.YtkfnhchlfojomaaGreatDoorPfj
import Derived.Test.YtkfnhchlfojomaaGreatDoorShelf
import Derived.Test.YtkfnhchlfojomaaGreatDoorPfb
import Derived.Lib.SlKept
import Derived.Lib.SliceRun
import Derived.LoopTactic
import Derived.Sort.EncStr
import Derived.Deep.LoopGhost
import Derived.Shelf.Abstract
import Derived.RegionTactic
import Derived.BigRegion
import Derived.Shelf.SlSortCmp.NoneTotal

namespace Go.Proofs.Pw
open Go.RowKit
open Go.Lib hiding intOf
def sA : ByteArray := ⟨#[97]⟩
def sB : ByteArray := ⟨#[98]⟩
def v100 : ByteArray := ⟨#[118, 49, 46, 48, 46, 48]⟩
def v110 : ByteArray := ⟨#[118, 49, 46, 49, 46, 48]⟩
def v010 : ByteArray := ⟨#[118, 48, 46, 49, 46, 48]⟩
def smB (_ : Nat) : Bool := false
theorem new_cell (W : World) (cs : List Value) (t : TypeId) {N : Nat} (h : W.heap.size = N) {c : Nat} {u : Value} (hc : cs[c]? = some u) : (W.alloc (.cells cs.toArray t)).cell? ⟨N, c, none⟩ = some u := by
  subst h
  have := World.news_of_block (cs := cs.toArray) (Go.Deep.blk_alloc_new W (.cells cs.toArray t)) c u (by simpa using hc)
  rw [Addr.add_lit, Nat.zero_add] at this
  exact this
end Go.Proofs.Pw

namespace Go.Proofs.Pw
open Go.RowKit Go.Extern.Stop Go.Stop Go.Extern
theorem Tryz.is_typeOf (v : Value) (w : World) : (Extern.ReflectliteType.typeOf #[.iface 314 v]).run Tryz.prog w = .ok (.iface 252 (.agg #[.pointer (some ⟨19, 314, none⟩)])) w := by kernel_rfl
theorem Tryz.is_comparable (w : World) : (Extern.ReflectliteType.method (fun t => do Rtype.noPackHeld "Comparable" t; pure (.bool (← typeInfo t).comparable)) #[.agg #[.pointer (some ⟨19, 314, none⟩)]]).run Tryz.prog w = .ok (.bool true) w := by kernel_rfl
theorem Tryz.is_callComparable (w : World) : (callFunc 328 #[.agg #[.pointer (some ⟨19, 314, none⟩)]]).run Tryz.prog w = .ok (.value (.bool true)) w := by
  have h := @run_callFunc_extern Tryz.prog 328 _ (Extern.ReflectliteType.method fun t => do Rtype.noPackHeld "Comparable" t; pure (.bool (← typeInfo t).comparable)) Tryz.func328 (by kernel_rfl) (by kernel_rfl) (by kernel_rfl) (by kernel_rfl)
  rw [h, Tryz.is_comparable]
  rfl
theorem Tryz.is_methodComparable (v : Value) (w : World) : (Go.method 451 252 v "Comparable").run Tryz.prog w = .ok (328, v) w := by kernel_rfl
theorem Tryz.is_comp : (Tryz.prog.info? 314).map (·.comparable) = some true := by kernel_rfl
theorem Tryz.is_size : (Tryz.prog.info? 316).map (·.size) = some 1 := by kernel_rfl
theorem Tryz.no_isE (v : Value) (xT : TypeId) (w : World) : (Instr.typeAssert (.iface 314 v) xT 263 true).run Tryz.prog w = .ok (.tuple #[.nilIface, .bool false]) w := run_typeAssert_lacksB Tryz.underlying263 (by kernel_rfl) (by kernel_rfl) v xT w
theorem Tryz.no_asE (v : Value) (xT : TypeId) (w : World) : (Instr.typeAssert (.iface 314 v) xT 256 true).run Tryz.prog w = .ok (.tuple #[.nilIface, .bool false]) w := run_typeAssert_lacksB Tryz.underlying256 (by kernel_rfl) (by kernel_rfl) v xT w
theorem Tryz.no_unwrapE (v : Value) (xT : TypeId) (w : World) : (Instr.typeAssert (.iface 314 v) xT 259 true).run Tryz.prog w = .ok (.tuple #[.nilIface, .bool false]) w := run_typeAssert_lacksB Tryz.underlying259 (by kernel_rfl) (by kernel_rfl) v xT w
theorem Tryz.no_unwrapsE (v : Value) (xT : TypeId) (w : World) : (Instr.typeAssert (.iface 314 v) xT 261 true).run Tryz.prog w = .ok (.tuple #[.nilIface, .bool false]) w := run_typeAssert_lacksB Tryz.underlying261 (by kernel_rfl) (by kernel_rfl) v xT w
theorem Tryz.no_isF (v : Value) (xT : TypeId) (w : World) : (Instr.typeAssert (.iface 105 v) xT 263 true).run Tryz.prog w = .ok (.tuple #[.nilIface, .bool false]) w := run_typeAssert_lacksB Tryz.underlying263 (by kernel_rfl) (by kernel_rfl) v xT w
theorem Tryz.has_unwrapF (v : Value) (xT : TypeId) (w : World) : (Instr.typeAssert (.iface 105 v) xT 259 true).run Tryz.prog w = .ok (.tuple #[.iface 105 v, .bool true]) w := run_typeAssert_hasB Tryz.underlying259 (by kernel_rfl) v xT w
theorem Tryz.method_unwrapF (v : Value) (w : World) : (Go.method 451 105 v "Unwrap").run Tryz.prog w = .ok (322, v) w := by kernel_rfl
theorem is_same (a : Addr) (w : World) :
    Calls Tryz.prog 129 #[.iface 314 (.pointer (some a)), .iface 314 (.pointer (some a))] w fun e w' => e = .returned (.bool true) ∧ w = w' := by
  obtain ⟨i, hi, hcmp⟩ := Option.map_eq_some_iff.1 Tryz.is_comp
  obtain ⟨j, hj, hjs⟩ := Option.map_eq_some_iff.1 Tryz.is_size
  have h8 := @run_callFunc_extern Tryz.prog 183 _ Extern.ReflectliteType.typeOf Tryz.func183 (by kernel_rfl) (by kernel_rfl) (by kernel_rfl) (by kernel_rfl)
  have h32 := Tryz.is_callComparable
  have tT := Tryz.is_typeOf
  have mR := Tryz.is_methodComparable
  have heq := run_eql_iface_ptr_same (P := Tryz.prog) w a Tryz.underlying41 Tryz.underlying314 hi hcmp hj
  go_enter Tryz.func129, Tryz.ntmps129
  go_wp2
  refine wp_loop_rounds 1 ?_
  rw [rounds_succ]
  go_wp2
  go_ret
  exact ⟨rfl, rfl⟩
theorem is_other (a b : Addr) (ca cb : Array Value) (ta tb : TypeId) (w : World) (hne : a ≠ b) (ha : w.heap[a.block]? = some (.cells ca ta (0, 0))) (hb : w.heap[b.block]? = some (.cells cb tb (0, 0))) :
    Calls Tryz.prog 129 #[.iface 314 (.pointer (some a)), .iface 314 (.pointer (some b))] w fun e w' => e = .returned (.bool false) ∧ w = w' := by
  obtain ⟨i, hi, hcmp⟩ := Option.map_eq_some_iff.1 Tryz.is_comp
  obtain ⟨j, hj, hjs⟩ := Option.map_eq_some_iff.1 Tryz.is_size
  have h8 := @run_callFunc_extern Tryz.prog 183 _ Extern.ReflectliteType.typeOf Tryz.func183 (by kernel_rfl) (by kernel_rfl) (by kernel_rfl) (by kernel_rfl)
  have h32 := Tryz.is_callComparable
  have tT := Tryz.is_typeOf
  have mR := Tryz.is_methodComparable
  have nE := Tryz.no_isE
  have uE := Tryz.no_unwrapE
  have vE := Tryz.no_unwrapsE
  have heq := run_eql_iface_ptr_other (P := Tryz.prog) w Tryz.underlying41 Tryz.underlying314 hi hcmp hj (by rw [hjs]; decide) hne ha hb
  go_enter Tryz.func129, Tryz.ntmps129
  go_wp2
  refine wp_loop_rounds 1 ?_
  rw [rounds_succ]
  go_wp2
  go_ret
  exact ⟨rfl, rfl⟩
theorem is_fault_same (pb : Nat) (b : Addr) (w : World) (h1 : w.cell? ⟨pb, 1, none⟩ = some (.iface 314 (.pointer (some b)))) :
    Calls Tryz.prog 129 #[.iface 105 (.pointer (some ⟨pb, 0, none⟩)), .iface 314 (.pointer (some b))] w fun e w' => e = .returned (.bool true) ∧ w = w' := by
  obtain ⟨i, hi, hcmp⟩ := Option.map_eq_some_iff.1 Tryz.is_comp
  obtain ⟨j, hj, hjs⟩ := Option.map_eq_some_iff.1 Tryz.is_size
  have h8 := @run_callFunc_extern Tryz.prog 183 _ Extern.ReflectliteType.typeOf Tryz.func183 (by kernel_rfl) (by kernel_rfl) (by kernel_rfl) (by kernel_rfl)
  have h32 := Tryz.is_callComparable
  have tT := Tryz.is_typeOf
  have mR := Tryz.is_methodComparable
  have nF := Tryz.no_isF
  have uF := Tryz.has_unwrapF
  have mU := Tryz.method_unwrapF
  have heq := run_eql_iface_ptr_same (P := Tryz.prog) w b Tryz.underlying41 Tryz.underlying314 hi hcmp hj
  have hty := run_eql_iface_types (P := Tryz.prog) 105 314 (.pointer (some ⟨pb, 0, none⟩)) (.pointer (some b)) Tryz.underlying41 (by decide) w
  go_enter Tryz.func129, Tryz.ntmps129
  go_wp2
  refine wp_loop_rounds 2 ?_
  rw [rounds_succ]
  go_wp2
  rw [rounds_succ]
  go_wp2
  go_ret
  exact ⟨rfl, rfl⟩
theorem is_fault_other (pb : Nat) (b a : Addr) (ca cb : Array Value) (ta tb : TypeId) (w : World) (h1 : w.cell? ⟨pb, 1, none⟩ = some (.iface 314 (.pointer (some a)))) (hne : a ≠ b) (ha : w.heap[a.block]? = some (.cells ca ta (0, 0))) (hb : w.heap[b.block]? = some (.cells cb tb (0, 0))) :
    Calls Tryz.prog 129 #[.iface 105 (.pointer (some ⟨pb, 0, none⟩)), .iface 314 (.pointer (some b))] w fun e w' => e = .returned (.bool false) ∧ w = w' := by
  obtain ⟨i, hi, hcmp⟩ := Option.map_eq_some_iff.1 Tryz.is_comp
  obtain ⟨j, hj, hjs⟩ := Option.map_eq_some_iff.1 Tryz.is_size
  have h8 := @run_callFunc_extern Tryz.prog 183 _ Extern.ReflectliteType.typeOf Tryz.func183 (by kernel_rfl) (by kernel_rfl) (by kernel_rfl) (by kernel_rfl)
  have h32 := Tryz.is_callComparable
  have tT := Tryz.is_typeOf
  have mR := Tryz.is_methodComparable
  have nE := Tryz.no_isE
  have uE := Tryz.no_unwrapE
  have vE := Tryz.no_unwrapsE
  have nF := Tryz.no_isF
  have uF := Tryz.has_unwrapF
  have mU := Tryz.method_unwrapF
  have heq := run_eql_iface_ptr_other (P := Tryz.prog) w Tryz.underlying41 Tryz.underlying314 hi hcmp hj (by rw [hjs]; decide) hne ha hb
  have hty := run_eql_iface_types (P := Tryz.prog) 105 314 (.pointer (some ⟨pb, 0, none⟩)) (.pointer (some b)) Tryz.underlying41 (by decide) w
  go_enter Tryz.func129, Tryz.ntmps129
  go_wp2
  refine wp_loop_rounds 2 ?_
  rw [rounds_succ]
  go_wp2
  rw [rounds_succ]
  go_wp2
  go_ret
  exact ⟨rfl, rfl⟩
end Go.Proofs.Pw

namespace Go.Proofs.Pw
open Go.RowKit
open Go.Lib hiding intOf
def bLatest : ByteArray := ⟨#[108, 97, 116, 101, 115, 116]⟩
def bUpgrade : ByteArray := ⟨#[117, 112, 103, 114, 97, 100, 101]⟩
def bPatch : ByteArray := ⟨#[112, 97, 116, 99, 104]⟩
def bNone : ByteArray := ⟨#[110, 111, 110, 101]⟩
set_option maxHeartbeats 1000000 in
set_option maxRecDepth 100000 in
theorem qWord_calls (q : ByteArray) (w : World) :
    Calls Tryz.prog 82 #[.string q] w fun e w' => e = .returned (.bool (qWord q.data.toList)) ∧ Below w.heap.size w w' := by
  have hB := below_alloc w (.cells #[.string bLatest, .string bUpgrade, .string bPatch, .string bNone] 9)
  have hc := fun c u h => new_cell w [.string bLatest, .string bUpgrade, .string bPatch, .string bNone] 9 rfl (c := c) (u := u) h
  have hco := Tryz.slices_Contains_string w.heap.size 0 4 4 [bLatest, bUpgrade, bPatch, bNone] q (w.alloc (.cells #[.string bLatest, .string bUpgrade, .string bPatch, .string bNone] 9)) (Nat.le_refl _) (by decide) (fun j hj => by
    have hj4 : j < 4 := hj
    rw [Nat.zero_add]
    match j, hj4 with
    | 0, _ => exact hc 0 _ rfl
    | 1, _ => exact hc 1 _ rfl
    | 2, _ => exact hc 2 _ rfl
    | 3, _ => exact hc 3 _ rfl)
  have hR : Lib.containsS (([bLatest, bUpgrade, bPatch, bNone] : List ByteArray).take 4) q = qWord q.data.toList := by
    rw [Bool.eq_iff_iff, Lib.containsS_iff]
    unfold qWord
    rw [decide_eq_true_iff]
    have hb : ∀ (b : ByteArray), q = b ↔ q.data.toList = b.data.toList := fun b => (bytes_eq (a := q) (b := b)).symm
    show q ∈ [bLatest, bUpgrade, bPatch, bNone] ↔ _
    simp only [List.mem_cons, List.mem_nil_iff, or_false, hb]
    exact Iff.rfl
  rw [hR] at hco
  unfold bLatest bUpgrade bPatch bNone at hco hB
  replace hco := Lib.hid hco
  clear hc hR
  go_enter Tryz.func82, Tryz.ntmps82
  go_wp2_with fail
  refine hco.out.mono ?_
  rintro e w' ⟨rfl, rfl⟩
  go_wp2_with fail
  go_ret
  exact ⟨rfl, hB⟩
set_option maxHeartbeats 2000000 in
set_option maxRecDepth 100000 in
theorem within_calls (ks : List Nat) (A : Nat → Addr) (sign v s : ByteArray) (w : World) (hE : EnvP ks A w) (hv : v.size ≤ 1000000000) (hs : s.size ≤ 1000000000) :
    Calls Tryz.prog 88 #[.string sign, .string v, .string s] w fun e w' => e = .returned (.bool (withinF sign.data.toList v.data.toList s.data.toList)) ∧ Below w.heap.size w w' := by
  have h1 := verLess_calls ks A s v w hE hs hv
  have h2 := verLess_calls ks A v s w hE hv hs
  have hm : withinF sign.data.toList v.data.toList s.data.toList = if sign.data.toList = [60] then verLess s.data.toList v.data.toList else if sign.data.toList = [60, 61] then !verLess v.data.toList s.data.toList else if sign.data.toList = [62] then verLess v.data.toList s.data.toList else !verLess s.data.toList v.data.toList := rfl
  generalize withinF sign.data.toList v.data.toList s.data.toList = X at hm ⊢
  generalize verLess s.data.toList v.data.toList = D1 at h1 hm
  generalize verLess v.data.toList s.data.toList = D2 at h2 hm
  replace h1 := Lib.hid h1
  replace h2 := Lib.hid h2
  clear hE
  by_cases e1 : sign.data.toList = [60]
  · rw [if_pos e1] at hm
    subst hm
    have q1 : (sign.toList == [60]) = true := by rw [toList_data, e1]; rfl
    clear e1
    go_enter Tryz.func88, Tryz.ntmps88
    go_wp2_with fail
    refine h1.out.mono ?_
    rintro e w1 ⟨rfl, hb⟩
    go_wp2_with fail
    go_ret
    exact ⟨rfl, hb⟩
  · rw [if_neg e1] at hm
    have q1 : (sign.toList == [60]) = false := by rw [toList_data]; exact beq_eq_false_iff_ne.2 e1
    clear e1
    by_cases e2 : sign.data.toList = [60, 61]
    · rw [if_pos e2] at hm
      subst hm
      have q2 : (sign.toList == [60, 61]) = true := by rw [toList_data, e2]; rfl
      clear e2
      go_enter Tryz.func88, Tryz.ntmps88
      go_wp2_with fail
      refine h2.out.mono ?_
      rintro e w1 ⟨rfl, hb⟩
      go_wp2_with fail
      go_ret
      exact ⟨rfl, hb⟩
    · rw [if_neg e2] at hm
      have q2 : (sign.toList == [60, 61]) = false := by rw [toList_data]; exact beq_eq_false_iff_ne.2 e2
      clear e2
      by_cases e3 : sign.data.toList = [62]
      · rw [if_pos e3] at hm
        subst hm
        have q3 : (sign.toList == [62]) = true := by rw [toList_data, e3]; rfl
        clear e3
        go_enter Tryz.func88, Tryz.ntmps88
        go_wp2_with fail
        refine h2.out.mono ?_
        rintro e w1 ⟨rfl, hb⟩
        go_wp2_with fail
        go_ret
        exact ⟨rfl, hb⟩
      · rw [if_neg e3] at hm
        subst hm
        have q3 : (sign.toList == [62]) = false := by rw [toList_data]; exact beq_eq_false_iff_ne.2 e3
        clear e3
        go_enter Tryz.func88, Tryz.ntmps88
        go_wp2_with fail
        refine h1.out.mono ?_
        rintro e w1 ⟨rfl, hb⟩
        go_wp2_with fail
        go_ret
        exact ⟨rfl, hb⟩
def boundV : Option (Str × Str) → Value
  | none => .tuple #[.string ⟨#[]⟩, .string ⟨#[]⟩, .bool false]
  | some b => .tuple #[.string ⟨b.1.toArray⟩, .string ⟨b.2.toArray⟩, .bool true]
def bS (j : Nat) : ByteArray := if j = 0 then ⟨#[60, 61]⟩ else if j = 1 then ⟨#[62, 61]⟩ else if j = 2 then ⟨#[60]⟩ else ⟨#[62]⟩
theorem boundF_drop (q : Str) (k : Nat) (hk : k < 4) : boundF (signs.drop k) q = if hasPrefix q (bS k).data.toList then some ((bS k).data.toList, trimPrefix q (bS k).data.toList) else boundF (signs.drop (k + 1)) q := by
  match k, hk with
  | 0, _ => rfl
  | 1, _ => rfl
  | 2, _ => rfl
  | 3, _ => rfl
set_option maxHeartbeats 2000000 in
set_option maxRecDepth 100000 in
theorem bound_calls (q : ByteArray) (w : World) :
    Calls Tryz.prog 84 #[.string q] w fun e w' => e = .returned (boundV (qBound q.data.toList)) ∧ Below w.heap.size w w' := by
  have hB := below_alloc w (.cells #[.string ⟨#[60, 61]⟩, .string ⟨#[62, 61]⟩, .string ⟨#[60]⟩, .string ⟨#[62]⟩] 9)
  have hc : ∀ j, j < 4 → (w.alloc (.cells #[.string ⟨#[60, 61]⟩, .string ⟨#[62, 61]⟩, .string ⟨#[60]⟩, .string ⟨#[62]⟩] 9)).cell? ⟨w.heap.size, j, none⟩ = some (.string (bS j)) := fun j hj => by
    have h := fun c u h => new_cell w [.string ⟨#[60, 61]⟩, .string ⟨#[62, 61]⟩, .string ⟨#[60]⟩, .string ⟨#[62]⟩] 9 rfl (c := c) (u := u) h
    match j, hj with
    | 0, _ => exact h 0 _ rfl
    | 1, _ => exact h 1 _ rfl
    | 2, _ => exact h 2 _ rfl
    | 3, _ => exact h 3 _ rfl
  have hcp := Tryz.strings_CutPrefix q
  have HC := Lib.hid hc
  replace hcp := Lib.hid hcp
  clear hc
  go_enter Tryz.func84, Tryz.ntmps84
  go_wp2_with fail
  generalize w.alloc (.cells #[.string ⟨#[60, 61]⟩, .string ⟨#[62, 61]⟩, .string ⟨#[60]⟩, .string ⟨#[62]⟩] 9) = w1 at *
  go_loopw [6, 7, 8, 11] (fun _ _ _ i wr => ∃ k : Nat, k ≤ 4 ∧ i = .int .i64 k ∧ wr = w1 ∧ Hid (qBound q.data.toList = boundF (signs.drop k) q.data.toList)) (fun _ _ _ i _ => 4 - (intOf i).toNat)
  case atStart => exact ⟨0, by decide, rfl, rfl, Lib.hid rfl⟩
  case round =>
    obtain ⟨k, hk, rfl, rfl, HQ⟩ := hrel
    by_cases hlt : k < 4
    · have hkn : (k : Int) < 4 := by omega
      have c0 := HC.out k hlt
      have hst := boundF_drop q.data.toList k hlt
      rw [← HQ.out] at hst
      have hcc := hcp.out (bS k) wr
      cases hp : hasPrefix q.data.toList (bS k).data.toList with
      | true =>
        rw [hp] at hcc
        rw [hp, if_pos rfl] at hst
        have HST := Lib.hid hst
        generalize trimPrefix q.data.toList (bS k).data.toList = R at hcc HST
        generalize bS k = s at *
        replace hcc := Lib.hid hcc
        clear hp hst
        go_wp2_with fail
        refine hcc.out.mono ?_
        rintro e w' ⟨rfl, rfl⟩
        go_wp2_with fail
        refine bodyPost_ret (v := .tuple #[.string s, .string ⟨R.toArray⟩, .bool true]) (by simp [results, Tryz.results84, go_sem, *]) rfl ?_
        rw [HST.out]
        refine ⟨?_, hB⟩
        show _ = Ending.returned (.tuple #[.string ⟨s.data.toList.toArray⟩, .string ⟨R.toArray⟩, .bool true])
        rw [show (⟨s.data.toList.toArray⟩ : ByteArray) = s from bytes_eq.1 rfl]
      | false =>
        rw [hp] at hcc
        rw [hp, if_neg (by simp)] at hst
        have HST := Lib.hid hst
        generalize (⟨(trimPrefix q.data.toList (bS k).data.toList).toArray⟩ : ByteArray) = R at hcc
        generalize bS k = s at *
        replace hcc := Lib.hid hcc
        clear hp hst
        go_wp2_with fail
        refine hcc.out.mono ?_
        rintro e w' ⟨rfl, rfl⟩
        go_wp2_with fail
        go_roundw
        case rel => exact ⟨k + 1, by omega, by go_num, trivial, HST⟩
        case measure => simp [intOf]; omega
    · obtain rfl : k = 4 := by omega
      clear hlt hk
      go_wp2_with fail
      refine bodyPost_ret (v := .tuple #[.string ⟨#[]⟩, .string ⟨#[]⟩, .bool false]) (by simp [results, Tryz.results84, go_sem, *]) rfl ?_
      rw [HQ.out]
      exact ⟨rfl, hB⟩
end Go.Proofs.Pw

namespace Go.Proofs.Pw
open Go.RowKit Go.Sort
open Go.Lib hiding intOf
theorem holds_below {w w' : World} {blk off : Nat} {d : Array Str} (h : Holds encStr w blk off d) (hb : Below w.heap.size w w') (hblk : blk < w.heap.size) : Holds encStr w' blk off d :=
  fun j hj => ⟨Below.cell_some hb (h j hj).1, (hb.frozen (p := ⟨blk, off + j, none⟩) hblk).trans (h j hj).2⟩
theorem holds_setCell {w : World} {blk off : Nat} {d : Array Str} (h : Holds encStr w blk off d) {i : Nat} (hi : i < d.size) (u : Str) : Holds encStr (w.setCell ⟨blk, off + i, none⟩ (encStr u)) blk off (d.setIfInBounds i u) := by
  intro j hj
  have hj' : j < d.size := by simpa using hj
  refine ⟨?_, by simp [(h j hj').2]⟩
  by_cases e : j = i
  · subst e
    rw [getElem!_set_same d j u hj', World.cell?_setCell_same _ _ _ (h j hj').1]
  · rw [getElem!_set_other d i j u e, World.cell?_setCell_other _ _ _ _ (by intro h2; injection h2 with _ h3 _; omega)]
    exact (h j hj').1
theorem below_putRow {B : Nat} {w w' : World} (h : Below B w w') {blk : Nat} (hb : B ≤ blk) (off : Nat) (d : Array Str) : Below B w (putRow encStr w' blk off d) := by
  refine h.trans ⟨rfl, rfl, rfl, by simp [putRow, mapBlock], fun k hk => ?_⟩
  simp only [putRow, mapBlock, Array.getElem?_modify]
  rw [if_neg (by omega)]
def TestsB (g : Nat) (lb : Array Value) (p : Str → Bool) (l : List Str) (base : Nat) (w : World) : Prop :=
  ∀ W, Below base w W → ∀ s ∈ l, Calls Tryz.prog g (#[encStr s] ++ lb) W fun e w'' => e = .returned (.bool (p s)) ∧ Below W.heap.size W w''
theorem mem_arr {d : Array Str} {j : Nat} (hj : j < d.size) : d[j]! ∈ d.toList ∧ d.toList[j]? = some d[j]! := by
  have e : d[j]! = d[j] := getElem!_pos d j hj
  rw [e]
  exact ⟨by simp, by simp [hj]⟩
set_option maxHeartbeats 400000 in
theorem indexFuncS_calls (g : Nat) (lb : Array Value) (eg : ∀ args w, (callFunc g args).run Tryz.prog w = .ok (.enter g args) w) (p : Str → Bool) (blk off cap base : Nat) (d : Array Str) (w : World) (hn : d.size ≤ 4000000001)
    (hbase : base ≤ w.heap.size) (_hblk : blk < w.heap.size) (hH : Holds encStr w blk off d) (hT : TestsB g lb p d.toList base w) :
    Calls Tryz.prog 149 #[.slice (some ⟨blk, off, none⟩) d.size cap, .func (.func g) #[] lb] w fun e w' => e = .returned (.int .i64 (findI p d.toList)) ∧ Below w.heap.size w w' := by
  replace hH := Lib.hid hH
  replace hT := Lib.hid hT
  go_enter Tryz.func149, Tryz.ntmps149
  go_wp2_with fail
  go_loopw [8] (fun i wr => ∃ k : Nat, k ≤ d.size ∧ i = .int .i64 k ∧ Below w.heap.size w wr ∧ Hid (∀ j, j < k → p d[j]! = false)) (fun i _ => d.size - (intOf i).toNat)
  case atStart => exact ⟨0, by omega, rfl, Below.refl _ _, Lib.hid (fun j hj => absurd hj (Nat.not_lt_zero _))⟩
  case round =>
    obtain ⟨k, hk, rfl, hb, HA⟩ := hrel
    by_cases hlt : k < d.size
    · have hck := Below.cell_some hb (hH.out k hlt).1
      have hcall := hT.out wr (hb.mono hbase) _ (mem_arr hlt).1
      have HF := Lib.hid (mem_arr hlt).2
      generalize hs : d[k]! = s at hck hcall HF
      have HS := Lib.hid hs
      clear hs
      cases hq : p s with
      | true =>
        rw [hq] at hcall
        have HR : Hid (findI p d.toList = k) := Lib.hid (findI_hit HF.out hq (fun j y hj hy => by
          have := (mem_arr (d := d) (j := j) (by omega)).2
          rw [hy] at this
          injection this with this
          rw [this]
          exact HA.out j hj))
        clear hq
        go_wp2_with (go_at_fn g; refine hcall.mono ?_; rintro e w' ⟨rfl, hb2⟩)
        go_ret
        rw [HR.out]
        exact ⟨rfl, below_step hb hb2⟩
      | false =>
        rw [hq] at hcall
        have HQ := Lib.hid hq
        clear hq
        go_wp2_with (go_at_fn g; refine hcall.mono ?_; rintro e w' ⟨rfl, hb2⟩)
        go_roundw
        case rel =>
          refine ⟨k + 1, by omega, by go_num, below_step hb hb2, Lib.hid (fun j hj => ?_)⟩
          by_cases e : j = k
          · subst e; rw [HS.out]; exact HQ.out
          · exact HA.out j (by omega)
        case measure => simp [intOf]; omega
    · obtain rfl : k = d.size := by omega
      have HR : Hid (findI p d.toList = -1) := Lib.hid (findI_none (fun j y hy => by
        have hj : j < d.size := by have := (List.getElem?_eq_some_iff.1 hy).1; simpa using this
        have := (mem_arr (d := d) hj).2
        rw [hy] at this
        injection this with this
        rw [this]
        exact HA.out j hj))
      go_wp2_with fail
      go_ret
      rw [HR.out]
      exact ⟨rfl, hb⟩
theorem findI_cases (p : Str → Bool) (d : Array Str) : (findI p d.toList = -1 ∧ ∀ j, j < d.size → p d[j]! = false) ∨ ∃ k, k < d.size ∧ findI p d.toList = (k : Int) ∧ p d[k]! = true ∧ ∀ j, j < k → p d[j]! = false := by
  cases h : d.toList.findIdx? p with
  | none =>
    left
    refine ⟨by unfold findI; rw [h], fun j hj => ?_⟩
    rw [List.findIdx?_eq_none_iff] at h
    exact h _ (mem_arr hj).1
  | some k =>
    right
    rw [List.findIdx?_eq_some_iff_getElem] at h
    obtain ⟨hk, h1, h2⟩ := h
    have hk' : k < d.size := by simpa using hk
    have e : ∀ j (hj : j < d.size), d.toList[j]'(by simpa using hj) = d[j]! := fun j hj => by rw [getElem!_pos d j hj]; simp
    refine ⟨k, hk', ?_, by rw [← e k hk']; exact h1, fun j hj => ?_⟩
    · exact findI_hit (mem_arr hk').2 (by rw [← e k hk']; exact h1) (fun j y hj hy => by
        have hjd : j < d.size := by omega
        have h3 := h2 j hj
        rw [e j hjd] at h3
        have := (mem_arr (d := d) hjd).2
        rw [hy] at this
        injection this with this
        rw [this]
        simpa using h3)
    · have h3 := h2 j hj
      rw [e j (by omega)] at h3
      simpa using h3
theorem holds_take {w : World} {blk off : Nat} {l m : List Str} (h : Holds encStr w blk off (l ++ m).toArray) : Holds encStr w blk off l.toArray := by
  intro j hj
  have hj' : j < l.length := by simpa using hj
  have := h j (by simp; omega)
  have e : (l ++ m).toArray[j]! = l.toArray[j]! := by
    rw [getElem!_pos _ j (by simp; omega), getElem!_pos _ j (by simpa using hj)]
    simp [List.getElem_append_left hj']
  rw [e] at this
  exact this
set_option maxHeartbeats 2000000 in
set_option maxRecDepth 100000 in
theorem deleteFunc_calls (g : Nat) (lb : Array Value) (eg : ∀ args w, (callFunc g args).run Tryz.prog w = .ok (.enter g args) w) (p : Str → Bool) (blk off cap base : Nat) (d : Array Str) (w : World) (hn : d.size ≤ 4000000001) (hcap : d.size ≤ cap)
    (hbase : base ≤ blk) (hblk : blk < w.heap.size) (hH : Holds encStr w blk off d) (hT : TestsB g lb p d.toList base w) :
    Calls Tryz.prog 86 #[.slice (some ⟨blk, off, none⟩) d.size cap, .func (.func g) #[] lb] w fun e w' =>
      e = .returned (.slice (some ⟨blk, off, none⟩) (d.toList.filter fun x => !p x).length cap) ∧ Below base w w' ∧ Holds encStr w' blk off (d.toList.filter fun x => !p x).toArray := by
  have hIF := indexFuncS_calls g lb eg p blk off cap base d w hn (by omega) hblk hH hT
  have hfil : (d.toList.filter fun x => !p x) = keptUpTo (fun j => !p d[j]!) d d.size := (keptUpTo_filter (fun x => !p x) d).symm
  obtain ⟨kp, HK⟩ : ∃ kp : Nat → Bool, Hid (kp = fun j => !p d[j]!) := ⟨_, Lib.hid rfl⟩
  rw [hfil, ← HK.out]
  clear hfil
  rcases findI_cases p d with ⟨e1, hall⟩ | ⟨k0, hk0, e1, ht, hall⟩
  · rw [e1] at hIF
    have e3 : keptUpTo kp d d.size = d.toList := by
      rw [keptUpTo_all kp d _ (fun j hj => by rw [HK.out]; show (!p d[j]!) = true; rw [hall j hj]; rfl)]
      apply List.ext_getElem?
      intro i
      by_cases hi : i < d.size
      · rw [(mem_arr hi).2]; simp [hi]
      · rw [List.getElem?_eq_none (by simp; omega), List.getElem?_eq_none (by simp; omega)]
    have E3 := Lib.hid e3
    replace hH := Lib.hid hH
    replace hT := Lib.hid hT
    clear hall e1 e3
    go_enter Tryz.func86, Tryz.ntmps86
    go_wp2_with fail
    refine hIF.mono ?_
    rintro e w1 ⟨rfl, hb1⟩
    go_wp2_with fail
    go_ret
    rw [E3.out]
    exact ⟨by simp, hb1.mono (by omega), by simpa using holds_below hH.out hb1 hblk⟩
  · rw [e1] at hIF
    have hI0 : KeptInv kp d (k0 + 1) k0 d := KeptInv.start (fun j hj => by rw [HK.out]; show (!p d[j]!) = true; rw [hall j hj]; rfl) (by rw [HK.out]; show (!p d[k0]!) = false; rw [ht]; rfl)
    have hne1 : ((k0 : Int) == -1) = false := beq_eq_false_iff_ne.2 (by omega)
    have zr := Tryz.zeroValue9
    replace hH := Lib.hid hH
    replace hT := Lib.hid hT
    replace hI0 := Lib.hid hI0
    clear hall e1 ht
    go_enter Tryz.func86, Tryz.ntmps86
    go_wp2_with fail
    refine hIF.mono ?_
    rintro e w1 ⟨rfl, hb1⟩
    go_wp2_with fail
    go_loopg [5, 6, 7] d.size (fun gg s5 s6 _ wr => ∃ (i j : Nat) (dk : Array Str), s5 = .int .i64 i ∧ s6 = .int .i64 j ∧ j ≤ d.size ∧ d.size - j ≤ gg ∧ Below base w wr ∧ Hid (Holds encStr wr blk off dk) ∧ Hid (KeptInv kp d j i dk))
    case atStart => exact ⟨k0, k0 + 1, d, rfl, by go_num, by omega, by omega, hb1.mono (by omega), Lib.hid (holds_below hH.out hb1 hblk), hI0⟩
    case round =>
      obtain ⟨i, j, dk, rfl, rfl, hjd, hgg, hB, hHk, hI⟩ := hrel
      have hij := hI.out.lt
      have hds := hI.out.size
      have hblkr : blk < wr.heap.size := Nat.lt_of_lt_of_le hblk hB.size
      by_cases hlt : j < d.size
      · have hltz : (j : Int) < (d.size : Int) := by omega
        obtain ⟨cj, _⟩ := hHk.out j (by omega)
        rw [hI.out.high j (by omega)] at cj
        have hcall := hT.out wr hB _ (mem_arr hlt).1
        have hfut : Hid (∀ w', Below wr.heap.size wr w' → w'.cell? ⟨blk, off + i, none⟩ = some (encStr dk[i]!) ∧ w'.frozen? ⟨blk, off + i, none⟩ = false) := Lib.hid (fun w' hb => (holds_below hHk.out hb hblkr) i (by omega))
        generalize hu : d[j]! = u at cj hcall
        have HU := Lib.hid hu
        generalize dk[i]! = old at hfut
        clear hu
        cases hq : p u with
        | false =>
          rw [hq] at hcall
          have HQ := Lib.hid hq
          have HDS := Lib.hid hds
          clear hq hds
          go_wp2_with (go_at_fn g; refine hcall.mono ?_; rintro e w' ⟨rfl, hb2⟩; obtain ⟨ci, fi⟩ := hfut.out w' hb2)
          go_roundg (d.size - (j + 1))
          case measure => omega
          case rel =>
            refine ⟨i + 1, j + 1, dk.setIfInBounds i u, by go_num, by go_num, by omega, Nat.le_refl _, ?_, Lib.hid ?_, Lib.hid ?_⟩
            · exact (hB.trans (hb2.mono (by omega))).setCell hbase _
            · exact holds_setCell (holds_below hHk.out hb2 hblkr) (by have := HDS.out; omega) u
            · have := hI.out.keep hlt (by rw [HK.out]; show (!p d[j]!) = true; rw [HU.out, HQ.out]; rfl)
              rwa [HU.out] at this
        | true =>
          rw [hq] at hcall
          have HQ := Lib.hid hq
          clear hq hds hfut
          go_wp2_with (go_at_fn g; refine hcall.mono ?_; rintro e w' ⟨rfl, hb2⟩)
          go_roundg (d.size - (j + 1))
          case measure => omega
          case rel => exact ⟨i, j + 1, dk, rfl, by go_num, by omega, Nat.le_refl _, hB.trans (hb2.mono (by omega)), Lib.hid (holds_below hHk.out hb2 hblkr), Lib.hid (hI.out.skip (by rw [HK.out]; show (!p d[j]!) = false; rw [HU.out, HQ.out]; rfl))⟩
      · obtain rfl : j = d.size := by omega
        have hltz : ¬ (d.size : Int) < (d.size : Int) := by omega
        have hcl : ∀ ty, (Builtin.clear_ #[35] ty #[.slice (some ⟨blk, off + i, none⟩) (d.size - i) (cap - i)]).run Tryz.prog wr = .ok (.tuple #[]) (wr.setCells blk (off + i) (List.replicate (d.size - i) (encStr []))) :=
          fun ty => Lib.run_clear_slice wr _ _ ty _ Tryz.underlying35 zr rfl rfl blk (off + i) _ _ (by omega) (fun t ht => by rw [show off + i + t = off + (i + t) by omega, (hHk.out (i + t) (by omega)).1]; rfl) (fun t ht => by rw [show off + i + t = off + (i + t) by omega]; exact (hHk.out (i + t) (by omega)).2)
        have HDS := Lib.hid hds
        clear hds
        go_wp2_with fail
        go_ret
        have hI := hI.out
        have hrow : wr.setCells blk (off + i) (List.replicate (d.size - i) (encStr [])) = putRow encStr wr blk off (keptUpTo kp d d.size ++ List.replicate (d.size - i) []).toArray := by
          rw [← hI.done [], ← putRow_setCells encStr wr blk off _ dk i (by simp; have := HDS.out; omega), putRow_self encStr wr blk off dk hHk.out, List.map_replicate]
        refine ⟨by rw [hI.len]; rfl, ?_, ?_⟩
        · show Below base w (wr.setCells blk (off + i) (List.replicate (d.size - i) (encStr [])))
          rw [hrow]
          exact below_putRow hB hbase _ _
        · show Holds encStr (wr.setCells blk (off + i) (List.replicate (d.size - i) (encStr []))) blk off _
          rw [hrow]
          apply holds_take (m := List.replicate (d.size - i) [])
          exact holds_putRow encStr wr blk off dk _ hHk.out (by simp [hI.len]; have := HDS.out; omega)
end Go.Proofs.Pw

namespace Go.Proofs.Pw
open Go.RowKit
def laysSortSR : Go.Shelf.Ren := ⟨fun | 6 => 142 | 14 => 196 | 15 => 167 | 20 => 247 | 21 => 248 | 22 => 249 | 23 => 250 | 24 => 251 | 25 => 252 | 26 => 253 | 27 => 254 | 28 => 214 | 29 => 215 | 46 => 285 | 47 => 265 | 48 => 266 | 49 => 286 | 50 => 287 | 57 => 299 | n => n,
  fun | 0 => 0 | 3 => 3 | 4 => 4 | 5 => 5 | 9 => 9 | 22 => 35 | 24 => 9 | 25 => 141 | 39 => 170 | 45 => 233 | 46 => 234 | 50 => 238 | 53 => 33 | 55 => 116 | 66 => 287 | 70 => 291 | 76 => 308 | 77 => 111 | n => n, fun n => n⟩
theorem laysSortS : Go.Proofs.SlLaysF.n6 Tryz.prog laysSortSR := {
  mixed := by kernel_rfl
  f6 := ⟨Tryz.f142.name, by decide, Tryz.func142.trans (congrArg some (by kernel_rfl))⟩
  f14 := ⟨Tryz.f196.name, by decide, Tryz.func196.trans (congrArg some (by kernel_rfl))⟩
  f15 := Tryz.func167.trans (congrArg some (by kernel_rfl))
  f20 := ⟨Tryz.f247.name, by decide, Tryz.func247.trans (congrArg some (by kernel_rfl))⟩
  f21 := ⟨Tryz.f248.name, by decide, Tryz.func248.trans (congrArg some (by kernel_rfl))⟩
  f22 := ⟨Tryz.f249.name, by decide, Tryz.func249.trans (congrArg some (by kernel_rfl))⟩
  f23 := ⟨Tryz.f250.name, by decide, Tryz.func250.trans (congrArg some (by kernel_rfl))⟩
  f24 := ⟨Tryz.f251.name, by decide, Tryz.func251.trans (congrArg some (by kernel_rfl))⟩
  f25 := ⟨Tryz.f252.name, by decide, Tryz.func252.trans (congrArg some (by kernel_rfl))⟩
  f26 := ⟨Tryz.f253.name, by decide, Tryz.func253.trans (congrArg some (by kernel_rfl))⟩
  f27 := ⟨Tryz.f254.name, by decide, Tryz.func254.trans (congrArg some (by kernel_rfl))⟩
  f28 := Tryz.func214.trans (congrArg some (by kernel_rfl))
  f29 := Tryz.func215.trans (congrArg some (by kernel_rfl))
  f46 := ⟨Tryz.f285.name, by decide, Tryz.func285.trans (congrArg some (by kernel_rfl))⟩
  f47 := Tryz.func265.trans (congrArg some (by kernel_rfl))
  f48 := Tryz.func266.trans (congrArg some (by kernel_rfl))
  f49 := ⟨Tryz.f286.name, by decide, Tryz.func286.trans (congrArg some (by kernel_rfl))⟩
  f50 := ⟨Tryz.f287.name, by decide, Tryz.func287.trans (congrArg some (by kernel_rfl))⟩
  f57 := ⟨Tryz.f299.name, by decide, Tryz.func299.trans (congrArg some (by kernel_rfl))⟩
  t0 := Tryz.underlying0
  a0 := Tryz.isAgg0
  z0 := Tryz.sizeOf0
  v0 := Tryz.zeroValue0
  t3 := Tryz.underlying3
  a3 := Tryz.isAgg3
  z3 := Tryz.sizeOf3
  v3 := Tryz.zeroValue3
  t4 := Tryz.underlying4
  a4 := Tryz.isAgg4
  z4 := Tryz.sizeOf4
  v4 := Tryz.zeroValue4
  t5 := Tryz.underlying5
  a5 := Tryz.isAgg5
  z5 := Tryz.sizeOf5
  v5 := Tryz.zeroValue5
  t9 := Tryz.underlying9
  a9 := Tryz.isAgg9
  z9 := Tryz.sizeOf9
  v9 := Tryz.zeroValue9
  t22 := Tryz.underlying35
  a22 := Tryz.isAgg35
  z22 := Tryz.sizeOf35
  v22 := Tryz.zeroValue35
  a24 := Tryz.isAgg9
  z24 := Tryz.sizeOf9
  t25 := Tryz.underlying141
  a25 := Tryz.isAgg141
  z25 := Tryz.sizeOf141
  v25 := Tryz.zeroValue141
  t39 := Tryz.underlying170
  a39 := Tryz.isAgg170
  z39 := Tryz.sizeOf170
  v39 := Tryz.zeroValue170
  t45 := Tryz.underlying233
  a45 := Tryz.isAgg233
  z45 := Tryz.sizeOf233
  v45 := Tryz.zeroValue233
  t46 := Tryz.underlying234
  a46 := Tryz.isAgg234
  z46 := Tryz.sizeOf234
  v46 := Tryz.zeroValue234
  t50 := Tryz.underlying238
  a50 := Tryz.isAgg238
  z50 := Tryz.sizeOf238
  v50 := Tryz.zeroValue238
  t53 := Tryz.underlying33
  a53 := Tryz.isAgg33
  z53 := Tryz.sizeOf33
  v53 := Tryz.zeroValue33
  t55 := Tryz.underlying116
  a55 := Tryz.isAgg116
  z55 := Tryz.sizeOf116
  v55 := Tryz.zeroValue116
  t66 := Tryz.underlying287
  a66 := Tryz.isAgg287
  z66 := Tryz.sizeOf287
  v66 := Tryz.zeroValue287
  t70 := Tryz.underlying291
  a70 := Tryz.isAgg291
  z70 := Tryz.sizeOf291
  v70 := Tryz.zeroValue291
  t76 := Tryz.underlying308
  a76 := Tryz.isAgg308
  z76 := Tryz.sizeOf308
  v76 := Tryz.zeroValue308
  t77 := Tryz.underlying111
  a77 := Tryz.isAgg111
  z77 := Tryz.sizeOf111
  v77 := Tryz.zeroValue111 }
end Go.Proofs.Pw
