/- errors.As and errors.Is at this program's errors: sentinels of errors.New's make, and *api.Fault round one. (Turned out of the guide's worked texts ToyasAs and SentryIs: their lines at this program's numbers; as_miss, the Fault's road through Unwrap are new.) Conditions: the sentinels' rows as errors.New lays them; errors.errorType holds its handle. -/
import Derived.Test.YtaiabafbngnljaaDoorProg
import Derived.WalkKit
import Derived.LaidEql
import Derived.Stop.Asserts
import Derived.RowKitTokens
import Derived.Lib.Hide
namespace Go.Proofs.Pw
open Go.RowKit Go.Extern.Stop Go.Stop Go.Extern

theorem Tryd.is_typeOf (v : Value) (w : World) : (Extern.ReflectliteType.typeOf #[.iface 49 v]).run Tryd.prog w = .ok (.iface 89 (.agg #[.pointer (some ⟨19, 49, none⟩)])) w := by kernel_rfl
theorem Tryd.is_comparable (w : World) : (Extern.ReflectliteType.method (fun t => do Rtype.noPackHeld "Comparable" t; pure (.bool (← typeInfo t).comparable)) #[.agg #[.pointer (some ⟨19, 49, none⟩)]]).run Tryd.prog w = .ok (.bool true) w := by kernel_rfl
theorem Tryd.is_callComparable (w : World) : (callFunc 147 #[.agg #[.pointer (some ⟨19, 49, none⟩)]]).run Tryd.prog w = .ok (.value (.bool true)) w := by
  have h := @run_callFunc_extern Tryd.prog 147 _ (Extern.ReflectliteType.method fun t => do Rtype.noPackHeld "Comparable" t; pure (.bool (← typeInfo t).comparable)) Tryd.func147 (by kernel_rfl) (by kernel_rfl) (by kernel_rfl) (by kernel_rfl)
  rw [h, Tryd.is_comparable]
  rfl
theorem Tryd.is_methodComparable (v : Value) (w : World) : (Go.method 291 89 v "Comparable").run Tryd.prog w = .ok (147, v) w := by kernel_rfl
theorem Tryd.is_comp : (Tryd.prog.info? 49).map (·.comparable) = some true := by kernel_rfl
theorem Tryd.is_size : (Tryd.prog.info? 51).map (·.size) = some 1 := by kernel_rfl
theorem Tryd.no_isE (v : Value) (xT : TypeId) (w : World) : (Instr.typeAssert (.iface 49 v) xT 100 true).run Tryd.prog w = .ok (.tuple #[.nilIface, .bool false]) w := run_typeAssert_lacksB Tryd.underlying100 (by kernel_rfl) (by kernel_rfl) v xT w
theorem Tryd.no_asE (v : Value) (xT : TypeId) (w : World) : (Instr.typeAssert (.iface 49 v) xT 93 true).run Tryd.prog w = .ok (.tuple #[.nilIface, .bool false]) w := run_typeAssert_lacksB Tryd.underlying93 (by kernel_rfl) (by kernel_rfl) v xT w
theorem Tryd.no_unwrapE (v : Value) (xT : TypeId) (w : World) : (Instr.typeAssert (.iface 49 v) xT 96 true).run Tryd.prog w = .ok (.tuple #[.nilIface, .bool false]) w := run_typeAssert_lacksB Tryd.underlying96 (by kernel_rfl) (by kernel_rfl) v xT w
theorem Tryd.no_unwrapsE (v : Value) (xT : TypeId) (w : World) : (Instr.typeAssert (.iface 49 v) xT 98 true).run Tryd.prog w = .ok (.tuple #[.nilIface, .bool false]) w := run_typeAssert_lacksB Tryd.underlying98 (by kernel_rfl) (by kernel_rfl) v xT w
theorem Tryd.no_isF (v : Value) (xT : TypeId) (w : World) : (Instr.typeAssert (.iface 29 v) xT 100 true).run Tryd.prog w = .ok (.tuple #[.nilIface, .bool false]) w := run_typeAssert_lacksB Tryd.underlying100 (by kernel_rfl) (by kernel_rfl) v xT w
theorem Tryd.has_unwrapF (v : Value) (xT : TypeId) (w : World) : (Instr.typeAssert (.iface 29 v) xT 96 true).run Tryd.prog w = .ok (.tuple #[.iface 29 v, .bool true]) w := run_typeAssert_hasB Tryd.underlying96 (by kernel_rfl) v xT w
theorem Tryd.method_unwrapF (v : Value) (w : World) : (Go.method 291 29 v "Unwrap").run Tryd.prog w = .ok (140, v) w := by kernel_rfl

/-- errors.Is(x, x), x a pointer to an errors.errorString. -/
theorem is_same (a : Addr) (w : World) :
    Calls Tryd.prog 19 #[.iface 49 (.pointer (some a)), .iface 49 (.pointer (some a))] w fun e w' => e = .returned (.bool true) ∧ w = w' := by
  obtain ⟨i, hi, hcmp⟩ := Option.map_eq_some_iff.1 Tryd.is_comp
  obtain ⟨j, hj, hjs⟩ := Option.map_eq_some_iff.1 Tryd.is_size
  have h8 := @run_callFunc_extern Tryd.prog 32 _ Extern.ReflectliteType.typeOf Tryd.func32 (by kernel_rfl) (by kernel_rfl) (by kernel_rfl) (by kernel_rfl)
  have h32 := Tryd.is_callComparable
  have tT := Tryd.is_typeOf
  have mR := Tryd.is_methodComparable
  have heq := run_eql_iface_ptr_same (P := Tryd.prog) w a Tryd.underlying25 Tryd.underlying49 hi hcmp hj
  go_enter Tryd.func19, Tryd.ntmps19
  go_wp2
  refine wp_loop_rounds 1 ?_
  rw [rounds_succ]
  go_wp2
  go_ret
  exact ⟨rfl, rfl⟩

/-- errors.Is(x, y), two different pointers to errors.errorString. -/
theorem is_other (a b : Addr) (ca cb : Array Value) (ta tb : TypeId) (w : World) (hne : a ≠ b) (ha : w.heap[a.block]? = some (.cells ca ta (0, 0))) (hb : w.heap[b.block]? = some (.cells cb tb (0, 0))) :
    Calls Tryd.prog 19 #[.iface 49 (.pointer (some a)), .iface 49 (.pointer (some b))] w fun e w' => e = .returned (.bool false) ∧ w = w' := by
  obtain ⟨i, hi, hcmp⟩ := Option.map_eq_some_iff.1 Tryd.is_comp
  obtain ⟨j, hj, hjs⟩ := Option.map_eq_some_iff.1 Tryd.is_size
  have h8 := @run_callFunc_extern Tryd.prog 32 _ Extern.ReflectliteType.typeOf Tryd.func32 (by kernel_rfl) (by kernel_rfl) (by kernel_rfl) (by kernel_rfl)
  have h32 := Tryd.is_callComparable
  have tT := Tryd.is_typeOf
  have mR := Tryd.is_methodComparable
  have nE := Tryd.no_isE
  have uE := Tryd.no_unwrapE
  have vE := Tryd.no_unwrapsE
  have heq := run_eql_iface_ptr_other (P := Tryd.prog) w Tryd.underlying25 Tryd.underlying49 hi hcmp hj (by rw [hjs]; decide) hne ha hb
  go_enter Tryd.func19, Tryd.ntmps19
  go_wp2
  refine wp_loop_rounds 1 ?_
  rw [rounds_succ]
  go_wp2
  go_ret
  exact ⟨rfl, rfl⟩

/-- errors.Is(f, x), f a *api.Fault round x itself. -/
theorem is_fault_same (pb : Nat) (b : Addr) (w : World) (h1 : w.cell? ⟨pb, 1, none⟩ = some (.iface 49 (.pointer (some b)))) :
    Calls Tryd.prog 19 #[.iface 29 (.pointer (some ⟨pb, 0, none⟩)), .iface 49 (.pointer (some b))] w fun e w' => e = .returned (.bool true) ∧ w = w' := by
  obtain ⟨i, hi, hcmp⟩ := Option.map_eq_some_iff.1 Tryd.is_comp
  obtain ⟨j, hj, hjs⟩ := Option.map_eq_some_iff.1 Tryd.is_size
  have h8 := @run_callFunc_extern Tryd.prog 32 _ Extern.ReflectliteType.typeOf Tryd.func32 (by kernel_rfl) (by kernel_rfl) (by kernel_rfl) (by kernel_rfl)
  have h32 := Tryd.is_callComparable
  have tT := Tryd.is_typeOf
  have mR := Tryd.is_methodComparable
  have nF := Tryd.no_isF
  have uF := Tryd.has_unwrapF
  have mU := Tryd.method_unwrapF
  have heq := run_eql_iface_ptr_same (P := Tryd.prog) w b Tryd.underlying25 Tryd.underlying49 hi hcmp hj
  have hty := run_eql_iface_types (P := Tryd.prog) 29 49 (.pointer (some ⟨pb, 0, none⟩)) (.pointer (some b)) Tryd.underlying25 (by decide) w
  go_enter Tryd.func19, Tryd.ntmps19
  go_wp2
  refine wp_loop_rounds 2 ?_
  rw [rounds_succ]
  go_wp2
  rw [rounds_succ]
  go_wp2
  go_ret
  exact ⟨rfl, rfl⟩

/-- errors.Is(f, x), f a *api.Fault round another sentinel. -/
theorem is_fault_other (pb : Nat) (b a : Addr) (ca cb : Array Value) (ta tb : TypeId) (w : World) (h1 : w.cell? ⟨pb, 1, none⟩ = some (.iface 49 (.pointer (some a)))) (hne : a ≠ b) (ha : w.heap[a.block]? = some (.cells ca ta (0, 0))) (hb : w.heap[b.block]? = some (.cells cb tb (0, 0))) :
    Calls Tryd.prog 19 #[.iface 29 (.pointer (some ⟨pb, 0, none⟩)), .iface 49 (.pointer (some b))] w fun e w' => e = .returned (.bool false) ∧ w = w' := by
  obtain ⟨i, hi, hcmp⟩ := Option.map_eq_some_iff.1 Tryd.is_comp
  obtain ⟨j, hj, hjs⟩ := Option.map_eq_some_iff.1 Tryd.is_size
  have h8 := @run_callFunc_extern Tryd.prog 32 _ Extern.ReflectliteType.typeOf Tryd.func32 (by kernel_rfl) (by kernel_rfl) (by kernel_rfl) (by kernel_rfl)
  have h32 := Tryd.is_callComparable
  have tT := Tryd.is_typeOf
  have mR := Tryd.is_methodComparable
  have nE := Tryd.no_isE
  have uE := Tryd.no_unwrapE
  have vE := Tryd.no_unwrapsE
  have nF := Tryd.no_isF
  have uF := Tryd.has_unwrapF
  have mU := Tryd.method_unwrapF
  have heq := run_eql_iface_ptr_other (P := Tryd.prog) w Tryd.underlying25 Tryd.underlying49 hi hcmp hj (by rw [hjs]; decide) hne ha hb
  have hty := run_eql_iface_types (P := Tryd.prog) 29 49 (.pointer (some ⟨pb, 0, none⟩)) (.pointer (some b)) Tryd.underlying25 (by decide) w
  go_enter Tryd.func19, Tryd.ntmps19
  go_wp2
  refine wp_loop_rounds 2 ?_
  rw [rounds_succ]
  go_wp2
  rw [rounds_succ]
  go_wp2
  go_ret
  exact ⟨rfl, rfl⟩
end Go.Proofs.Pw
