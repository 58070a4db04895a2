/- errors.As and errors.Is at this program's errors: sentinels of errors.New's make, and *api.Fault round one. (Turned out of the guide's worked texts ToyasAs and SentryIs: their lines at this program's numbers; as_miss, the Fault's road through Unwrap are new.) Conditions: the sentinels' rows as errors.New lays them; errors.errorType holds its handle. -/
import Derived.Test.YtaelindfneoajaaGreatDoorProg
import Derived.WalkKit
import Derived.LaidEql
import Derived.Stop.Asserts
import Derived.RowKitTokens
import Derived.Lib.Hide
namespace Go.Proofs.Pw
open Go.RowKit Go.Extern.Stop Go.Stop Go.Extern

theorem Tryz.is_typeOf (v : Value) (w : World) : (Extern.ReflectliteType.typeOf #[.iface 316 v]).run Tryz.prog w = .ok (.iface 264 (.agg #[.pointer (some ⟨19, 316, none⟩)])) w := by kernel_rfl
theorem Tryz.is_comparable (w : World) : (Extern.ReflectliteType.method (fun t => do Rtype.noPackHeld "Comparable" t; pure (.bool (← typeInfo t).comparable)) #[.agg #[.pointer (some ⟨19, 316, none⟩)]]).run Tryz.prog w = .ok (.bool true) w := by kernel_rfl
theorem Tryz.is_callComparable (w : World) : (callFunc 325 #[.agg #[.pointer (some ⟨19, 316, none⟩)]]).run Tryz.prog w = .ok (.value (.bool true)) w := by
  have h := @run_callFunc_extern Tryz.prog 325 _ (Extern.ReflectliteType.method fun t => do Rtype.noPackHeld "Comparable" t; pure (.bool (← typeInfo t).comparable)) Tryz.func325 (by kernel_rfl) (by kernel_rfl) (by kernel_rfl) (by kernel_rfl)
  rw [h, Tryz.is_comparable]
  rfl
theorem Tryz.is_methodComparable (v : Value) (w : World) : (Go.method 449 264 v "Comparable").run Tryz.prog w = .ok (325, v) w := by kernel_rfl
theorem Tryz.is_comp : (Tryz.prog.info? 316).map (·.comparable) = some true := by kernel_rfl
theorem Tryz.is_size : (Tryz.prog.info? 318).map (·.size) = some 1 := by kernel_rfl
theorem Tryz.no_isE (v : Value) (xT : TypeId) (w : World) : (Instr.typeAssert (.iface 316 v) xT 275 true).run Tryz.prog w = .ok (.tuple #[.nilIface, .bool false]) w := run_typeAssert_lacksB Tryz.underlying275 (by kernel_rfl) (by kernel_rfl) v xT w
theorem Tryz.no_asE (v : Value) (xT : TypeId) (w : World) : (Instr.typeAssert (.iface 316 v) xT 268 true).run Tryz.prog w = .ok (.tuple #[.nilIface, .bool false]) w := run_typeAssert_lacksB Tryz.underlying268 (by kernel_rfl) (by kernel_rfl) v xT w
theorem Tryz.no_unwrapE (v : Value) (xT : TypeId) (w : World) : (Instr.typeAssert (.iface 316 v) xT 271 true).run Tryz.prog w = .ok (.tuple #[.nilIface, .bool false]) w := run_typeAssert_lacksB Tryz.underlying271 (by kernel_rfl) (by kernel_rfl) v xT w
theorem Tryz.no_unwrapsE (v : Value) (xT : TypeId) (w : World) : (Instr.typeAssert (.iface 316 v) xT 273 true).run Tryz.prog w = .ok (.tuple #[.nilIface, .bool false]) w := run_typeAssert_lacksB Tryz.underlying273 (by kernel_rfl) (by kernel_rfl) v xT w
theorem Tryz.no_isF (v : Value) (xT : TypeId) (w : World) : (Instr.typeAssert (.iface 147 v) xT 275 true).run Tryz.prog w = .ok (.tuple #[.nilIface, .bool false]) w := run_typeAssert_lacksB Tryz.underlying275 (by kernel_rfl) (by kernel_rfl) v xT w
theorem Tryz.has_unwrapF (v : Value) (xT : TypeId) (w : World) : (Instr.typeAssert (.iface 147 v) xT 271 true).run Tryz.prog w = .ok (.tuple #[.iface 147 v, .bool true]) w := run_typeAssert_hasB Tryz.underlying271 (by kernel_rfl) v xT w
theorem Tryz.method_unwrapF (v : Value) (w : World) : (Go.method 449 147 v "Unwrap").run Tryz.prog w = .ok (319, v) w := by kernel_rfl

/-- errors.Is(x, x), x a pointer to an errors.errorString. -/
theorem is_same (a : Addr) (w : World) :
    Calls Tryz.prog 155 #[.iface 316 (.pointer (some a)), .iface 316 (.pointer (some a))] w fun e w' => e = .returned (.bool true) ∧ w = w' := by
  obtain ⟨i, hi, hcmp⟩ := Option.map_eq_some_iff.1 Tryz.is_comp
  obtain ⟨j, hj, hjs⟩ := Option.map_eq_some_iff.1 Tryz.is_size
  have h8 := @run_callFunc_extern Tryz.prog 206 _ Extern.ReflectliteType.typeOf Tryz.func206 (by kernel_rfl) (by kernel_rfl) (by kernel_rfl) (by kernel_rfl)
  have h32 := Tryz.is_callComparable
  have tT := Tryz.is_typeOf
  have mR := Tryz.is_methodComparable
  have heq := run_eql_iface_ptr_same (P := Tryz.prog) w a Tryz.underlying38 Tryz.underlying316 hi hcmp hj
  go_enter Tryz.func155, Tryz.ntmps155
  go_wp2
  refine wp_loop_rounds 1 ?_
  rw [rounds_succ]
  go_wp2
  go_ret
  exact ⟨rfl, rfl⟩

/-- errors.Is(x, y), two different pointers to errors.errorString. -/
theorem is_other (a b : Addr) (ca cb : Array Value) (ta tb : TypeId) (w : World) (hne : a ≠ b) (ha : w.heap[a.block]? = some (.cells ca ta (0, 0))) (hb : w.heap[b.block]? = some (.cells cb tb (0, 0))) :
    Calls Tryz.prog 155 #[.iface 316 (.pointer (some a)), .iface 316 (.pointer (some b))] w fun e w' => e = .returned (.bool false) ∧ w = w' := by
  obtain ⟨i, hi, hcmp⟩ := Option.map_eq_some_iff.1 Tryz.is_comp
  obtain ⟨j, hj, hjs⟩ := Option.map_eq_some_iff.1 Tryz.is_size
  have h8 := @run_callFunc_extern Tryz.prog 206 _ Extern.ReflectliteType.typeOf Tryz.func206 (by kernel_rfl) (by kernel_rfl) (by kernel_rfl) (by kernel_rfl)
  have h32 := Tryz.is_callComparable
  have tT := Tryz.is_typeOf
  have mR := Tryz.is_methodComparable
  have nE := Tryz.no_isE
  have uE := Tryz.no_unwrapE
  have vE := Tryz.no_unwrapsE
  have heq := run_eql_iface_ptr_other (P := Tryz.prog) w Tryz.underlying38 Tryz.underlying316 hi hcmp hj (by rw [hjs]; decide) hne ha hb
  go_enter Tryz.func155, Tryz.ntmps155
  go_wp2
  refine wp_loop_rounds 1 ?_
  rw [rounds_succ]
  go_wp2
  go_ret
  exact ⟨rfl, rfl⟩

/-- errors.Is(f, x), f a *api.Fault round x itself. -/
theorem is_fault_same (pb : Nat) (b : Addr) (w : World) (h1 : w.cell? ⟨pb, 1, none⟩ = some (.iface 316 (.pointer (some b)))) :
    Calls Tryz.prog 155 #[.iface 147 (.pointer (some ⟨pb, 0, none⟩)), .iface 316 (.pointer (some b))] w fun e w' => e = .returned (.bool true) ∧ w = w' := by
  obtain ⟨i, hi, hcmp⟩ := Option.map_eq_some_iff.1 Tryz.is_comp
  obtain ⟨j, hj, hjs⟩ := Option.map_eq_some_iff.1 Tryz.is_size
  have h8 := @run_callFunc_extern Tryz.prog 206 _ Extern.ReflectliteType.typeOf Tryz.func206 (by kernel_rfl) (by kernel_rfl) (by kernel_rfl) (by kernel_rfl)
  have h32 := Tryz.is_callComparable
  have tT := Tryz.is_typeOf
  have mR := Tryz.is_methodComparable
  have nF := Tryz.no_isF
  have uF := Tryz.has_unwrapF
  have mU := Tryz.method_unwrapF
  have heq := run_eql_iface_ptr_same (P := Tryz.prog) w b Tryz.underlying38 Tryz.underlying316 hi hcmp hj
  have hty := run_eql_iface_types (P := Tryz.prog) 147 316 (.pointer (some ⟨pb, 0, none⟩)) (.pointer (some b)) Tryz.underlying38 (by decide) w
  go_enter Tryz.func155, Tryz.ntmps155
  go_wp2
  refine wp_loop_rounds 2 ?_
  rw [rounds_succ]
  go_wp2
  rw [rounds_succ]
  go_wp2
  go_ret
  exact ⟨rfl, rfl⟩

/-- errors.Is(f, x), f a *api.Fault round another sentinel. -/
theorem is_fault_other (pb : Nat) (b a : Addr) (ca cb : Array Value) (ta tb : TypeId) (w : World) (h1 : w.cell? ⟨pb, 1, none⟩ = some (.iface 316 (.pointer (some a)))) (hne : a ≠ b) (ha : w.heap[a.block]? = some (.cells ca ta (0, 0))) (hb : w.heap[b.block]? = some (.cells cb tb (0, 0))) :
    Calls Tryz.prog 155 #[.iface 147 (.pointer (some ⟨pb, 0, none⟩)), .iface 316 (.pointer (some b))] w fun e w' => e = .returned (.bool false) ∧ w = w' := by
  obtain ⟨i, hi, hcmp⟩ := Option.map_eq_some_iff.1 Tryz.is_comp
  obtain ⟨j, hj, hjs⟩ := Option.map_eq_some_iff.1 Tryz.is_size
  have h8 := @run_callFunc_extern Tryz.prog 206 _ Extern.ReflectliteType.typeOf Tryz.func206 (by kernel_rfl) (by kernel_rfl) (by kernel_rfl) (by kernel_rfl)
  have h32 := Tryz.is_callComparable
  have tT := Tryz.is_typeOf
  have mR := Tryz.is_methodComparable
  have nE := Tryz.no_isE
  have uE := Tryz.no_unwrapE
  have vE := Tryz.no_unwrapsE
  have nF := Tryz.no_isF
  have uF := Tryz.has_unwrapF
  have mU := Tryz.method_unwrapF
  have heq := run_eql_iface_ptr_other (P := Tryz.prog) w Tryz.underlying38 Tryz.underlying316 hi hcmp hj (by rw [hjs]; decide) hne ha hb
  have hty := run_eql_iface_types (P := Tryz.prog) 147 316 (.pointer (some ⟨pb, 0, none⟩)) (.pointer (some b)) Tryz.underlying38 (by decide) w
  go_enter Tryz.func155, Tryz.ntmps155
  go_wp2
  refine wp_loop_rounds 2 ?_
  rw [rounds_succ]
  go_wp2
  rw [rounds_succ]
  go_wp2
  go_ret
  exact ⟨rfl, rfl⟩
end Go.Proofs.Pw
