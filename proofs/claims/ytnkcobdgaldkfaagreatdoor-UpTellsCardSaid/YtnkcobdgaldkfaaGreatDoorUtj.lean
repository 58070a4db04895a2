/- Ut: walks and plain laws, joined: ErrAs Code Coded Faulted UpTells Env EnvP Open OpenE Law Facts. Conditions: at each theorem. -/
import Derived.Test.YtnkcobdgaldkfaaGreatDoorUti
import Derived.WalkKit
import Derived.LaidEql
import Derived.Stop.Asserts
import Derived.RowKitTokens
import Derived.Lib.Hide
import Derived.Test.YtnkcobdgaldkfaaGreatDoorUta
import Derived.WalkLawsBesides
import Derived.WalkSpells
import Derived.Stop.IfaceNil
import Derived.Test.YtnkcobdgaldkfaaGreatDoorUtb
import Derived.Test.YtnkcobdgaldkfaaGreatDoorUtg
import Derived.Deep.RegionHeld2
import Derived.Stop.LaidErr
import Derived.LaidHandle
import Derived.SliceStrings
import Derived.Deep.Slices
import Derived.Deep.Fields
import Derived.ChangeArms
import Derived.ProofKit
import Derived.LaidMore
import Derived.Lay
import Derived.OpenShut
import Derived.SevenTiedAt
import Derived.Stop.Joined
import Derived.HandedShaped
import Derived.Test.YtnkcobdgaldkfaaGreatDoorRows

namespace Go.Proofs.Pw
open Go.RowKit Go.Extern.Stop Go.Stop Go.Extern
theorem Tryz.as_valueOf27 (t : Addr) (w : World) : (ReflectliteValue.unpack (.iface 131 (.pointer (some t)))).run Tryz.prog w
    = .ok (.agg #[.pointer (some ⟨19, 131, none⟩), .pointer (some ⟨w.heap.size, 0, none⟩), .int .u64 150]) (w.alloc (.cells #[.pointer (some t)] 131)) := by kernel_rfl
theorem Tryz.as_type27 (a : Addr) (w : World) : (ReflectliteValue.methodAny (ReflectliteValue.valueError "reflectlite.Value.Type" 0) (fun t _ _ _ => ReflectliteType.toType t) #[.agg #[.pointer (some ⟨19, 131, none⟩), .pointer (some a), .int .u64 150]]).run Tryz.prog w
    = .ok (.iface 204 (.agg #[.pointer (some ⟨19, 131, none⟩)])) w := by kernel_rfl
theorem Tryz.as_methodKind (h : Value) (w : World) : (Go.method 409 204 (.agg #[h]) "Kind").run Tryz.prog w = .ok (287, h) w := by kernel_rfl
theorem Tryz.as_kind27 (w : World) : ((ReflectliteType.abiMethod fun t => (fun a : Nat => Value.int IntKind.u8 (a : Int)) <$> Rtype.kind t) #[.pointer (some ⟨19, 131, none⟩)]).run Tryz.prog w = .ok (.int .u8 22) w := by kernel_rfl
theorem Tryz.as_kind25 (w : World) : ((ReflectliteType.abiMethod fun t => (fun a : Nat => Value.int IntKind.u8 (a : Int)) <$> Rtype.kind t) #[.pointer (some ⟨19, 102, none⟩)]).run Tryz.prog w = .ok (.int .u8 22) w := by kernel_rfl
theorem rlm (z : Sem Value) (f : TypeId → Addr → Nat → Nat → Sem Value) (v : Value) :
    ReflectliteValue.method z f #[v] = (do match ← ReflectliteValue.parts v with | none => z | some (t, a, fl) => f t a fl (fl % 32)) := rfl
theorem Tryz.as_parts27 (a : Addr) (w : World) : (ReflectliteValue.parts (.agg #[.pointer (some ⟨19, 131, none⟩), .pointer (some a), .int .u64 150])).run Tryz.prog w = .ok (some (131, a, 150)) w := by kernel_rfl
theorem Tryz.as_isNil27 (a p : Addr) (W : World) (ha : W.cell? a = some (.pointer (some p))) :
    (ReflectliteValue.method (ReflectliteValue.valueError "reflectlite.Value.IsNil" 0) ReflectliteValue.isNil #[.agg #[.pointer (some ⟨19, 131, none⟩), .pointer (some a), .int .u64 150]]).run Tryz.prog W = .ok (.bool false) W := by
  rw [rlm]
  simp only [Sem.run_bind, Tryz.as_parts27, Result.andThen]
  simp [ReflectliteValue.isNil, loadVar, isAgg, underlying, Tryz.underlying131, ha, Result.andThen]
theorem Tryz.as_methodElem (h : Value) (w : World) : (Go.method 409 204 (.agg #[h]) "Elem").run Tryz.prog w = .ok (298, .agg #[h]) w := by kernel_rfl
theorem Tryz.as_methodImplements (h : Value) (w : World) : (Go.method 409 204 (.agg #[h]) "Implements").run Tryz.prog w = .ok (299, .agg #[h]) w := by kernel_rfl
theorem Tryz.as_methodAssignableTo (h : Value) (w : World) : (Go.method 409 204 (.agg #[h]) "AssignableTo").run Tryz.prog w = .ok (296, .agg #[h]) w := by kernel_rfl
theorem Tryz.as_elem27 (w : World) : (ReflectliteType.method ReflectliteType.elem #[.agg #[.pointer (some ⟨19, 131, none⟩)]]).run Tryz.prog w = .ok (.iface 204 (.agg #[.pointer (some ⟨19, 102, none⟩)])) w := by kernel_rfl
theorem Tryz.as_implements25 (w : World) : (ReflectliteType.relation "Implements" ReflectliteType.implements_ #[.agg #[.pointer (some ⟨19, 102, none⟩)], .iface 204 (.agg #[.pointer (some ⟨19, 29, none⟩)])]).run Tryz.prog w = .ok (.bool true) w := by kernel_rfl
theorem Tryz.as_typeOf25 (v : Value) (w : World) : (ReflectliteType.typeOf #[.iface 102 v]).run Tryz.prog w = .ok (.iface 204 (.agg #[.pointer (some ⟨19, 102, none⟩)])) w := by kernel_rfl
theorem Tryz.as_assignable25 (w : World) : (ReflectliteType.relation "AssignableTo" ReflectliteType.assignableTo #[.agg #[.pointer (some ⟨19, 102, none⟩)], .iface 204 (.agg #[.pointer (some ⟨19, 102, none⟩)])]).run Tryz.prog w = .ok (.bool true) w := by kernel_rfl
theorem Tryz.as_valueOf25 (e : Addr) (w : World) : (ReflectliteValue.unpack (.iface 102 (.pointer (some e)))).run Tryz.prog w
    = .ok (.agg #[.pointer (some ⟨19, 102, none⟩), .pointer (some ⟨w.heap.size, 0, none⟩), .int .u64 150]) (w.alloc (.cells #[.pointer (some e)] 102)) := by kernel_rfl
theorem Tryz.as_elemOf27 (w : World) : (Rtype.elem? 131).run Tryz.prog w = .ok (some 102) w := by kernel_rfl
theorem Tryz.as_mk25 (p : Addr) (w : World) : (ReflectliteValue.mk 102 p ReflectliteValue.flagAddr).run Tryz.prog w = .ok (.agg #[.pointer (some ⟨19, 102, none⟩), .pointer (some p), .int .u64 406]) w := by kernel_rfl
theorem Tryz.as_elemV27 (a p : Addr) (W : World) (ha : W.cell? a = some (.pointer (some p))) :
    (ReflectliteValue.method (ReflectliteValue.valueError "reflectlite.Value.Elem" 0) ReflectliteValue.elem #[.agg #[.pointer (some ⟨19, 131, none⟩), .pointer (some a), .int .u64 150]]).run Tryz.prog W
      = .ok (.agg #[.pointer (some ⟨19, 102, none⟩), .pointer (some p), .int .u64 406]) W := by
  rw [rlm]
  simp only [Sem.run_bind, Tryz.as_parts27, Result.andThen]
  simp [ReflectliteValue.elem, loadVar, isAgg, underlying, Tryz.underlying131, ha, Result.andThen, Tryz.as_elemOf27, Tryz.as_mk25]
theorem rls (v x : Value) : ReflectliteValue.set #[v, x] = (do
    let (some (dst, a, fl), some (src, b, _)) := (← ReflectliteValue.parts v, ← ReflectliteValue.parts x)
      | unsupported (.noEntry "extern/(internal/reflectlite.Value).Set.zeroValue")
    if fl / ReflectliteValue.flagAddr % 2 == 0 then unsupported (.noEntry "extern/(internal/reflectlite.Value).Set.unaddressable")
    let val ← loadVar src b
    if ← Rtype.directlyAssignable dst src then storeVar dst a val
    else if ← Rtype.implements dst src then
      if (← Rtype.kind src) == 20 then
        match val with
        | .nilIface => unsupported (.noEntry "extern/reflectlite: a nil value of one interface type handed on as a value of another")
        | _ => storeVar dst a val
      else storeVar dst a (.iface src val)
    else panicString ("reflectlite.Set: value of type " ++ (← Rtype.spelt src) ++ " is not assignable to type " ++ (← Rtype.spelt dst))
    pure (.tuple #[])) := rfl
theorem Tryz.as_parts25a (a : Addr) (w : World) : (ReflectliteValue.parts (.agg #[.pointer (some ⟨19, 102, none⟩), .pointer (some a), .int .u64 406])).run Tryz.prog w = .ok (some (102, a, 406)) w := by kernel_rfl
theorem Tryz.as_parts25 (a : Addr) (w : World) : (ReflectliteValue.parts (.agg #[.pointer (some ⟨19, 102, none⟩), .pointer (some a), .int .u64 150])).run Tryz.prog w = .ok (some (102, a, 150)) w := by kernel_rfl
theorem Tryz.as_direct25 (w : World) : (Rtype.directlyAssignable 102 102).run Tryz.prog w = .ok true w := by kernel_rfl
theorem Tryz.as_set25 (ta b e : Addr) (old : Value) (W : World) (hb : W.cell? b = some (.pointer (some e))) (ht : W.cell? ta = some old) (hf : W.frozen? ta = false) :
    (ReflectliteValue.set #[.agg #[.pointer (some ⟨19, 102, none⟩), .pointer (some ta), .int .u64 406], .agg #[.pointer (some ⟨19, 102, none⟩), .pointer (some b), .int .u64 150]]).run Tryz.prog W
      = .ok (.tuple #[]) (W.setCell ta (.pointer (some e))) := by
  rw [rls]
  simp only [Sem.run_bind, Tryz.as_parts25a, Tryz.as_parts25, Result.andThen]
  simp [ReflectliteValue.flagAddr, loadVar, isAgg, underlying, Tryz.underlying102, hb, Result.andThen, Tryz.as_direct25, storeVar, Value.cells, storeCells, Addr.add]
  rw [run_store Tryz.prog W ta _ _ (by rfl)]
  simp [ht, hf]
set_option maxHeartbeats 4000000 in
theorem as_hit (e t : Addr) (old : Value) (w : World) (hg : w.cell? ⟨10, 0, none⟩ = some (.iface 204 (.agg #[.pointer (some ⟨19, 29, none⟩)]))) (ht0 : w.cell? t = some old) (hf0 : w.frozen? t = false) :
    Calls Tryz.prog 116 #[.iface 102 (.pointer (some e)), .iface 131 (.pointer (some t))] w fun ev w' => ev = .returned (.bool true) ∧ w' = ((((w.alloc (.cells #[.pointer (some t)] 131)).alloc (.cells #[.pointer (some ⟨19, 131, none⟩), .pointer (some ⟨w.heap.size, 0, none⟩), .int .u64 150] 173)).alloc (.cells #[.pointer (some ⟨19, 131, none⟩), .pointer (some ⟨w.heap.size, 0, none⟩), .int .u64 150] 173)).alloc (.cells #[.pointer (some e)] 102)).setCell t (.pointer (some e)) := by
  have h6 := @run_callFunc_extern Tryz.prog 162 _ (fun args => ReflectliteValue.unpack (args.getD 0 (.tuple #[]))) Tryz.func162 (by kernel_rfl) (by kernel_rfl) (by kernel_rfl) (by kernel_rfl)
  have h7 := @run_callFunc_extern Tryz.prog 163 _ (ReflectliteValue.methodAny (ReflectliteValue.valueError "reflectlite.Value.Type" 0) (fun t _ _ _ => ReflectliteType.toType t)) Tryz.func163 (by kernel_rfl) (by kernel_rfl) (by kernel_rfl) (by kernel_rfl)
  have h8 := @run_callFunc_extern Tryz.prog 164 _ (ReflectliteValue.method (ReflectliteValue.valueError "reflectlite.Value.IsNil" 0) ReflectliteValue.isNil) Tryz.func164 (by kernel_rfl) (by kernel_rfl) (by kernel_rfl) (by kernel_rfl)
  have h27 := @run_callFunc_extern Tryz.prog 287 _ (ReflectliteType.abiMethod fun t => do pure (.int .u8 (← Rtype.kind t))) Tryz.func287 (by kernel_rfl) (by kernel_rfl) (by kernel_rfl) (by kernel_rfl)
  have h37 := @run_callFunc_extern Tryz.prog 298 _ (ReflectliteType.method ReflectliteType.elem) Tryz.func298 (by kernel_rfl) (by kernel_rfl) (by kernel_rfl) (by kernel_rfl)
  have h38 := @run_callFunc_extern Tryz.prog 299 _ (ReflectliteType.relation "Implements" ReflectliteType.implements_) Tryz.func299 (by kernel_rfl) (by kernel_rfl) (by kernel_rfl) (by kernel_rfl)
  have h10 := @run_callFunc_extern Tryz.prog 166 _ ReflectliteType.typeOf Tryz.func166 (by kernel_rfl) (by kernel_rfl) (by kernel_rfl) (by kernel_rfl)
  have h35 := @run_callFunc_extern Tryz.prog 296 _ (ReflectliteType.relation "AssignableTo" ReflectliteType.assignableTo) Tryz.func296 (by kernel_rfl) (by kernel_rfl) (by kernel_rfl) (by kernel_rfl)
  have h11 := @run_callFunc_extern Tryz.prog 196 _ (ReflectliteValue.method (ReflectliteValue.valueError "reflectlite.Value.Elem" 0) ReflectliteValue.elem) Tryz.func196 (by kernel_rfl) (by kernel_rfl) (by kernel_rfl) (by kernel_rfl)
  have h12 := @run_callFunc_extern Tryz.prog 197 _ ReflectliteValue.set Tryz.func197 (by kernel_rfl) (by kernel_rfl) (by kernel_rfl) (by kernel_rfl)
  have tO := Tryz.as_typeOf25
  have mA := Tryz.as_methodAssignableTo
  have a25 := Tryz.as_assignable25
  have v25 := Tryz.as_valueOf25
  have f6 := Tryz.as_valueOf27
  have f7 := Tryz.as_type27
  have mK := Tryz.as_methodKind
  have mE := Tryz.as_methodElem
  have mI := Tryz.as_methodImplements
  have k27 := Tryz.as_kind27
  have k25 := Tryz.as_kind25
  have e27 := Tryz.as_elem27
  have i25 := Tryz.as_implements25
  have n8 := Tryz.as_isNil27 ⟨w.heap.size, 0, none⟩ t ((w.alloc (.cells #[.pointer (some t)] 131)).alloc (.cells #[.pointer (some ⟨19, 131, none⟩), .pointer (some ⟨w.heap.size, 0, none⟩), .int .u64 150] 173)) (by simp)
  have hlt : 10 < w.heap.size := World.block_lt_of_cell? w _ hg
  have hg2 : ((w.alloc (.cells #[.pointer (some t)] 131)).alloc (.cells #[.pointer (some ⟨19, 131, none⟩), .pointer (some ⟨w.heap.size, 0, none⟩), .int .u64 150] 173)).cell? ⟨10, 0, none⟩ = some (.iface 204 (.agg #[.pointer (some ⟨19, 29, none⟩)])) := by
    rw [World.cell?_alloc_lt _ _ ⟨10, 0, none⟩ (by simp; omega), World.cell?_alloc_lt _ _ ⟨10, 0, none⟩ hlt]; exact hg
  have htl : t.block < w.heap.size := by
    rcases Nat.lt_or_ge t.block w.heap.size with h | h
    · exact h
    · simp [World.cell?, Array.getElem?_eq_none h] at ht0
  have el := Tryz.as_elemV27 ⟨w.heap.size, 0, none⟩ t (((w.alloc (.cells #[.pointer (some t)] 131)).alloc (.cells #[.pointer (some ⟨19, 131, none⟩), .pointer (some ⟨w.heap.size, 0, none⟩), .int .u64 150] 173)).alloc (.cells #[.pointer (some ⟨19, 131, none⟩), .pointer (some ⟨w.heap.size, 0, none⟩), .int .u64 150] 173)) (by rw [World.cell?_alloc_lt _ _ ⟨w.heap.size, 0, none⟩ (by simp; omega)]; simp)
  have st := Tryz.as_set25 t ⟨w.heap.size + 1 + 1 + 1, 0, none⟩ e old ((((w.alloc (.cells #[.pointer (some t)] 131)).alloc (.cells #[.pointer (some ⟨19, 131, none⟩), .pointer (some ⟨w.heap.size, 0, none⟩), .int .u64 150] 173)).alloc (.cells #[.pointer (some ⟨19, 131, none⟩), .pointer (some ⟨w.heap.size, 0, none⟩), .int .u64 150] 173)).alloc (.cells #[.pointer (some e)] 102))
    (by rw [World.cell?_alloc_at _ _ _ _ (by simp)]; rfl)
    (by rw [World.cell?_alloc_lt _ _ t (by simp; omega), World.cell?_alloc_lt _ _ t (by simp; omega), World.cell?_alloc_lt _ _ t (by simp; omega), World.cell?_alloc_lt _ _ t htl]; exact ht0)
    (by rw [World.frozen?_alloc_old _ _ t (by simp; omega), World.frozen?_alloc_old _ _ t (by simp; omega), World.frozen?_alloc_old _ _ t (by simp; omega), World.frozen?_alloc_old _ _ t (Nat.ne_of_lt htl)]; exact hf0)
  go_enter Tryz.func116, Tryz.ntmps116
  go_wp2
  refine wp_loop_rounds 1 ?_
  rw [rounds_succ]
  go_wp2
  go_ret
  exact ⟨rfl, rfl⟩
theorem Tryz.as_assignableE (w : World) : (ReflectliteType.relation "AssignableTo" ReflectliteType.assignableTo #[.agg #[.pointer (some ⟨19, 271, none⟩)], .iface 204 (.agg #[.pointer (some ⟨19, 102, none⟩)])]).run Tryz.prog w = .ok (.bool false) w := by kernel_rfl
set_option maxHeartbeats 4000000 in
theorem as_miss (e t : Addr) (old : Value) (w : World) (hg : w.cell? ⟨10, 0, none⟩ = some (.iface 204 (.agg #[.pointer (some ⟨19, 29, none⟩)]))) (ht0 : w.cell? t = some old) (_hf0 : w.frozen? t = false) :
    Calls Tryz.prog 116 #[.iface 271 (.pointer (some e)), .iface 131 (.pointer (some t))] w fun ev w' => ev = .returned (.bool false) ∧ Below w.heap.size w w' := by
  have h6 := @run_callFunc_extern Tryz.prog 162 _ (fun args => ReflectliteValue.unpack (args.getD 0 (.tuple #[]))) Tryz.func162 (by kernel_rfl) (by kernel_rfl) (by kernel_rfl) (by kernel_rfl)
  have h7 := @run_callFunc_extern Tryz.prog 163 _ (ReflectliteValue.methodAny (ReflectliteValue.valueError "reflectlite.Value.Type" 0) (fun t _ _ _ => ReflectliteType.toType t)) Tryz.func163 (by kernel_rfl) (by kernel_rfl) (by kernel_rfl) (by kernel_rfl)
  have h8 := @run_callFunc_extern Tryz.prog 164 _ (ReflectliteValue.method (ReflectliteValue.valueError "reflectlite.Value.IsNil" 0) ReflectliteValue.isNil) Tryz.func164 (by kernel_rfl) (by kernel_rfl) (by kernel_rfl) (by kernel_rfl)
  have h27 := @run_callFunc_extern Tryz.prog 287 _ (ReflectliteType.abiMethod fun t => do pure (.int .u8 (← Rtype.kind t))) Tryz.func287 (by kernel_rfl) (by kernel_rfl) (by kernel_rfl) (by kernel_rfl)
  have h37 := @run_callFunc_extern Tryz.prog 298 _ (ReflectliteType.method ReflectliteType.elem) Tryz.func298 (by kernel_rfl) (by kernel_rfl) (by kernel_rfl) (by kernel_rfl)
  have h38 := @run_callFunc_extern Tryz.prog 299 _ (ReflectliteType.relation "Implements" ReflectliteType.implements_) Tryz.func299 (by kernel_rfl) (by kernel_rfl) (by kernel_rfl) (by kernel_rfl)
  have h10 := @run_callFunc_extern Tryz.prog 166 _ ReflectliteType.typeOf Tryz.func166 (by kernel_rfl) (by kernel_rfl) (by kernel_rfl) (by kernel_rfl)
  have h35 := @run_callFunc_extern Tryz.prog 296 _ (ReflectliteType.relation "AssignableTo" ReflectliteType.assignableTo) Tryz.func296 (by kernel_rfl) (by kernel_rfl) (by kernel_rfl) (by kernel_rfl)
  have tO := Tryz.is_typeOf
  have aE := Tryz.as_assignableE
  have nA := Tryz.no_asE
  have uE := Tryz.no_unwrapE
  have vE := Tryz.no_unwrapsE
  have mA := Tryz.as_methodAssignableTo
  have f6 := Tryz.as_valueOf27
  have f7 := Tryz.as_type27
  have mK := Tryz.as_methodKind
  have mE := Tryz.as_methodElem
  have mI := Tryz.as_methodImplements
  have k27 := Tryz.as_kind27
  have k25 := Tryz.as_kind25
  have e27 := Tryz.as_elem27
  have i25 := Tryz.as_implements25
  have n8 := Tryz.as_isNil27 ⟨w.heap.size, 0, none⟩ t ((w.alloc (.cells #[.pointer (some t)] 131)).alloc (.cells #[.pointer (some ⟨19, 131, none⟩), .pointer (some ⟨w.heap.size, 0, none⟩), .int .u64 150] 173)) (by simp)
  have hlt : 10 < w.heap.size := World.block_lt_of_cell? w _ hg
  have hg2 : ((w.alloc (.cells #[.pointer (some t)] 131)).alloc (.cells #[.pointer (some ⟨19, 131, none⟩), .pointer (some ⟨w.heap.size, 0, none⟩), .int .u64 150] 173)).cell? ⟨10, 0, none⟩ = some (.iface 204 (.agg #[.pointer (some ⟨19, 29, none⟩)])) := by
    rw [World.cell?_alloc_lt _ _ ⟨10, 0, none⟩ (by simp; omega), World.cell?_alloc_lt _ _ ⟨10, 0, none⟩ hlt]; exact hg
  have htl : t.block < w.heap.size := by
    rcases Nat.lt_or_ge t.block w.heap.size with h | h
    · exact h
    · simp [World.cell?, Array.getElem?_eq_none h] at ht0
  go_enter Tryz.func116, Tryz.ntmps116
  go_wp2
  refine wp_loop_rounds 1 ?_
  rw [rounds_succ]
  go_wp2
  go_ret
  exact ⟨rfl, (((Below.refl _ _).alloc (Nat.le_refl _) _).alloc (by simp) _).alloc (by simp; omega) _⟩
end Go.Proofs.Pw

namespace Go.Proofs.Pw
open Go.RowKit
structure EnvC (A : Nat → Addr) (w : World) : Prop where
  errs : EnvE allErrs A w
  handle : w.cell? ⟨10, 0, none⟩ = some (.iface 204 (.agg #[.pointer (some ⟨19, 29, none⟩)]))
theorem EnvC.below {A : Nat → Addr} {w w' : World} (h : EnvC A w) (hb : Below w.heap.size w w') : EnvC A w' := ⟨h.errs.below hb, Below.cell_same hb h.handle⟩
theorem Tryz.isIface_error : Tryz.prog.isIface 29 = true := by kernel_rfl
theorem code_nil (w : World) : Calls Tryz.prog 73 #[.nilIface] w fun e w' => e = .returned (.tuple #[.int .i64 0, .int .i64 (-1)]) ∧ w = w' := by
  go_enter Tryz.func73, Tryz.ntmps73
  go_wp2_with fail
  go_ret2
  exact ⟨rfl, rfl⟩
def ten (A : Nat → Addr) : Array Value := #[errP (A 1), errP (A 2), errP (A 3), errP (A 4), errP (A 5), errP (A 6), errP (A 7), errP (A 8), errP (A 9), errP (A 10)]
where errP (a : Addr) : Value := .iface 271 (.pointer (some a))
theorem ten_get (A : Nat → Addr) : ∀ i, i < 10 → (ten A)[i]? = some (.iface 271 (.pointer (some (A (i + 1)))))
  | 0, _ | 1, _ | 2, _ | 3, _ | 4, _ | 5, _ | 6, _ | 7, _ | 8, _ | 9, _ => rfl
  | _ + 10, h => absurd h (by omega)
def CodeIs (A : Nat → Addr) (a : Addr) (n : Int) : Prop := (∃ k : Nat, 1 ≤ k ∧ k ≤ 10 ∧ a = A k ∧ n = k) ∨ ((∀ k : Nat, 1 ≤ k → k ≤ 10 → a ≠ A k) ∧ n = -1)
set_option maxHeartbeats 1000000 in
set_option maxRecDepth 100000 in
theorem code_any (a : Addr) (c : Array Value) (ta : TypeId) (A : Nat → Addr) (w : World) (hE : EnvC A w) (ha : w.heap[a.block]? = some (.cells c ta (0, 0))) :
    Calls Tryz.prog 73 #[.iface 271 (.pointer (some a))] w fun e w' =>
      (∃ n : Int, e = .returned (.tuple #[.int .i64 n, .int .i64 (-1)]) ∧ CodeIs A a n) ∧ Below w.heap.size w w' := by
  have hT := Tryz.isIface_error
  have hb0 : Below w.heap.size w (w.alloc (.cells #[.pointer none] 102)) := (Below.refl _ _).alloc (Nat.le_refl _) _
  have hE0 := hE.below hb0
  have ha0 := Below.row_same hb0 ha
  have ht0 : (w.alloc (.cells #[.pointer none] 102)).cell? ⟨w.heap.size, 0, none⟩ = some (.pointer none) := by simp
  have hf0 : (w.alloc (.cells #[.pointer none] 102)).frozen? ⟨w.heap.size, 0, none⟩ = false := by simp
  have hz0 : w.heap.size ≤ (w.alloc (.cells #[.pointer none] 102)).heap.size := hb0.size
  go_enter Tryz.func73, Tryz.ntmps73
  go_wp2_with fail
  refine (as_miss a ⟨w.heap.size, 0, none⟩ (.pointer none) _ hE0.handle ht0 hf0).mono ?_
  rintro e w1 ⟨rfl, hb1⟩
  have hb01 := hb0.trans (hb1.mono hz0)
  have hE1 := hE0.below hb1
  have ha1 := Below.row_same hb1 ha0
  have g1 := hE1.errs.var 1 (mem_allErrs (by decide) (by decide))
  have g2 := hE1.errs.var 2 (mem_allErrs (by decide) (by decide))
  have g3 := hE1.errs.var 3 (mem_allErrs (by decide) (by decide))
  have g4 := hE1.errs.var 4 (mem_allErrs (by decide) (by decide))
  have g5 := hE1.errs.var 5 (mem_allErrs (by decide) (by decide))
  have g6 := hE1.errs.var 6 (mem_allErrs (by decide) (by decide))
  have g7 := hE1.errs.var 7 (mem_allErrs (by decide) (by decide))
  have g8 := hE1.errs.var 8 (mem_allErrs (by decide) (by decide))
  have g9 := hE1.errs.var 9 (mem_allErrs (by decide) (by decide))
  have g10 := hE1.errs.var 10 (mem_allErrs (by decide) (by decide))
  simp only [errG] at g1 g2 g3 g4 g5 g6 g7 g8 g9 g10
  clear ht0 hf0 hE0 hb0 ha0 hb1
  go_wp2_with fail
  have hbt : Below w.heap.size w (w1.alloc (.cells (ten A) 29)) := hb01.alloc hb01.size _
  have hbu : Below w1.heap.size w1 (w1.alloc (.cells (ten A) 29)) := (Below.refl _ _).alloc (Nat.le_refl _) _
  have hE2 := hE1.below hbu
  have ha2 := Below.row_same hbu ha1
  have hcells : ∀ i, i < 10 → (w1.alloc (.cells (ten A) 29)).cell? ⟨w1.heap.size, i, none⟩ = some (.iface 271 (.pointer (some (A (i + 1))))) := fun i hi => by
    rw [World.cell?_alloc_at _ _ _ _ rfl]; exact ten_get A i hi
  obtain ⟨W, hW⟩ : ∃ W, W = w1.alloc (.cells (ten A) 29) := ⟨_, rfl⟩
  have hgoal : w1.alloc (.cells #[.iface 271 (.pointer (some (A 1))), .iface 271 (.pointer (some (A 2))), .iface 271 (.pointer (some (A 3))), .iface 271 (.pointer (some (A 4))), .iface 271 (.pointer (some (A 5))), .iface 271 (.pointer (some (A 6))), .iface 271 (.pointer (some (A 7))), .iface 271 (.pointer (some (A 8))), .iface 271 (.pointer (some (A 9))), .iface 271 (.pointer (some (A 10)))] 29) = W := by rw [hW]; rfl
  rw [hgoal]
  rw [← hW] at hbt hE2 ha2 hcells
  clear hgoal hW hbu hE1 ha1 g1 g2 g3 g4 g5 g6 g7 g8 g9 g10 hE ha
  go_loop [3, 28] (fun t i => ∃ k : Nat, k ≤ 10 ∧ t = .int .i64 (-1) ∧ i = .int .i64 k ∧ Hid (∀ j, j < k → a ≠ A (j + 1))) (fun _ i => 10 - (intOf i).toNat)
  case atStart => exact ⟨0, by omega, rfl, rfl, fun _ h => absurd h (Nat.not_lt_zero _)⟩
  case round =>
    obtain ⟨k, hk, rfl, rfl, HA⟩ := hrel
    by_cases hlt : k < 10
    · have hck := hcells k hlt
      obtain ⟨cb, tb, hcb⟩ := hE2.errs.row (k + 1) (mem_allErrs (by omega) (by omega))
      by_cases hsame : a = A (k + 1)
      · subst hsame
        go_wp2_with (go_at_call 117; refine (is_same _ _).mono ?_; rintro e w2 ⟨rfl, rfl⟩)
        go_ret2
        exact ⟨⟨(k : Int) + 1, rfl, .inl ⟨k + 1, by omega, by omega, rfl, by omega⟩⟩, hbt⟩
      · go_wp2_with (go_at_call 117; refine (is_other _ _ _ _ _ _ _ hsame ha2 hcb).mono ?_; rintro e w2 ⟨rfl, rfl⟩)
        go_round
        case rel =>
          refine ⟨k + 1, by omega, rfl, by go_num, ?_⟩
          intro j hj
          rcases Nat.lt_or_ge j k with h | h
          · exact HA.out j h
          · obtain rfl : j = k := by omega
            exact hsame
        case measure => simp [intOf]; omega
    · obtain rfl : k = 10 := by omega
      go_wp2_with fail
      go_ret2
      refine ⟨⟨-1, rfl, .inr ⟨fun k h1 h2 => ?_, rfl⟩⟩, hbt⟩
      have := HA.out (k - 1) (by omega)
      rwa [Nat.sub_add_cancel h1] at this
theorem as_hit2 (e t : Addr) (old : Value) (w : World) (hg : w.cell? ⟨10, 0, none⟩ = some (.iface 204 (.agg #[.pointer (some ⟨19, 29, none⟩)]))) (ht0 : w.cell? t = some old) (hf0 : w.frozen? t = false) :
    Calls Tryz.prog 116 #[.iface 102 (.pointer (some e)), .iface 131 (.pointer (some t))] w fun ev w' => ev = .returned (.bool true) ∧ w'.cell? t = some (.pointer (some e)) ∧ Below t.block w w' := by
  have hlt : t.block < w.heap.size := World.block_lt_of_cell? w _ ht0
  refine (as_hit e t old w hg ht0 hf0).mono fun ev w' ⟨h1, h2⟩ => ⟨h1, ?_, ?_⟩
  · rw [h2]
    exact World.cell?_setCell_same _ _ _ (u := old) (by rw [World.cell?_alloc_lt _ _ t (by simp; omega), World.cell?_alloc_lt _ _ t (by simp; omega), World.cell?_alloc_lt _ _ t (by simp; omega), World.cell?_alloc_lt _ _ t hlt]; exact ht0)
  · rw [h2]
    exact ((((((Below.refl _ _).alloc (by omega) _).alloc (by simp; omega) _).alloc (by simp; omega) _).alloc (by simp; omega) _)).setCell (Nat.le_refl _) _
set_option maxHeartbeats 1000000 in
set_option maxRecDepth 100000 in
theorem code_fault (pb : Nat) (at_ : Int) (n : Nat) (A : Nat → Addr) (w : World) (hE : EnvC A w) (h1 : 1 ≤ n) (h2 : n ≤ 10) (hp0 : w.cell? ⟨pb, 0, none⟩ = some (.int .i64 at_)) (hp1 : w.cell? ⟨pb, 1, none⟩ = some (errV A n)) :
    Calls Tryz.prog 73 #[.iface 102 (.pointer (some ⟨pb, 0, none⟩))] w fun e w' => e = .returned (.tuple #[.int .i64 n, .int .i64 at_]) ∧ Below w.heap.size w w' := by
  have hT := Tryz.isIface_error
  have hb0 : Below w.heap.size w (w.alloc (.cells #[.pointer none] 102)) := (Below.refl _ _).alloc (Nat.le_refl _) _
  have hE0 := hE.below hb0
  rw [errV_pos A (by omega)] at hp1
  have hq0 := Below.cell_same hb0 hp0
  have hq1 := Below.cell_same hb0 hp1
  have hpl : pb < w.heap.size := World.block_lt_of_cell? w _ hp0
  have ht0 : (w.alloc (.cells #[.pointer none] 102)).cell? ⟨w.heap.size, 0, none⟩ = some (.pointer none) := by simp
  have hf0 : (w.alloc (.cells #[.pointer none] 102)).frozen? ⟨w.heap.size, 0, none⟩ = false := by simp
  have hz0 : w.heap.size ≤ (w.alloc (.cells #[.pointer none] 102)).heap.size := hb0.size
  go_enter Tryz.func73, Tryz.ntmps73
  go_wp2_with fail
  refine (as_hit2 ⟨pb, 0, none⟩ ⟨w.heap.size, 0, none⟩ (.pointer none) _ hE0.handle ht0 hf0).mono ?_
  rintro e w1 ⟨rfl, hc1, hb1⟩
  have hb01 : Below w.heap.size w w1 := hb0.trans hb1
  have hE1 := hE.below hb01
  have hr0 := Below.cell_same hb01 hp0
  have hr1 := Below.cell_same hb01 hp1
  have g1 := hE1.errs.var 1 (mem_allErrs (by decide) (by decide))
  have g2 := hE1.errs.var 2 (mem_allErrs (by decide) (by decide))
  have g3 := hE1.errs.var 3 (mem_allErrs (by decide) (by decide))
  have g4 := hE1.errs.var 4 (mem_allErrs (by decide) (by decide))
  have g5 := hE1.errs.var 5 (mem_allErrs (by decide) (by decide))
  have g6 := hE1.errs.var 6 (mem_allErrs (by decide) (by decide))
  have g7 := hE1.errs.var 7 (mem_allErrs (by decide) (by decide))
  have g8 := hE1.errs.var 8 (mem_allErrs (by decide) (by decide))
  have g9 := hE1.errs.var 9 (mem_allErrs (by decide) (by decide))
  have g10 := hE1.errs.var 10 (mem_allErrs (by decide) (by decide))
  simp only [errG] at g1 g2 g3 g4 g5 g6 g7 g8 g9 g10
  clear ht0 hf0 hE0 hb0 hq0 hq1 hb1 hp0 hp1
  go_wp2_with fail
  have hbt : Below w.heap.size w (w1.alloc (.cells (ten A) 29)) := hb01.alloc hb01.size _
  have hbu : Below w1.heap.size w1 (w1.alloc (.cells (ten A) 29)) := (Below.refl _ _).alloc (Nat.le_refl _) _
  have hE2 := hE1.below hbu
  have hs1 := Below.cell_same hbu hr1
  have hcells : ∀ i, i < 10 → (w1.alloc (.cells (ten A) 29)).cell? ⟨w1.heap.size, i, none⟩ = some (.iface 271 (.pointer (some (A (i + 1))))) := fun i hi => by
    rw [World.cell?_alloc_at _ _ _ _ rfl]; exact ten_get A i hi
  obtain ⟨W, hW⟩ : ∃ W, W = w1.alloc (.cells (ten A) 29) := ⟨_, rfl⟩
  have hgoal : w1.alloc (.cells #[.iface 271 (.pointer (some (A 1))), .iface 271 (.pointer (some (A 2))), .iface 271 (.pointer (some (A 3))), .iface 271 (.pointer (some (A 4))), .iface 271 (.pointer (some (A 5))), .iface 271 (.pointer (some (A 6))), .iface 271 (.pointer (some (A 7))), .iface 271 (.pointer (some (A 8))), .iface 271 (.pointer (some (A 9))), .iface 271 (.pointer (some (A 10)))] 29) = W := by rw [hW]; rfl
  rw [hgoal]
  rw [← hW] at hbt hE2 hs1 hcells
  clear hgoal hW hbu hE1 g1 g2 g3 g4 g5 g6 g7 g8 g9 g10 hE hr0 hr1 hc1
  go_loop [3, 28] (fun t i => ∃ k : Nat, t = .int .i64 at_ ∧ i = .int .i64 k ∧ k < n) (fun _ i => 10 - (intOf i).toNat)
  case atStart => exact ⟨0, rfl, rfl, by omega⟩
  case round =>
    obtain ⟨k, rfl, rfl, hk⟩ := hrel
    have hlt : k < 10 := by omega
    have hck := hcells k hlt
    obtain ⟨cb, tb, hcb⟩ := hE2.errs.row (k + 1) (mem_allErrs (by omega) (by omega))
    obtain ⟨ca, ta, hca⟩ := hE2.errs.row n (mem_allErrs (by omega) (by omega))
    by_cases hsame : n = k + 1
    · subst hsame
      go_wp2_with (go_at_call 117; refine (is_fault_same _ _ _ hs1).mono ?_; rintro e w2 ⟨rfl, rfl⟩)
      go_ret2
      exact ⟨rfl, hbt⟩
    · have hne : A n ≠ A (k + 1) := fun e => hsame (hE2.errs.inj _ (mem_allErrs (by omega) (by omega)) _ (mem_allErrs (by omega) (by omega)) e)
      go_wp2_with (go_at_call 117; refine (is_fault_other _ _ _ _ _ _ _ _ hs1 hne hca hcb).mono ?_; rintro e w2 ⟨rfl, rfl⟩)
      go_round
      case rel => exact ⟨k + 1, rfl, by go_num, by omega⟩
      case measure => simp [intOf]; omega
end Go.Proofs.Pw

namespace Go.Proofs.Pw
open Go.RowKit
theorem code_calls (i : Nat) (A : Nat → Addr) (w : World) (hE : EnvC A w) (hi : i ≤ 10) :
    Calls Tryz.prog 73 #[errV A i] w fun e w' => e = .returned (.tuple #[.int .i64 (i : Nat), .int .i64 (-1)]) ∧ Below w.heap.size w w' := by
  rcases Nat.eq_zero_or_pos i with rfl | h1
  · refine (code_nil w).mono ?_
    rintro e w' ⟨rfl, rfl⟩
    exact ⟨rfl, Below.refl _ _⟩
  · rw [errV_pos A (by omega)]
    obtain ⟨c, tc, hc⟩ := hE.errs.row i (mem_allErrs h1 hi)
    refine (code_any _ _ _ _ _ hE hc).mono ?_
    rintro e w1 ⟨⟨m, rfl, hm⟩, hb1⟩
    obtain rfl : m = i := by
      rcases hm with ⟨j, hj1, hj2, ha, rfl⟩ | ⟨h, _⟩
      · have := hE.errs.inj _ (mem_allErrs h1 hi) _ (mem_allErrs hj1 hj2) ha
        rw [this]
      · exact absurd rfl (h i h1 hi)
    exact ⟨rfl, hb1⟩
end Go.Proofs.Pw

namespace Go.Proofs.Pw
open Go.RowKit
open Go.Lib hiding intOf
theorem codeF_calls (A : Nat → Addr) (v : Value) (r : Nat × Int) (w : World) (hE : EnvC A w) (h : FaultAt A w v r) (hr : r.1 ≤ 10) :
    Calls Tryz.prog 73 #[v] w fun e w' => e = .returned (.tuple #[.int .i64 (r.1 : Nat), .int .i64 r.2]) ∧ Below w.heap.size w w' := by
  rcases h with ⟨h1, h2, rfl⟩ | ⟨h1, h2, rfl⟩ | ⟨h1, b, rfl, c3, c4⟩
  · rw [h1, h2]
    refine (code_nil w).mono ?_
    rintro e w' ⟨rfl, rfl⟩
    exact ⟨rfl, Below.refl _ _⟩
  · rw [h2]
    exact code_calls r.1 A w hE hr
  · exact code_fault b r.2 r.1 A w hE (by omega) hr c3 c4
theorem faulted2_calls (A : Nat → Addr) (v : Value) (r : Nat × Int) (w : World) (hE : EnvC A w) (h : FaultAt A w v r) (hr : r.1 ≤ 10) :
    Calls Tryz.prog 26 #[v, .agg #[.int .i64 (r.1 : Nat), .int .i64 r.2]] w fun e w' => e = .returned (.bool true) ∧ Below w.heap.size w w' := by
  have hB7 := below_alloc w (.cells #[.int .i64 (r.1 : Nat), .int .i64 r.2] 49)
  have hz := box2_alloc w (.int .i64 (r.1 : Nat)) (.int .i64 r.2) 49
  have hc := codeF_calls A v r _ (hE.below hB7) (h.below hB7) hr
  by_cases h0 : r.1 = 0
  · have h2 : r.2 = -1 := by
      rcases h with h | h | h
      · exact h.2.1
      · exact absurd h0 h.1
      · exact absurd h0 h.1
    rw [h0, h2] at hc hB7 hz ⊢
    clear h0 h2 h
    replace hc := Lib.hid hc
    go_enter Tryz.func26, Tryz.ntmps26
    obtain ⟨z0, z1, z2⟩ := id hz
    go_wp2_with fail
    refine (hc.out).mono ?_
    rintro e w1 ⟨rfl, hb⟩
    replace hB7 := below_step hB7 hb
    replace hz := hz.below hb
    clear hb
    obtain ⟨z0, z1, z2⟩ := id hz
    go_wp2_with fail
    go_ret
    exact ⟨rfl, hB7⟩
  · have hq : ((r.1 : Int) == 0) = false := beq_eq_false_iff_ne.2 (by omega)
    generalize r.2 = x at hc hz hB7 ⊢
    generalize r.1 = n at *
    clear h0 h
    replace hc := Lib.hid hc
    go_enter Tryz.func26, Tryz.ntmps26
    obtain ⟨z0, z1, z2⟩ := id hz
    go_wp2_with fail
    refine (hc.out).mono ?_
    rintro e w1 ⟨rfl, hb⟩
    replace hB7 := below_step hB7 hb
    replace hz := hz.below hb
    clear hb
    obtain ⟨z0, z1, z2⟩ := id hz
    go_wp2_with fail
    go_ret
    exact ⟨rfl, hB7⟩
end Go.Proofs.Pw

namespace Go.Proofs.Pw
open Go.RowKit
open Go.Lib hiding intOf
theorem longI_isU (l : List Md) (most : Nat) : longI l most = if longMods l most then 1 else 0 := rfl
theorem oneErr_le (l : List En) (roots : List Md) (m : Md) : (oneErr l roots m).1 ≤ 10 := by
  unfold oneErr
  refine orE_le (startErr_le l roots) ?_
  split
  · exact (by decide : 5 ≤ 10)
  · exact (by decide : 0 ≤ 10)
theorem newsErr_le (l : List En) (sel : List Md) : (newsErr l sel).1 ≤ 10 := by
  unfold newsErr
  refine orE_le (idxErr_le l) ?_
  split
  · exact (by decide : 0 ≤ 10)
  · exact (by decide : 8 ≤ 10)
structure UtArgs (ks : List Nat) (A : Nat → Addr) (la : Option Addr) (ln lc : Nat) (P V : Nat → ByteArray) (R : Nat → List Md) (K : Nat → List Str) (Bk : Nat → Bool) (Rv Kv : Nat → Value) (av bv : Value) (Am Bm : List Md) (w : World) : Prop where
  idx : IdxKs ks
  env : EnvP ks A w
  envC : EnvC A w
  l : EntsIn w la ln lc P V R K Bk Rv Kv
  a : ModsAt w av Am
  b : ModsAt w bv Bm
set_option maxHeartbeats 4000000 in
set_option maxRecDepth 100000 in
theorem upTells_long (ks : List Nat) (A : Nat → Addr) (la : Option Addr) (ln lc : Nat) (P V : Nat → ByteArray) (R : Nat → List Md) (K : Nat → List Str) (Bk : Nat → Bool) (Rv Kv : Nat → Value) (av bv : Value) (Am Bm : List Md) (p v : ByteArray) (w : World) (H : UtArgs ks A la ln lc P V R K Bk Rv Kv av bv Am Bm w)
    (hlong : longIdx (enF ln P V R K Bk) = true ∨ (longIdx (enF ln P V R K Bk) = false ∧ (¬ (longMods Am 15 = false ∧ longMods Bm 15 = false) ∨ ((longMods Am 15 = false ∧ longMods Bm 15 = false) ∧ (70 < p.size ∨ (p.size ≤ 70 ∧ 60 < v.size)))))) :
    Calls Tryz.prog 10 #[.slice la ln lc, av, .agg #[.string p, .string v], bv] w fun e w' => e = .returned (.bool true) ∧ Below w.heap.size w w' := by
  obtain ⟨a1, n1, c1, _, _, rfl, _⟩ := id H.a
  obtain ⟨a2, n2, c2, _, _, rfl, _⟩ := id H.b
  have hB := below_alloc w (.cells #[.string p, .string v] 38)
  have hm := box2_alloc w (.string p) (.string v) 38
  have hre := upped_calls ks A H.idx _ (H.env.below hB)
  have hlx := fun (W : World) (hb : Below w.heap.size w W) => longIndex_in la ln lc P V R K Bk Rv Kv W (H.l.below hb)
  have hlm1 := fun (W : World) (hb : Below w.heap.size w W) => longMods_calls (.slice a1 n1 c1) Am 15 W (H.a.below hb)
  have hlm2 := fun (W : World) (hb : Below w.heap.size w W) => longMods_calls (.slice a2 n2 c2) Bm 15 W (H.b.below hb)
  replace hre := Lib.hid hre
  replace hlx := Lib.hid hlx
  replace hlm1 := Lib.hid hlm1
  replace hlm2 := Lib.hid hlm2
  clear H
  rcases hlong with h1 | ⟨h1, h2 | ⟨⟨h2, h3⟩, h4⟩⟩
  · rw [longII_yes h1] at hlx
    clear h1
    obtain ⟨z0, z1, zf⟩ := id hm
    go_enter Tryz.func10, Tryz.ntmps10
    go_wp2_with fail
    refine hre.out.mono ?_
    generalize hw0 : w.alloc (.cells #[.string p, .string v] 38) = w0 at *
    rintro e w1 ⟨rfl, hb⟩
    have hsw : w.heap.size < w1.heap.size := Nat.lt_of_lt_of_le (by rw [← hw0]; simp) hb.size
    clear hw0
    replace hB := below_step hB hb
    replace hm := hm.below hb
    clear hb hre z0 z1 zf
    obtain ⟨z0, z1, zf⟩ := id hm
    go_wp2_with fail
    refine (hlx.out _ hB).mono ?_
    rintro e w' ⟨rfl, rfl⟩
    go_wp2_with fail
    go_ret
    exact ⟨rfl, hB⟩
  · rw [longII_no h1] at hlx
    clear h1
    cases h4 : longMods Am 15 <;> cases h5 : longMods Bm 15
    · exact absurd ⟨h4, h5⟩ h2
    all_goals
      clear h2
      have e1 := longI_isU Am 15
      have e2 := longI_isU Bm 15
      rw [h4] at e1
      rw [h5] at e2
      simp only [e1, e2] at hlm1 hlm2
      clear h4 h5 e1 e2
      obtain ⟨z0, z1, zf⟩ := id hm
      go_enter Tryz.func10, Tryz.ntmps10
      go_wp2_with fail
      refine hre.out.mono ?_
      generalize hw0 : w.alloc (.cells #[.string p, .string v] 38) = w0 at *
      rintro e w1 ⟨rfl, hb⟩
      have hsw : w.heap.size < w1.heap.size := Nat.lt_of_lt_of_le (by rw [← hw0]; simp) hb.size
      clear hw0
      replace hB := below_step hB hb
      replace hm := hm.below hb
      clear hb hre z0 z1 zf
      obtain ⟨z0, z1, zf⟩ := id hm
      go_wp2_with fail
      refine (hlx.out _ hB).mono ?_
      rintro e w' ⟨rfl, rfl⟩
      go_wp2_with fail
      refine (hlm1.out _ hB).mono ?_
      rintro e w' ⟨rfl, rfl⟩
      go_wp2_with fail
      refine (hlm2.out _ hB).mono ?_
      rintro e w' ⟨rfl, rfl⟩
      go_wp2_with fail
      go_ret
      exact ⟨rfl, hB⟩
  · rw [longII_no h1] at hlx
    rw [longI_no h2] at hlm1
    rw [longI_no h3] at hlm2
    clear h1 h2 h3
    rcases h4 with h4 | ⟨h4, h5⟩
    · have h4' : (70 : Int) < (p.size : Int) := by omega
      obtain ⟨z0, z1, zf⟩ := id hm
      go_enter Tryz.func10, Tryz.ntmps10
      go_wp2_with fail
      refine hre.out.mono ?_
      generalize hw0 : w.alloc (.cells #[.string p, .string v] 38) = w0 at *
      rintro e w1 ⟨rfl, hb⟩
      have hsw : w.heap.size < w1.heap.size := Nat.lt_of_lt_of_le (by rw [← hw0]; simp) hb.size
      clear hw0
      replace hB := below_step hB hb
      replace hm := hm.below hb
      clear hb hre z0 z1 zf
      obtain ⟨z0, z1, zf⟩ := id hm
      go_wp2_with fail
      refine (hlx.out _ hB).mono ?_
      rintro e w' ⟨rfl, rfl⟩
      go_wp2_with fail
      refine (hlm1.out _ hB).mono ?_
      rintro e w' ⟨rfl, rfl⟩
      go_wp2_with fail
      refine (hlm2.out _ hB).mono ?_
      rintro e w' ⟨rfl, rfl⟩
      go_wp2_with fail
      go_ret
      exact ⟨rfl, hB⟩
    · have h4' : ¬ (70 : Int) < (p.size : Int) := by omega
      have h5' : (60 : Int) < (v.size : Int) := by omega
      obtain ⟨z0, z1, zf⟩ := id hm
      go_enter Tryz.func10, Tryz.ntmps10
      go_wp2_with fail
      refine hre.out.mono ?_
      generalize hw0 : w.alloc (.cells #[.string p, .string v] 38) = w0 at *
      rintro e w1 ⟨rfl, hb⟩
      have hsw : w.heap.size < w1.heap.size := Nat.lt_of_lt_of_le (by rw [← hw0]; simp) hb.size
      clear hw0
      replace hB := below_step hB hb
      replace hm := hm.below hb
      clear hb hre z0 z1 zf
      obtain ⟨z0, z1, zf⟩ := id hm
      go_wp2_with fail
      refine (hlx.out _ hB).mono ?_
      rintro e w' ⟨rfl, rfl⟩
      go_wp2_with fail
      refine (hlm1.out _ hB).mono ?_
      rintro e w' ⟨rfl, rfl⟩
      go_wp2_with fail
      refine (hlm2.out _ hB).mono ?_
      rintro e w' ⟨rfl, rfl⟩
      go_wp2_with fail
      go_ret
      exact ⟨rfl, hB⟩
set_option maxHeartbeats 8000000 in
set_option maxRecDepth 100000 in
theorem upTells_main (ks : List Nat) (A : Nat → Addr) (la : Option Addr) (ln lc : Nat) (P V : Nat → ByteArray) (R : Nat → List Md) (K : Nat → List Str) (Bk : Nat → Bool) (Rv Kv : Nat → Value) (av bv : Value) (Am Bm : List Md) (p v : ByteArray) (w : World) (H : UtArgs ks A la ln lc P V R K Bk Rv Kv av bv Am Bm w)
    (h1 : longIdx (enF ln P V R K Bk) = false) (h2 : longMods Am 15 = false) (h2b : longMods Bm 15 = false) (h3 : p.size ≤ 70) (h4 : v.size ≤ 60) :
    Calls Tryz.prog 10 #[.slice la ln lc, av, .agg #[.string p, .string v], bv] w fun e w' => e = .returned (.bool true) ∧ Below w.heap.size w w' := by
  obtain ⟨a1, n1, c1, _, _, rfl, _⟩ := id H.a
  obtain ⟨a2, n2, c2, _, _, rfl, _⟩ := id H.b
  have hB := below_alloc w (.cells #[.string p, .string v] 38)
  have hm := box2_alloc w (.string p) (.string v) 38
  have hre := upped_calls ks A H.idx _ (H.env.below hB)
  have hlx := fun (W : World) (hb : Below w.heap.size w W) => longIndex_in la ln lc P V R K Bk Rv Kv W (H.l.below hb)
  have hlm1 := fun (W : World) (hb : Below w.heap.size w W) => longMods_calls (.slice a1 n1 c1) Am 15 W (H.a.below hb)
  have hlm2 := fun (W : World) (hb : Below w.heap.size w W) => longMods_calls (.slice a2 n2 c2) Bm 15 W (H.b.below hb)
  have hsi := longIdx_short h1
  have hsm := longIdx_small h1
  have hA1 := longMods_small h2
  have hA2 := longMods_small h2b
  have HH := Lib.hid H
  have HSI := Lib.hid hsi
  have h3' : ¬ (70 : Int) < (p.size : Int) := by omega
  have h4' : ¬ (60 : Int) < (v.size : Int) := by omega
  have hn101 : ln ≤ 101 := by have := hsm.1; rwa [enF_length] at this
  have how := fun (W : World) (hb : Below w.heap.size w W) => ownIndex_calls (.slice la ln lc) (enF ln P V R K Bk) W ⟨la, ln, lc, P, V, R, K, Bk, Rv, Kv, rfl, rfl, HH.out.l.below hb⟩ (by rw [enF_length]; omega) (fun e he => by
    have h4 := longEn_small (hsm.2 e he)
    have h5 := longMods_small h4.2.2.1
    exact ⟨by omega, by omega⟩)
  have hom1 := fun (W : World) (hb : Below w.heap.size w W) => ownMods_calls (.slice a1 n1 c1) Am W (HH.out.a.below hb) (by omega)
  have hom2 := fun (W : World) (hb : Below w.heap.size w W) => ownMods_calls (.slice a2 n2 c2) Bm W (HH.out.b.below hb) (by omega)
  have hro := fun (W : World) (hb : Below w.heap.size w W) => oneOf_in la ln lc P V R K Bk Rv Kv (.slice a1 n1 c1) Am p v W (HH.out.l.below hb) (HH.out.a.below hb) hsi (by omega)
  have hra := fun (W : World) (hb : Below w.heap.size w W) => allOf_in la ln lc P V R K Bk Rv Kv (.slice a1 n1 c1) Am W (HH.out.l.below hb) (HH.out.a.below hb) hsi (by omega)
  have hrn := fun (W : World) (hb : Below w.heap.size w W) => newsOf_in la ln lc P V R K Bk Rv Kv (.slice a2 n2 c2) Bm W (HH.out.l.below hb) (HH.out.b.below hb) hsi (by omega) (fun m hm => by have := hA2.2 m hm; omega)
  have hE := fun (W : World) (hb : Below w.heap.size w W) => HH.out.env.below hb
  have hEC := fun (W : World) (hb : Below w.heap.size w W) => HH.out.envC.below hb
  rw [longII_no h1] at hlx
  rw [longI_no h2] at hlm1
  rw [longI_no h2b] at hlm2
  have hAl := hA1.1
  have hBl := hA2.1
  have HBS := Lib.hid hA2.2
  have HI := Lib.hid HH.out.idx
  generalize hl0 : enF ln P V R K Bk = l at *
  have lO := oneErr_le l Am (p.data.toList, v.data.toList)
  have lS := startErr_le l Am
  have lN := newsErr_le l Bm
  have hfO := fun (W : World) (ev : Value) (h1 : Below w.heap.size w W) (h2 : FaultAt A W ev (oneErr l Am (p.data.toList, v.data.toList))) => faulted2_calls A ev _ W (hEC W h1) h2 lO
  have hfS := fun (W : World) (ev : Value) (h1 : Below w.heap.size w W) (h2 : FaultAt A W ev (startErr l Am)) => faulted2_calls A ev _ W (hEC W h1) h2 lS
  have hfN := fun (W : World) (ev : Value) (h1 : Below w.heap.size w W) (h2 : FaultAt A W ev (newsErr l Bm)) => faulted2_calls A ev _ W (hEC W h1) h2 lN
  unfold fltV at hro hra hrn
  obtain ⟨OE, hOE⟩ : ∃ x, x = oneErr l Am (p.data.toList, v.data.toList) := ⟨_, rfl⟩
  obtain ⟨OR, hOR⟩ : ∃ x, x = oneR l Am (p.data.toList, v.data.toList) := ⟨_, rfl⟩
  obtain ⟨SE, hSE⟩ : ∃ x, x = startErr l Am := ⟨_, rfl⟩
  obtain ⟨AR, hAR⟩ : ∃ x, x = allR l Am := ⟨_, rfl⟩
  obtain ⟨NE, hNE⟩ : ∃ x, x = newsErr l Bm := ⟨_, rfl⟩
  obtain ⟨NR, hNR⟩ : ∃ x, x = newsR l Bm := ⟨_, rfl⟩
  simp only [← hOE, ← hOR] at hro hfO
  simp only [← hSE, ← hAR] at hra hfS
  simp only [← hNE, ← hNR] at hrn hfN
  obtain ⟨oc, oa⟩ := OE
  obtain ⟨sc, sa⟩ := SE
  obtain ⟨nc, na⟩ := NE
  simp only at hro hra hrn hfO hfS hfN
  have HEQ1 := Lib.hid (And.intro hOE hOR)
  have HEQ2 := Lib.hid (And.intro hSE hAR)
  have HEQ3 := Lib.hid (And.intro hNE hNR)
  replace hre := Lib.hid hre
  replace hlx := Lib.hid hlx
  replace hlm1 := Lib.hid hlm1
  replace hlm2 := Lib.hid hlm2
  replace how := Lib.hid how
  replace hom1 := Lib.hid hom1
  replace hom2 := Lib.hid hom2
  replace hE := Lib.hid hE
  replace hro := Lib.hid hro
  replace hra := Lib.hid hra
  replace hrn := Lib.hid hrn
  replace hfO := Lib.hid hfO
  replace hfS := Lib.hid hfS
  replace hfN := Lib.hid hfN
  clear h1 h2 h2b h3 h4 hsi hsm hA1 hA2 H hl0 hEC lO lS lN hOE hOR hSE hAR hNE hNR
  obtain ⟨z0, z1, zf⟩ := id hm
  go_enter Tryz.func10, Tryz.ntmps10
  go_wp2_with fail
  refine hre.out.mono ?_
  generalize hw0 : w.alloc (.cells #[.string p, .string v] 38) = w0 at *
  rintro e w1 ⟨rfl, hb⟩
  have hsw : w.heap.size < w1.heap.size := Nat.lt_of_lt_of_le (by rw [← hw0]; simp) hb.size
  clear hw0
  replace hB := below_step hB hb
  replace hm := hm.below hb
  clear hb hre z0 z1 zf
  obtain ⟨z0, z1, zf⟩ := id hm
  go_wp2_with fail
  refine (hlx.out _ hB).mono ?_
  rintro e w' ⟨rfl, rfl⟩
  go_wp2_with fail
  refine (hlm1.out _ hB).mono ?_
  rintro e w' ⟨rfl, rfl⟩
  go_wp2_with fail
  refine (hlm2.out _ hB).mono ?_
  rintro e w' ⟨rfl, rfl⟩
  clear hlx hlm1 hlm2
  go_wp2_with fail
  refine (how.out _ hB).mono ?_
  rintro e w2 ⟨⟨ov, rfl, hOE⟩, hb⟩
  replace hB := below_step hB hb
  replace hm := hm.below hb
  have hsz2 : w.heap.size < w2.heap.size := Nat.lt_of_lt_of_le hsw hb.size
  obtain ⟨ob, on, od, P', V', R', K', B', Rv', Kv', rfl, hOl, hO⟩ := hOE
  have HO := Lib.hid hO
  have HOL := Lib.hid hOl
  have hC := Below.refl w2.heap.size w2
  clear hO hOl hb how z0 z1 zf hsw
  have hal := fun (W : World) (hb : Below w.heap.size w W) (hc : Below w2.heap.size w2 W) (rv : Value) (hr : ModsAt W rv Am) => upAll_in ks A HI.out ob on od P' V' R' K' B' Rv' Kv' rv Am W (hE.out W hb) (HO.out.below hc) (by rw [← HOL.out]; exact HSI.out) hr (by omega)
  have hnw := fun (W : World) (hb : Below w.heap.size w W) (hc : Below w2.heap.size w2 W) (sv : Value) (hv : ModsAt W sv Bm) => upNews_in ks A HI.out ob on od P' V' R' K' B' Rv' Kv' sv Bm W (hE.out W hb) (HO.out.below hc) (by rw [← HOL.out]; exact HSI.out) hv (by omega) (fun m hm => by have := HBS.out m hm; omega)
  have hon := fun (W : World) (hb : Below w.heap.size w W) (hc : Below w2.heap.size w2 W) (rv : Value) (hr : ModsAt W rv Am) => upOne_in ks A HI.out ob on od P' V' R' K' B' Rv' Kv' rv Am p v W (hE.out W hb) (HO.out.below hc) (by rw [← HOL.out]; exact HSI.out) hr (by omega)
  simp only [← HOL.out, ← HEQ1.out.1, ← HEQ1.out.2] at hon
  simp only [← HOL.out, ← HEQ2.out.1, ← HEQ2.out.2] at hal
  simp only [← HOL.out, ← HEQ3.out.1, ← HEQ3.out.2] at hnw
  replace hal := Lib.hid hal
  replace hnw := Lib.hid hnw
  replace hon := Lib.hid hon
  have HM2 := Lib.hid hm
  have HB2 := Lib.hid hB
  have hbW := (Below.refl w2.heap.size w2).drew
  clear hm hB hC
  go_wp2_with fail
  go_region_held2 (fun W => (W.cell? ⟨w.heap.size, 0, none⟩ = some (.string p) ∧ W.cell? ⟨w.heap.size, 1, none⟩ = some (.string v)) ∧ Below w2.heap.size w2 W) (exact ⟨⟨(HM2.out.below hbW).c0, (HM2.out.below hbW).c1⟩, hbW⟩) (first
    | (go_at_call 16; refine (hom1.out _ (below_step HB2.out hbW)).mono ?_; rintro e w11 ⟨⟨v11, rfl, hM11, _⟩, hb11⟩; obtain ⟨a11, n11, c11, _, _, rfl, _⟩ := id hM11; replace hbW := below_step hbW hb11)
    | (go_at_call 34; refine (hon.out _ (below_step HB2.out hbW) hbW _ hM11).mono ?_; rintro e w12 ⟨⟨x12, ev12, rfl, hf12, hx12⟩, hb12⟩; replace hbW := below_step hbW hb12))
  all_goals
    have hB := below_step HB2.out hbW
    have hC := hbW
    have hm := HM2.out.below hbW
    obtain ⟨a12, n12, c12, _, _, rfl, _⟩ := id hx12
    obtain ⟨z0, z1, zf⟩ := id hm
    have HF4 := Lib.hid hf12
    have HX4 := Lib.hid hx12
    clear hf12 hx12 hbW HM2 HB2
    go_wp2_with fail
    refine (hro.out _ hB).mono ?_
    rintro e w5 ⟨⟨x5, rfl, hx5⟩, hb⟩
    have hba := below_alloc w5 (.cells #[.int .i64 (oc : Nat), .int .i64 oa] 49)
    have hz := box2_alloc w5 (.int .i64 (oc : Nat)) (.int .i64 oa) 49
    have hs5 := (below_step hC hb).size
    replace hx5 := hx5.below hba
    replace hb := below_step hb hba
    replace hC := below_step hC hb
    replace hB := below_step hB hb
    have hf4 := HF4.out.below hb
    have hx4 := HX4.out.below hb
    obtain ⟨a5, n5, c5, _, _, rfl, _⟩ := id hx5
    obtain ⟨w6, hW⟩ : ∃ W, w5.alloc (.cells #[.int .i64 (oc : Nat), .int .i64 oa] 49) = W := ⟨_, rfl⟩
    rw [hW] at hz hx5 hC hB hf4 hx4
    have hft := hfO.out _ _ hB hf4
    have hsm := fun W hW => sameMods_calls _ _ _ _ W (hx4.below hW) (hx5.below hW)
    rw [decide_eq_true rfl] at hsm
    replace hft := Lib.hid hft
    replace hsm := Lib.hid hsm
    clear hb hba hro hf4 hx4 hx5 HF4 HX4 hfO z0 z1 zf hm
    obtain ⟨z0, z1, zf⟩ := id hz
    go_wp2_with fail
    clear hW
    generalize w5.heap.size = bf at *
    refine hft.out.mono ?_
    rintro e w7 ⟨rfl, hb⟩
    replace hB := below_step hB hb
    replace hC := below_step hC hb
    replace hz := hz.below hb
    have hsm7 := hsm.out _ hb
    replace hsm7 := Lib.hid hsm7
    clear hb hft hsm z0 z1 zf
    go_wp2_with fail
    refine hsm7.out.mono ?_
    rintro e w8 ⟨rfl, hb⟩
    replace hB := below_step hB hb
    replace hC := below_step hC hb
    replace hz := hz.below hb
    clear hb hsm7
    go_wp2_with fail
    refine (hom1.out _ hB).mono ?_
    rintro e w9 ⟨⟨v9, rfl, hM9, _⟩, hb⟩
    replace hB := below_step hB hb
    replace hC := below_step hC hb
    replace hz := hz.below hb
    obtain ⟨a9, n9, c9, _, _, rfl, _⟩ := id hM9
    have ha10 := hal.out _ hB hC _ hM9
    replace ha10 := Lib.hid ha10
    clear hb hM9
    go_wp2_with fail
    refine ha10.out.mono ?_
    rintro e w10 ⟨⟨x10, ev10, rfl, hf10, hx10⟩, hb⟩
    replace hB := below_step hB hb
    replace hC := below_step hC hb
    replace hz := hz.below hb
    obtain ⟨a10, n10, c10, _, _, rfl, _⟩ := id hx10
    have HFP := Lib.hid hf10
    have HXP := Lib.hid hx10
    clear hb hf10 hx10 ha10 hal
    go_wp2_with fail
    refine (hra.out _ hB).mono ?_
    rintro e w30 ⟨⟨x30, rfl, hx30⟩, hb⟩
    replace hB := below_step hB hb
    replace hC := below_step hC hb
    replace hz := hz.below hb
    obtain ⟨a30, n30, c30, _, _, rfl, _⟩ := id hx30
    have hx31 := (HXP.out.below hb).flt hz (.int .i64 (sc : Nat)) (.int .i64 sa)
    have hx32 := hx30.flt hz (.int .i64 (sc : Nat)) (.int .i64 sa)
    have hf31 := (HFP.out.below hb).flt hz (.int .i64 (sc : Nat)) (.int .i64 sa)
    obtain ⟨z0, z1, zf⟩ := id hz
    replace hz := hz.sto (.int .i64 (sc : Nat)) (.int .i64 sa)
    replace hB := below_sto2 hB (b := bf) (by omega) (.int .i64 (sc : Nat)) (.int .i64 sa)
    replace hC := below_sto2 hC (b := bf) (by omega) (.int .i64 (sc : Nat)) (.int .i64 sa)
    have hft := hfS.out _ _ hB hf31
    have hsm := fun W hW => sameMods_calls _ _ _ _ W (hx31.below hW) (hx32.below hW)
    rw [decide_eq_true rfl] at hsm
    replace hft := Lib.hid hft
    replace hsm := Lib.hid hsm
    clear hb hx30 hx31 hx32 hf31 HXP HFP hra hfS
    go_wp2_with fail
    generalize (w30.setCell ⟨bf, 0, none⟩ (.int .i64 (sc : Nat))).setCell ⟨bf, 1, none⟩ (.int .i64 sa) = w31 at *
    clear z0 z1 zf
    obtain ⟨z0, z1, zf⟩ := id hz
    go_wp2_with fail
    refine hft.out.mono ?_
    rintro e w32 ⟨rfl, hb⟩
    replace hB := below_step hB hb
    replace hC := below_step hC hb
    replace hz := hz.below hb
    have hsm7 := hsm.out _ hb
    replace hsm7 := Lib.hid hsm7
    clear hb hft hsm z0 z1 zf
    go_wp2_with fail
    refine hsm7.out.mono ?_
    rintro e w33 ⟨rfl, hb⟩
    replace hB := below_step hB hb
    replace hC := below_step hC hb
    replace hz := hz.below hb
    clear hb hsm7
    go_wp2_with fail
    refine (hom2.out _ hB).mono ?_
    rintro e w14 ⟨⟨v14, rfl, hM14, _⟩, hb⟩
    replace hB := below_step hB hb
    replace hC := below_step hC hb
    replace hz := hz.below hb
    obtain ⟨a14, n14, c14, _, _, rfl, _⟩ := id hM14
    have hn15 := hnw.out _ hB hC _ hM14
    replace hn15 := Lib.hid hn15
    clear hb hM14
    go_wp2_with fail
    refine hn15.out.mono ?_
    rintro e w15 ⟨⟨x15, ev15, rfl, hf15, hx15⟩, hb⟩
    replace hB := below_step hB hb
    replace hC := below_step hC hb
    replace hz := hz.below hb
    obtain ⟨a15, n15, c15, _, _, rfl, _⟩ := id hx15
    have HFP := Lib.hid hf15
    have HXP := Lib.hid hx15
    clear hb hf15 hx15 hn15 hnw
    go_wp2_with fail
    refine (hrn.out _ hB).mono ?_
    rintro e w30 ⟨⟨x30, rfl, hx30⟩, hb⟩
    replace hB := below_step hB hb
    replace hC := below_step hC hb
    replace hz := hz.below hb
    obtain ⟨a30, n30, c30, _, _, rfl, _⟩ := id hx30
    have hx31 := (HXP.out.below hb).flt hz (.int .i64 (nc : Nat)) (.int .i64 na)
    have hx32 := hx30.flt hz (.int .i64 (nc : Nat)) (.int .i64 na)
    have hf31 := (HFP.out.below hb).flt hz (.int .i64 (nc : Nat)) (.int .i64 na)
    obtain ⟨z0, z1, zf⟩ := id hz
    replace hz := hz.sto (.int .i64 (nc : Nat)) (.int .i64 na)
    replace hB := below_sto2 hB (b := bf) (by omega) (.int .i64 (nc : Nat)) (.int .i64 na)
    replace hC := below_sto2 hC (b := bf) (by omega) (.int .i64 (nc : Nat)) (.int .i64 na)
    have hft := hfN.out _ _ hB hf31
    have hsm := fun W hW => sameMods_calls _ _ _ _ W (hx31.below hW) (hx32.below hW)
    rw [decide_eq_true rfl] at hsm
    replace hft := Lib.hid hft
    replace hsm := Lib.hid hsm
    clear hb hx30 hx31 hx32 hf31 HXP HFP hrn hfN
    go_wp2_with fail
    generalize (w30.setCell ⟨bf, 0, none⟩ (.int .i64 (nc : Nat))).setCell ⟨bf, 1, none⟩ (.int .i64 na) = w31 at *
    clear z0 z1 zf
    obtain ⟨z0, z1, zf⟩ := id hz
    go_wp2_with fail
    refine hft.out.mono ?_
    rintro e w32 ⟨rfl, hb⟩
    replace hB := below_step hB hb
    replace hC := below_step hC hb
    replace hz := hz.below hb
    have hsm7 := hsm.out _ hb
    replace hsm7 := Lib.hid hsm7
    clear hb hft hsm z0 z1 zf
    go_wp2_with fail
    refine hsm7.out.mono ?_
    rintro e w33 ⟨rfl, hb⟩
    replace hB := below_step hB hb
    replace hC := below_step hC hb
    replace hz := hz.below hb
    clear hb hsm7
    go_wp2_with fail
    go_ret
    exact ⟨rfl, hB⟩
theorem upTells_calls (ks : List Nat) (A : Nat → Addr) (hks : IdxKs ks) (lv av bv : Value) (l : List En) (Am : List Md) (p v : ByteArray) (Bm : List Md) (w : World) (hE : EnvP ks A w) (hC : EnvC A w) (hl : EntsAt w lv l) (ha : ModsAt w av Am) (hb : ModsAt w bv Bm) :
    Calls Tryz.prog 10 #[lv, av, .agg #[.string p, .string v], bv] w fun e w' => e = .returned (.bool true) ∧ Below w.heap.size w w' := by
  obtain ⟨la, ln, lc, P, V, R, K, Bk, Rv, Kv, rfl, rfl, hin⟩ := hl
  have H : UtArgs ks A la ln lc P V R K Bk Rv Kv av bv Am Bm w := ⟨hks, hE, hC, hin, ha, hb⟩
  cases h1 : longIdx (enF ln P V R K Bk)
  · by_cases h2 : longMods Am 15 = false ∧ longMods Bm 15 = false
    · by_cases h3 : p.size ≤ 70
      · by_cases h4 : v.size ≤ 60
        · exact upTells_main ks A la ln lc P V R K Bk Rv Kv av bv Am Bm p v w H h1 h2.1 h2.2 h3 h4
        · exact upTells_long ks A la ln lc P V R K Bk Rv Kv av bv Am Bm p v w H (.inr ⟨h1, .inr ⟨h2, .inr ⟨h3, by omega⟩⟩⟩)
      · exact upTells_long ks A la ln lc P V R K Bk Rv Kv av bv Am Bm p v w H (.inr ⟨h1, .inr ⟨h2, .inl (by omega)⟩⟩)
    · exact upTells_long ks A la ln lc P V R K Bk Rv Kv av bv Am Bm p v w H (.inr ⟨h1, .inl h2⟩)
  · exact upTells_long ks A la ln lc P V R K Bk Rv Kv av bv Am Bm p v w H (.inl h1)
end Go.Proofs.Pw

namespace Go.Proofs.Pw
open Go.RowKit Go.ChangeShapes
def sentD (text : List UInt8) : DataW Unit := .iface "*errors.errorString" (.ptr (.agg [.lit (.string text)]))
theorem Tryz.star : "*" ++ "errors.errorString" = "*errors.errorString" := by decide
theorem Tryz.rowES : ∀ u, Tryz.prog.typeName? 3 u = some "*errors.errorString" → u = 271 := fun u h =>
  typeName_ptr_named (P := Tryz.prog) (nm := "errors.errorString") (by rw [Tryz.star]; kernel_rfl) (by kernel_rfl) (by decide) u (by rw [Tryz.star]; exact h)
section
variable {W : World}
set_option maxRecDepth 100000 in
theorem sent_mem {n : String} {text : List UInt8} : ∀ {l : List (String × DataW Unit)} {ps : List MemPlace}, DataW.LaidVars Tryz.prog W l ps →
    (∀ b off, MemPlace.cell b off ∈ ps → (∃ c t, W.heap[b]? = some (.cells c t (0, 0))) ∧ ∀ u v, W.cell? ⟨b, off, none⟩ = some (.iface u v) → Value.okWide Tryz.prog W .any 0 u v) →
    (n, sentD text) ∈ l → (∀ g, Tryz.prog.globalNamed n = some g → (Tryz.prog.globals[g]?).map (·.type) = some 29) →
    ∃ (g : Nat) (a : Addr), Tryz.prog.globalNamed n = some g ∧ W.cell? ⟨g, 0, none⟩ = some (.iface 271 (.pointer (some a))) ∧ MemPlace.cell a.block a.off ∈ ps
  | [], _, _, _, hm, _ => by cases hm
  | (n0, d0) :: r, ps, h, hrows, hm, ht => by
    obtain ⟨g, t, cs, fuel, p, q, hg, htt, hv, hd, hq, rfl⟩ := h
    rcases List.mem_cons.1 hm with he | hm
    · obtain ⟨rfl, rfl⟩ := Prod.mk.injEq .. ▸ he
      obtain rfl := Option.some.inj ((ht g hg).symm.trans htt)
      obtain ⟨l0⟩ := cs
      have ok0 : ∀ u v, l0 = [.iface u v] → Value.okWide Tryz.prog W .any 0 u v := fun u v e => by
        subst e
        exact (hrows g 0 (by simp [MemPlace.row])).2 u v (by simpa using World.var?_cell hg hv 0)
      obtain ⟨a, s, rfl, _, _, _, rfl⟩ := errorString_of_trod Tryz.underlying29 Tryz.rowES Tryz.underlying271 Tryz.underlying273 rfl rfl Tryz.underlying9 (by kernel_rfl) (by kernel_rfl) hd ok0
      exact ⟨g, a, hg, by simpa using World.var?_cell hg hv 0, by simp [MemPlace.row]⟩
    · obtain ⟨g', a, h1, h2, h3⟩ := sent_mem hq (fun b off hm => hrows b off (List.mem_append_right _ hm)) hm ht
      exact ⟨g', a, h1, h2, List.mem_append_right _ h3⟩
set_option maxRecDepth 100000 in
theorem sent_ne {n n' : String} {text text' : List UInt8} (hnn : n ≠ n') : ∀ {l : List (String × DataW Unit)} {ps : List MemPlace}, DataW.LaidVars Tryz.prog W l ps → ps.Nodup →
    (∀ b off, MemPlace.cell b off ∈ ps → (∃ c t, W.heap[b]? = some (.cells c t (0, 0))) ∧ ∀ u v, W.cell? ⟨b, off, none⟩ = some (.iface u v) → Value.okWide Tryz.prog W .any 0 u v) →
    (n, sentD text) ∈ l → (n', sentD text') ∈ l → (∀ g, Tryz.prog.globalNamed n = some g → (Tryz.prog.globals[g]?).map (·.type) = some 29) → (∀ g, Tryz.prog.globalNamed n' = some g → (Tryz.prog.globals[g]?).map (·.type) = some 29) →
    ∀ (g g' : Nat) (a a' : Addr), Tryz.prog.globalNamed n = some g → Tryz.prog.globalNamed n' = some g' → W.cell? ⟨g, 0, none⟩ = some (.iface 271 (.pointer (some a))) → W.cell? ⟨g', 0, none⟩ = some (.iface 271 (.pointer (some a'))) → a ≠ a'
  | [], _, _, _, _, hm, _, _, _ => by cases hm
  | (n0, d0) :: r, ps, h, hnd, hrows, hm, hm', ht, ht' => by
    intro g g' a a' hg hg' hc hc'
    obtain ⟨g0, t0, cs, fuel, p, q, hg0, htt, hv, hd, hq, rfl⟩ := h
    have hrq : ∀ b off, MemPlace.cell b off ∈ q → (∃ c t, W.heap[b]? = some (.cells c t (0, 0))) ∧ ∀ u v, W.cell? ⟨b, off, none⟩ = some (.iface u v) → Value.okWide Tryz.prog W .any 0 u v := fun b off hm => hrows b off (List.mem_append_right _ hm)
    have head : ∀ {m : String} {tx : List UInt8} {gm : Nat} {am : Addr}, (m, sentD tx) = (n0, d0) → (∀ g, Tryz.prog.globalNamed m = some g → (Tryz.prog.globals[g]?).map (·.type) = some 29) → Tryz.prog.globalNamed m = some gm → W.cell? ⟨gm, 0, none⟩ = some (.iface 271 (.pointer (some am))) → MemPlace.cell am.block am.off ∈ p := by
      intro m tx gm am he htm hgm hcm
      obtain ⟨rfl, rfl⟩ := Prod.mk.injEq .. ▸ he
      obtain rfl := Option.some.inj (hg0.symm.trans hgm)
      obtain rfl := Option.some.inj ((htm g0 hg0).symm.trans htt)
      obtain ⟨l0⟩ := cs
      have ok0 : ∀ u v, l0 = [.iface u v] → Value.okWide Tryz.prog W .any 0 u v := fun u v e => by
        subst e
        exact (hrows g0 0 (by simp [MemPlace.row])).2 u v (by simpa using World.var?_cell hg0 hv 0)
      obtain ⟨a1, s, rfl, _, _, _, rfl⟩ := errorString_of_trod Tryz.underlying29 Tryz.rowES Tryz.underlying271 Tryz.underlying273 rfl rfl Tryz.underlying9 (by kernel_rfl) (by kernel_rfl) hd ok0
      have e := World.var?_cell hg0 hv 0
      rw [hcm] at e
      simp at e
      subst e
      simp [MemPlace.row]
    have tail : ∀ {m : String} {tx : List UInt8} {gm : Nat} {am : Addr}, (m, sentD tx) ∈ r → (∀ g, Tryz.prog.globalNamed m = some g → (Tryz.prog.globals[g]?).map (·.type) = some 29) → Tryz.prog.globalNamed m = some gm → W.cell? ⟨gm, 0, none⟩ = some (.iface 271 (.pointer (some am))) → MemPlace.cell am.block am.off ∈ q := by
      intro m tx gm am hmm htm hgm hcm
      obtain ⟨g2, a2, h1, h2, h3⟩ := sent_mem hq hrq hmm htm
      obtain rfl := Option.some.inj (hgm.symm.trans h1)
      rw [hcm] at h2
      simp at h2
      subst h2
      exact h3
    rw [List.nodup_append] at hnd
    have hpq : ∀ x, x ∈ p → x ∈ q → False := fun x hx hy => hnd.2.2 x (List.mem_append_right _ hx) x hy rfl
    rcases List.mem_cons.1 hm with he | hm
    · rcases List.mem_cons.1 hm' with he' | hm'
      · exact absurd ((Prod.mk.inj he).1.trans (Prod.mk.inj he').1.symm) hnn
      · intro e
        subst e
        exact hpq _ (head he ht hg hc) (tail hm' ht' hg' hc')
    · rcases List.mem_cons.1 hm' with he' | hm'
      · intro e
        subst e
        exact hpq _ (head he' ht' hg' hc') (tail hm ht hg hc)
      · exact sent_ne hnn hq hnd.2.1 hrq hm hm' ht ht' g g' a a' hg hg' hc hc'
end
def errA (W : World) (k : Nat) : Addr := match W.cell? ⟨errG k, 0, none⟩ with
  | some (.iface _ (.pointer (some a))) => a
  | _ => default
theorem envE_of {W : World} {l : List (String × DataW Unit)} (h : laidMet Tryz.prog l W) (ks : List Nat) (nm : Nat → String) (tx : Nat → List UInt8)
    (hm : ∀ k ∈ ks, (nm k, sentD (tx k)) ∈ l) (hg : ∀ k ∈ ks, Tryz.prog.globalNamed (nm k) = some (errG k)) (ht : ∀ k ∈ ks, (Tryz.prog.globals[errG k]?).map (·.type) = some 29)
    (hne : ∀ j ∈ ks, ∀ k ∈ ks, j ≠ k → nm j ≠ nm k) : EnvE ks (errA W) W := by
  obtain ⟨ps, hv, hnd, hrows⟩ := h
  have htt : ∀ k ∈ ks, ∀ g, Tryz.prog.globalNamed (nm k) = some g → (Tryz.prog.globals[g]?).map (·.type) = some 29 := fun k hk g h => by
    obtain rfl := Option.some.inj ((hg k hk).symm.trans h)
    exact ht k hk
  have cell : ∀ k ∈ ks, W.cell? ⟨errG k, 0, none⟩ = some (.iface 271 (.pointer (some (errA W k)))) ∧ MemPlace.cell (errA W k).block (errA W k).off ∈ ps := fun k hk => by
    obtain ⟨g, a, h1, h2, h3⟩ := sent_mem hv hrows (hm k hk) (htt k hk)
    obtain rfl := Option.some.inj ((hg k hk).symm.trans h1)
    have e : errA W k = a := by unfold errA; rw [h2]
    rw [e]
    exact ⟨h2, h3⟩
  refine ⟨fun k hk => (cell k hk).1, fun k hk => (hrows _ _ (cell k hk).2).1, fun j hj k hk e => ?_⟩
  rcases Nat.decEq j k with hjk | hjk
  · exact absurd e (sent_ne (hne j hj k hk hjk) hv hnd hrows (hm j hj) (hm k hk) (htt j hj) (htt k hk) _ _ _ _ (hg j hj) (hg k hk) (cell j hj).1 (cell k hk).1)
  · exact hjk
theorem Tryz.et : Tryz.prog.globalNamed "errors.errorType" = some 10 := by kernel_rfl
theorem Tryz.rt : (Tryz.prog.cutTypes.find? (·.1 == "internal/reflectlite.rtype")).map (·.2) = some 204 := by kernel_rfl
theorem Tryz.oneRow : ((List.range 309).filter fun t => Tryz.prog.rowNamed t [101, 114, 114, 111, 114]) = [29] := by kernel_rfl
theorem Tryz.typesSize : Tryz.prog.types.size = 309 := by kernel_rfl
theorem handle_of {W : World} {hs : List (String × DataW Unit)} (h : handlesMet Tryz.prog hs W)
    (hm : ("errors.errorType", (.iface "internal/reflectlite.rtype" (.agg [.ptr (.lit (.string [101, 114, 114, 111, 114]))]) : DataW Unit)) ∈ hs) :
    W.cell? ⟨10, 0, none⟩ = some (.iface 204 (.agg #[.pointer (some ⟨19, 29, none⟩)])) := by
  obtain ⟨name, u, ty, e1, e2, e3, e4, e5⟩ := h _ hm
  have en : name = [101, 114, 114, 111, 114] := (Option.some.inj e1).symm
  subst en
  obtain rfl := Option.some.inj (Tryz.rt.symm.trans e2)
  have hmm : ty ∈ (List.range 309).filter fun t => Tryz.prog.rowNamed t [101, 114, 114, 111, 114] := List.mem_filter.2 ⟨List.mem_range.2 (by rw [← Tryz.typesSize]; exact e3), e4⟩
  rw [Tryz.oneRow] at hmm
  obtain rfl := List.mem_singleton.1 hmm
  have hh : typeHandle Tryz.prog 29 = .pointer (some ⟨19, 29, none⟩) := by kernel_rfl
  rw [hh] at e5
  simpa using World.var?_cell Tryz.et e5 0
end Go.Proofs.Pw

namespace Go.Proofs.Pw
open Go.RowKit Go.ChangeShapes
theorem tab_mem {W : World} {n : String} {k : IntKind} {zs : List Int} {g : Nat} {t e : TypeId} {m : Nat}
    (hg : Tryz.prog.globalNamed n = some g) (hty : (Tryz.prog.globals[g]?).map (·.type) = some t) (ht : Tryz.prog.underlying t = some (.array m e)) (he : Tryz.prog.underlying e = some (.int k)) (hce : Tryz.prog.cellsOf e = 1) (hct : Tryz.prog.cellsOf t = m) :
    ∀ {l : List (String × DataW Unit)} {ps : List MemPlace}, DataW.LaidVars Tryz.prog W l ps → (n, Lib.tabData k zs) ∈ l → Lib.TabIs Tryz.prog W n k zs
  | [], _, _, hm => by cases hm
  | (n0, d0) :: r, ps, h, hm => by
    obtain ⟨g', t', cs, fuel, p, q, hg', ht', hvar, hd, hq, rfl⟩ := h
    rcases List.mem_cons.1 hm with heq | hm
    · obtain ⟨rfl, rfl⟩ := Prod.mk.injEq .. ▸ heq
      obtain rfl := Option.some.inj (hg.symm.trans hg')
      obtain rfl := Option.some.inj (hty.symm.trans ht')
      unfold Lib.TabIs
      rw [hvar, ← Lib.cells_of_tab ht he hce hct hd]
    · exact tab_mem hg hty ht he hce hct hq hm
def errNm : Nat → String
  | 1 => "pewholder/api.ErrText" | 2 => "pewholder/api.ErrBound" | 3 => "pewholder/api.ErrShape" | 4 => "pewholder/api.ErrMajor" | 5 => "pewholder/api.ErrNone"
  | 6 => "pewholder/api.ErrExist" | 7 => "pewholder/api.ErrFull" | 8 => "pewholder/api.ErrOrder" | 9 => "pewholder/api.ErrClash" | _ => "pewholder/api.ErrSum"
def errTx : Nat → List UInt8
  | 1 => [112, 101, 119, 104, 111, 108, 100, 101, 114, 58, 32, 116, 101, 120, 116]
  | 2 => [112, 101, 119, 104, 111, 108, 100, 101, 114, 58, 32, 98, 111, 117, 110, 100]
  | 3 => [112, 101, 119, 104, 111, 108, 100, 101, 114, 58, 32, 115, 104, 97, 112, 101]
  | 4 => [112, 101, 119, 104, 111, 108, 100, 101, 114, 58, 32, 109, 97, 106, 111, 114]
  | 5 => [112, 101, 119, 104, 111, 108, 100, 101, 114, 58, 32, 110, 111, 110, 101]
  | 6 => [112, 101, 119, 104, 111, 108, 100, 101, 114, 58, 32, 101, 120, 105, 115, 116]
  | 7 => [112, 101, 119, 104, 111, 108, 100, 101, 114, 58, 32, 102, 117, 108, 108]
  | 8 => [112, 101, 119, 104, 111, 108, 100, 101, 114, 58, 32, 111, 114, 100, 101, 114]
  | 9 => [112, 101, 119, 104, 111, 108, 100, 101, 114, 58, 32, 99, 108, 97, 115, 104]
  | _ => [112, 101, 119, 104, 111, 108, 100, 101, 114, 58, 32, 115, 117, 109]
def rangeTx : List UInt8 := [118, 97, 108, 117, 101, 32, 111, 117, 116, 32, 111, 102, 32, 114, 97, 110, 103, 101]
theorem maxLenEnv {W : World} (h : W.ShapedOpen Tryz.prog) : EnvM W := by
  obtain ⟨m, hm⟩ := Tryz.laysM143.s1_3 W h
  exact ⟨m, hm⟩
theorem envP_of {W : World} {l : List (String × DataW Unit)} (h : laidMet Tryz.prog l W) (hsh : W.ShapedOpen Tryz.prog) (ks : List Nat) (hks : 1 ∈ ks ∧ 2 ∈ ks)
    (hm : ∀ k ∈ ks, (errNm k, sentD (errTx k)) ∈ l) (hg : ∀ k ∈ ks, Tryz.prog.globalNamed (errNm k) = some (errG k)) (ht : ∀ k ∈ ks, (Tryz.prog.globals[errG k]?).map (·.type) = some 29)
    (hne : ∀ j ∈ ks, ∀ k ∈ ks, j ≠ k → errNm j ≠ errNm k) (hr : ("strconv.ErrRange", sentD rangeTx) ∈ l) (hp : ("internal/strconv.uint64pow10", Lib.tabData .u64 Lib.pow10Tab) ∈ l) : EnvP ks (errA W) W := by
  refine { m := maxLenEnv hsh, errs := envE_of h ks errNm errTx hm hg ht hne, has := hks, range := ?_, pow10 := ?_ }
  · obtain ⟨ps, hv, hnd, hrows⟩ := h
    obtain ⟨g, a, h1, h2, _⟩ := sent_mem hv hrows hr (fun g hg => by
      obtain rfl := Option.some.inj ((show Tryz.prog.globalNamed "strconv.ErrRange" = some 13 by kernel_rfl).symm.trans hg)
      kernel_rfl)
    obtain rfl := Option.some.inj ((show Tryz.prog.globalNamed "strconv.ErrRange" = some 13 by kernel_rfl).symm.trans h1)
    exact ⟨_, _, h2⟩
  · obtain ⟨ps, hv, _, _⟩ := h
    exact tab_mem (g := 16) (by kernel_rfl) (by kernel_rfl) (Tryz.underlying275) (Tryz.underlying165) (by kernel_rfl) (by kernel_rfl) hv hp
theorem strsAt_open {w : World} {a : Addr} {len cap : Nat} {ss : List ByteArray} (hl : len ≤ cap) (hm : cap ≤ maxLen) (hlen : len ≤ ss.length) (hc : ∀ i, i < ss.length → w.cell? (a.add i) = some (.string (ss.getD i ByteArray.empty))) :
    StrsAt w (.slice (some a) len cap) (lstF len fun j => ss.getD j ByteArray.empty) := by
  refine ⟨some a, len, cap, _, rfl, rfl, hl, by unfold maxLen at hm; exact hm, fun j hj => ?_⟩
  have h0 := hc 0 (by omega)
  have hs : a.spot = none := by
    have e : a.add 0 = a := rfl
    rw [e] at h0
    unfold World.cell? at h0
    split at h0
    · split at h0
      · cases h0
      · rename_i h
        simpa using h
    · cases h0
  obtain ⟨b, o, s⟩ := a
  obtain rfl : s = none := hs
  refine ⟨b, o, rfl, ?_⟩
  have := hc j (by omega)
  have e : (⟨b, o, none⟩ : Addr).add j = ⟨b, o + j, none⟩ := by unfold Addr.add; split <;> simp_all
  rw [e] at this
  exact this
end Go.Proofs.Pw

namespace Go.Proofs.Pw
open Go.RowKit Go.ChangeShapes Go.WideShapes
theorem spot_none {w : World} {a : Addr} {v : Value} (h : w.cell? a = some v) : a.spot = none := by
  unfold World.cell? at h
  split at h
  · split at h
    · cases h
    · rename_i hs
      simpa using hs
  · cases h
theorem add_off (b o i : Nat) : (⟨b, o, none⟩ : Addr).add i = ⟨b, o + i, none⟩ := by unfold Addr.add; split <;> simp_all
set_option maxRecDepth 100000 in
theorem mdTrod {H : Type} {enc : TypeId × Value → H} {w : World} {base : Nat} {spare : Nat → Bool} {held : Bool} {fuel : Nat} {cs : List Value} {x : DataW H × List MemPlace}
    (h : DataW.trod enc Tryz.prog w base spare held fuel 38 cs = some x) : ∃ p v : ByteArray, cs = [.string p, .string v] := by
  obtain ⟨xs, n, _, _, hl, hx, hf⟩ := DataW.trod_struct Tryz.underlying38 h
  have hc : Tryz.prog.cellsOf 38 = 2 := by kernel_rfl
  have hs : Tryz.prog.cellsOf 9 = 1 := by kernel_rfl
  have h0 : DataW.trod enc Tryz.prog w base spare held n 9 ((cs.drop 0).take (Tryz.prog.cellsOf 9)) = xs[0]? := hf 0 _ rfl
  have h1 : DataW.trod enc Tryz.prog w base spare held n 9 ((cs.drop 1).take (Tryz.prog.cellsOf 9)) = xs[1]? := hf 1 _ rfl
  match cs, hl.trans hc with
  | [c0, c1], _ =>
    rw [hs] at h0 h1
    match xs, hx with
    | [x0, x1], _ =>
      obtain ⟨p, e0, _⟩ := DataW.trod_string Tryz.underlying9 h0
      obtain ⟨v, e1, _⟩ := DataW.trod_string Tryz.underlying9 h1
      simp at e0 e1
      exact ⟨p, v, by rw [e0, e1]⟩
set_option maxRecDepth 100000 in
theorem mdOpen {H : Type} {enc : TypeId × Value → H} {W : World} {base : Nat} {v : Value} {d : DataW H} {p : List MemPlace} (hv : Value.okWide Tryz.prog W .any base 38 v)
    (h : DataW.Trod enc Tryz.prog W 0 (fun _ => true) true 38 v d p) : ∃ p v' : ByteArray, v = .agg #[.string p, .string v'] := by
  obtain ⟨cs, rfl, _⟩ := okWide_struct Tryz.underlying38 hv
  obtain ⟨fuel, hf⟩ := h
  obtain ⟨p, v', e⟩ := mdTrod hf
  obtain ⟨l⟩ := cs
  simp [Value.cells] at e
  exact ⟨p, v', by rw [e]⟩
set_option maxRecDepth 100000 in
theorem modsCells {H : Type} {enc : TypeId × Value → H} {W : World} {fuel : Nat} {cs : List Value} {x : DataW H × List MemPlace}
    (h : DataW.trod enc Tryz.prog W 0 (fun _ => true) true fuel 23 cs = some x) : ∃ a n cap l, cs = [.slice a n cap] ∧ ModsAt W (.slice a n cap) l := by
  rcases Go.Deep.open_slice Tryz.underlying23 h with ⟨rfl, _⟩ | ⟨a, len, cap, m, n, D, Pl, rfl, _, hl, hm, hmm, _, hi⟩
  · exact ⟨none, 0, 0, [], rfl, ModsAt.nil W⟩
  · have hc : Tryz.prog.cellsOf 38 = 2 := by kernel_rfl
    rw [if_pos rfl] at hmm
    have key : ∀ i, i < len → ∃ p v : ByteArray, W.cell? (a.add (i * 2)) = some (.string p) ∧ W.cell? (a.add (i * 2 + 1)) = some (.string v) := fun i h => by
      obtain ⟨cs', h1, h2⟩ := hi i (by omega)
      rw [hc] at h1
      obtain ⟨p, v, rfl⟩ := mdTrod h2
      obtain ⟨_, _, hat⟩ := World.cells?_some h1
      have a0 := hat 0 (by decide)
      have a1 := hat 1 (by decide)
      rw [Go.Deep.add_add] at a0 a1
      exact ⟨p, v, a0, a1⟩
    classical
    let P : Nat → ByteArray := fun i => if h : i < len then (key i h).choose else ByteArray.empty
    let V : Nat → ByteArray := fun i => if h : i < len then (key i h).choose_spec.choose else ByteArray.empty
    refine ⟨some a, len, cap, mdF len P V, rfl, some a, len, cap, P, V, rfl, rfl, hl, by unfold maxLen at hm; exact hm, fun j hj => ?_⟩
    have h0 := (key j hj).choose_spec.choose_spec
    have hs : a.spot = none := by
      have := (key 0 (by omega)).choose_spec.choose_spec.1
      exact spot_none (a := a) this
    obtain ⟨b, o, s⟩ := a
    obtain rfl : s = none := hs
    refine ⟨b, o, rfl, ?_, ?_⟩
    · refine (congrArg W.cell? (add_off b o (j * 2)).symm).trans (h0.1.trans ?_)
      show _ = some (Value.string (if h : j < len then (key j h).choose else ByteArray.empty))
      rw [dif_pos hj]
    · refine (congrArg W.cell? (add_off b o (j * 2 + 1)).symm).trans (h0.2.trans ?_)
      show _ = some (Value.string (if h : j < len then (key j h).choose_spec.choose else ByteArray.empty))
      rw [dif_pos hj]
set_option maxRecDepth 100000 in
theorem modsOpen {H : Type} {enc : TypeId × Value → H} {W : World} {base : Nat} {v : Value} {d : DataW H} {p : List MemPlace} (hv : Value.okWide Tryz.prog W .any base 23 v)
    (h : DataW.Trod enc Tryz.prog W 0 (fun _ => true) true 23 v d p) : ∃ l, ModsAt W v l := by
  obtain ⟨a0, len, cap, rfl⟩ := okWide_slice Tryz.underlying23 hv
  obtain ⟨fuel, hf⟩ := h
  obtain ⟨a, n, c, l, e, hM⟩ := modsCells hf
  simp [Value.cells] at e
  obtain ⟨rfl, rfl, rfl⟩ := e
  exact ⟨l, hM⟩
end Go.Proofs.Pw

namespace Go.Proofs.Pw
open Go.RowKit Go.ChangeShapes Go.WideShapes
set_option maxRecDepth 100000 in
theorem strsCells {H : Type} {enc : TypeId × Value → H} {W : World} {fuel : Nat} {cs : List Value} {x : DataW H × List MemPlace}
    (h : DataW.trod enc Tryz.prog W 0 (fun _ => true) true fuel 41 cs = some x) : ∃ a n cap l, cs = [.slice a n cap] ∧ StrsAt W (.slice a n cap) l := by
  rcases ChangeShapes.open_strings Tryz.underlying41 Tryz.underlying9 (by kernel_rfl) h with ⟨hcs, _⟩ | ⟨a, len', cap', ss, hcs, _, hl, hm, hz, _, hcell, _⟩
  · exact ⟨none, 0, 0, [], hcs, StrsAt.nil W⟩
  · exact ⟨_, _, _, _, hcs, strsAt_open hl hm (by rw [hz, if_pos rfl]; exact hl) hcell⟩
set_option maxRecDepth 100000 in
theorem entTrod {H : Type} {enc : TypeId × Value → H} {W : World} {fuel : Nat} {cs : List Value} {x : DataW H × List MemPlace}
    (h : DataW.trod enc Tryz.prog W 0 (fun _ => true) true fuel 43 cs = some x) : ∃ (p v : ByteArray) (rv kv : Value) (R : List Md) (K : List Str) (b : Bool), cs = [.string p, .string v, rv, kv, .bool b] ∧ ModsAt W rv R ∧ StrsAt W kv K := by
  obtain ⟨xs, n, _, _, hl, hx, hf⟩ := DataW.trod_struct Tryz.underlying43 h
  have hc : Tryz.prog.cellsOf 43 = 5 := by kernel_rfl
  have hd : Tryz.prog.cellsOf 38 = 2 := by kernel_rfl
  have hm : Tryz.prog.cellsOf 23 = 1 := by kernel_rfl
  have hk : Tryz.prog.cellsOf 41 = 1 := by kernel_rfl
  have hb : Tryz.prog.cellsOf 4 = 1 := by kernel_rfl
  have h0 : DataW.trod enc Tryz.prog W 0 (fun _ => true) true n 38 ((cs.drop 0).take (Tryz.prog.cellsOf 38)) = xs[0]? := hf 0 _ rfl
  have h1 : DataW.trod enc Tryz.prog W 0 (fun _ => true) true n 23 ((cs.drop 2).take (Tryz.prog.cellsOf 23)) = xs[1]? := hf 1 _ rfl
  have h2 : DataW.trod enc Tryz.prog W 0 (fun _ => true) true n 41 ((cs.drop 3).take (Tryz.prog.cellsOf 41)) = xs[2]? := hf 2 _ rfl
  have h3 : DataW.trod enc Tryz.prog W 0 (fun _ => true) true n 4 ((cs.drop 4).take (Tryz.prog.cellsOf 4)) = xs[3]? := hf 3 _ rfl
  match cs, hl.trans hc with
  | [c0, c1, c2, c3, c4], _ =>
    rw [hd] at h0
    rw [hm] at h1
    rw [hk] at h2
    rw [hb] at h3
    match xs, hx with
    | [x0, x1, x2, x3], _ =>
      obtain ⟨p, v, e0⟩ := mdTrod h0
      obtain ⟨a1, n1, q1, R, e1, hR⟩ := modsCells h1
      obtain ⟨a2, n2, q2, K, e2, hK⟩ := strsCells h2
      obtain ⟨b, e3, _⟩ := DataW.trod_bool Tryz.underlying4 h3
      simp at e0 e1 e2 e3
      exact ⟨p, v, _, _, R, K, b, by rw [e0.1, e0.2, e1, e2, e3], hR, hK⟩
set_option maxRecDepth 100000 in
theorem entsCells {H : Type} {enc : TypeId × Value → H} {W : World} {fuel : Nat} {cs : List Value} {x : DataW H × List MemPlace}
    (h : DataW.trod enc Tryz.prog W 0 (fun _ => true) true fuel 22 cs = some x) : ∃ a n cap l, cs = [.slice a n cap] ∧ EntsAt W (.slice a n cap) l := by
  rcases Go.Deep.open_slice Tryz.underlying22 h with ⟨rfl, _⟩ | ⟨a, len, cap, m, n, D, Pl, rfl, _, hl, hm, hmm, _, hi⟩
  · exact ⟨none, 0, 0, [], rfl, EntsAt.nil W⟩
  · have hc : Tryz.prog.cellsOf 43 = 5 := by kernel_rfl
    rw [if_pos rfl] at hmm
    have key : ∀ i, i < len → ∃ x : ByteArray × ByteArray × Value × Value × List Md × List Str × Bool, (W.cell? (a.add (i * 5)) = some (.string x.1) ∧ W.cell? (a.add (i * 5 + 1)) = some (.string x.2.1) ∧ W.cell? (a.add (i * 5 + 2)) = some x.2.2.1 ∧ W.cell? (a.add (i * 5 + 3)) = some x.2.2.2.1 ∧ W.cell? (a.add (i * 5 + 4)) = some (.bool x.2.2.2.2.2.2)) ∧ ModsAt W x.2.2.1 x.2.2.2.2.1 ∧ StrsAt W x.2.2.2.1 x.2.2.2.2.2.1 := fun i h => by
      obtain ⟨cs', h1, h2⟩ := hi i (by omega)
      rw [hc] at h1
      obtain ⟨p, v, rv, kv, R, K, b, rfl, hR, hK⟩ := entTrod h2
      obtain ⟨_, _, hat⟩ := World.cells?_some h1
      have a0 := hat 0 (by decide)
      have a1 := hat 1 (by decide)
      have a2 := hat 2 (by decide)
      have a3 := hat 3 (by decide)
      have a4 := hat 4 (by decide)
      rw [Go.Deep.add_add] at a0 a1 a2 a3 a4
      exact ⟨(p, v, rv, kv, R, K, b), ⟨a0, a1, a2, a3, a4⟩, hR, hK⟩
    obtain ⟨F, hF⟩ : ∃ F : Nat → ByteArray × ByteArray × Value × Value × List Md × List Str × Bool, ∀ i, i < len → (W.cell? (a.add (i * 5)) = some (.string (F i).1) ∧ W.cell? (a.add (i * 5 + 1)) = some (.string (F i).2.1) ∧ W.cell? (a.add (i * 5 + 2)) = some (F i).2.2.1 ∧ W.cell? (a.add (i * 5 + 3)) = some (F i).2.2.2.1 ∧ W.cell? (a.add (i * 5 + 4)) = some (.bool (F i).2.2.2.2.2.2)) ∧ ModsAt W (F i).2.2.1 (F i).2.2.2.2.1 ∧ StrsAt W (F i).2.2.2.1 (F i).2.2.2.2.2.1 := by
      classical
      refine ⟨fun i => if h : i < len then (key i h).choose else (ByteArray.empty, ByteArray.empty, .nilIface, .nilIface, [], [], false), fun i hi => ?_⟩
      simp only [dif_pos hi]
      exact (key i hi).choose_spec
    refine ⟨some a, len, cap, enF len (fun i => (F i).1) (fun i => (F i).2.1) (fun i => (F i).2.2.2.2.1) (fun i => (F i).2.2.2.2.2.1) (fun i => (F i).2.2.2.2.2.2), rfl, some a, len, cap, _, _, _, _, _, fun i => (F i).2.2.1, fun i => (F i).2.2.2.1, rfl, rfl, hl, by unfold maxLen at hm; exact hm, fun j hj => ?_, fun j hj => (hF j hj).2.1, fun j hj => (hF j hj).2.2⟩
    have hs : a.spot = none := spot_none (a := a) (hF 0 (by omega)).1.1
    obtain ⟨b, o, s⟩ := a
    obtain rfl : s = none := hs
    obtain ⟨c0, c1, c2, c3, c4⟩ := (hF j hj).1
    rw [add_off] at c0 c1 c2 c3 c4
    exact ⟨b, o, rfl, c0, by rw [Nat.add_assoc]; exact c1, by rw [Nat.add_assoc]; exact c2, by rw [Nat.add_assoc]; exact c3, by rw [Nat.add_assoc]; exact c4⟩
set_option maxRecDepth 100000 in
theorem entsOpen {H : Type} {enc : TypeId × Value → H} {W : World} {base : Nat} {v : Value} {d : DataW H} {p : List MemPlace} (hv : Value.okWide Tryz.prog W .any base 22 v)
    (h : DataW.Trod enc Tryz.prog W 0 (fun _ => true) true 22 v d p) : ∃ l, EntsAt W v l := by
  obtain ⟨a0, len, cap, rfl⟩ := okWide_slice Tryz.underlying22 hv
  obtain ⟨fuel, hf⟩ := h
  obtain ⟨a, n, c, l, e, hM⟩ := entsCells hf
  simp [Value.cells] at e
  obtain ⟨rfl, rfl, rfl⟩ := e
  exact ⟨l, hM⟩
end Go.Proofs.Pw

namespace Go.Proofs.Pw
open Go.RowKit
theorem trodAll_below {H : Type} {enc : TypeId × Value → H} {P : Program} (hl : laidOutB P = true) {W W' : World} (hb : Below W.heap.size W W') :
    ∀ (ts : List TypeId) (vs : List Value) (ds : List (DataW H)) (ps : List MemPlace), (∀ t ∈ ts, P.readableRec t = true ∧ t < P.types.size) → (∀ x ∈ ps, x.block < W.heap.size) →
      DataW.TrodAll enc P W 0 (fun _ => true) true ts vs ds ps → DataW.TrodAll enc P W' 0 (fun b => decide (b < W.heap.size)) true ts vs ds ps
  | [], [], [], _, _, _, h => h
  | t :: ts, v :: vs, d :: ds, ps, hr, hlt, h => by
    obtain ⟨p, q, h1, h2, rfl⟩ := h
    exact ⟨p, q, Below.trod hl (hr t (by simp)).1 (hr t (by simp)).2 h1 hb (fun x hx => hlt x (by simp [hx])),
      trodAll_below hl hb ts vs ds q (fun u hu => hr u (by simp [hu])) (fun x hx => hlt x (by simp [hx])) h2, rfl⟩
  | [], _ :: _, _, _, _, _, h => h.elim
  | [], [], _ :: _, _, _, _, h => h.elim
  | _ :: _, [], _, _, _, _, h => h.elim
  | _ :: _, _ :: _, [], _, _, _, h => h.elim
theorem law_post {H : Type} {enc : TypeId × Value → H} {P : Program} {fn : Func} {s : ChangeSpec} {tb : TypeId} {W W' : World} {args : Array Value} {ds gs : List (DataW H)} {before : List MemPlace}
    (hl : laidOutB P = true) (hr : (fn.params.toList.all fun t => P.readableRec t && decide (t < P.types.size)) = true) (hres : fn.resultTypes = #[tb]) (htb : P.underlying tb = some .bool)
    (hvars : s.vars = []) (hspec : s.fn H (ds ++ gs) = { results := [.lit (.bool true)], args := ds })
    (hW : DataW.Whole enc P fn.params.toList s.vars false W args.toList ds gs before) (hb : Below W.heap.size W W') :
    s.post enc P fn false true false false W args (.bool true) W' := by
  have hW' := hW
  have hlt := hW.lt
  obtain ⟨p, q, hA, hV, rfl, hfz, _⟩ := hW
  have hlp : ∀ x ∈ p, x.block < W.heap.size := fun x hx => hlt x (by simp [hx])
  rw [List.all_eq_true] at hr
  refine ⟨ds, gs, _, [], p, [], hW', ?_, ?_, ?_, hb.frame _, fun h => by cases h⟩
  · rw [hspec, hres]
    exact ChangeShapes.trodAll_mk1 (shut_bool htb true)
  · rw [hspec]
    exact trodAll_below hl hb _ _ _ _ (fun t ht => by simpa using hr t ht) hlp hA
  · rw [hspec, hvars]
    rfl
theorem law_lifted {H : Type} {enc : TypeId × Value → H} {C : Checked} {os : Os} {f : FuncId} {fn : Func} {s : ChangeSpec} {tb : TypeId} {laid : List (String × DataW Unit)}
    (own : ownKnob C.prog.godebug = none) (started : os.Started) (noInit : C.prog.inits.idxOf? f = none) (hfn : C.prog.funcs[f]? = some fn)
    (hl : laidOutB C.prog = true) (hr : (fn.params.toList.all fun t => C.prog.readableRec t && decide (t < C.prog.types.size)) = true) (hres : fn.resultTypes = #[tb]) (htb : C.prog.underlying tb = some .bool)
    (hvars : s.vars = [])
    (witness : ∃ (w : World) (tape : Tape) (i : Input), w.os = os ∧ (w.forCall tape i).Shaped C.prog ∧ i.vars = [] ∧ Input.okWide C.prog (w.forCall tape i) .any w.heap.size f i ∧
      ((s.pre enc C.prog fn [] false (w.forCall tape i).memory i.args ∧ laidMetH C.prog laid (w.forCall tape i).memory) ∧ sizedMet enc C.prog fn (OpenSpec.ofChange s) false (w.forCall tape i).memory i.args) ∧ ({} : Assume).holds C.prog (lone (Frame.enter C.prog f i.args .normal) [] (w.forCall tape i)))
    (contract : ∀ (W : World) (base : Nat) (args : Array Value) (ds gs : List (DataW H)) (p q : List MemPlace),
      (∀ (j : Nat) t v, fn.params[j]? = some t → args[j]? = some v → Value.okWide C.prog W .any base t v) →
      DataW.TrodAll enc C.prog W 0 (fun _ => true) true fn.params.toList args.toList ds p → DataW.TrodVars enc C.prog W (fun _ => true) s.vars gs q →
      (∀ x ∈ p, x.block < W.heap.size) →
      (DataW.weightsEach C.prog (fn.params.toList ++ s.plain.varTypes C.prog) (ds ++ gs)).all (· ≤ reachBytes) = true → laidMetH C.prog laid W → W.ShapedOpen C.prog →
      s.fn H (ds ++ gs) = { results := [.lit (.bool true)], args := ds } ∧ Calls C.prog f args W fun e W' => e = .returned (.bool true) ∧ Below W.heap.size W W') :
    ReturnsInHanded {} C os f .any (fun w args => (s.pre enc C.prog fn [] false w args ∧ laidMetH C.prog laid w) ∧ sizedMet enc C.prog fn (OpenSpec.ofChange s) false w args) (s.post enc C.prog fn false true false false) := by
  refine returnsInHanded_of_calls own started noInit witness ?_
  intro w tape i _ hsh _ hok hpre _
  obtain ⟨_, _, _, fn', hfn', _, _, _, _, hval⟩ := hok
  obtain rfl : fn' = fn := Option.some.inj (hfn'.symm.trans hfn)
  obtain ⟨⟨⟨ds, gs, before, hw, _⟩, hx⟩, hz⟩ := hpre
  have hw' := DataW.Whole.of_heap (w' := w.forCall tape i) (by rfl) hw
  have hlt := hw'.lt
  obtain ⟨p, q, hA, hV, hpq, _, _⟩ := id hw'
  obtain ⟨hspec, hcall⟩ := contract (w.forCall tape i) w.heap.size i.args ds gs p q hval hA hV (fun x hx => hlt x (by rw [hpq]; simp [hx])) (hz.weights hw) (hx.of_heap (by rfl)) hsh
  refine hcall.mono fun e W' ⟨he, hb⟩ => ?_
  subst he
  exact ChangeSpec.post_blind (law_post hl hr hres htb hvars hspec hw' hb)
end Go.Proofs.Pw

namespace Go.Proofs.Pw
open Go.RowKit
theorem Tryz.factLaid : laidOutB Tryz.prog = true := by kernel_rfl
theorem Tryz.factMaps : mapsRowed Tryz.prog = true := by kernel_rfl
end Go.Proofs.Pw
