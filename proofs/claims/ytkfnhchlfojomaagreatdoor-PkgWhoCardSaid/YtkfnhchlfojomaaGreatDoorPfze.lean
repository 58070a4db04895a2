/- Pf: walks and plain laws, joined: ErrAs Code Coded Coded3 Faulted FileTellsMath ErrLe. Conditions: at each theorem. -/
import Derived.Test.YtkfnhchlfojomaaGreatDoorPfq
import Derived.WalkKit
import Derived.LaidEql
import Derived.Stop.Asserts
import Derived.RowKitTokens
import Derived.Lib.Hide
import Derived.Test.YtkfnhchlfojomaaGreatDoorPfb
import Derived.WalkLawsBesides
import Derived.WalkSpells
import Derived.Stop.IfaceNil
import Derived.Test.YtkfnhchlfojomaaGreatDoorPfk
import Derived.Test.YtkfnhchlfojomaaGreatDoorPfn

namespace Go.Proofs.Pw
open Go.RowKit Go.Extern.Stop Go.Stop Go.Extern
theorem Tryz.as_valueOf27 (t : Addr) (w : World) : (ReflectliteValue.unpack (.iface 176 (.pointer (some t)))).run Tryz.prog w
    = .ok (.agg #[.pointer (some ⟨19, 176, none⟩), .pointer (some ⟨w.heap.size, 0, none⟩), .int .u64 150]) (w.alloc (.cells #[.pointer (some t)] 176)) := by kernel_rfl
theorem Tryz.as_type27 (a : Addr) (w : World) : (ReflectliteValue.methodAny (ReflectliteValue.valueError "reflectlite.Value.Type" 0) (fun t _ _ _ => ReflectliteType.toType t) #[.agg #[.pointer (some ⟨19, 176, none⟩), .pointer (some a), .int .u64 150]]).run Tryz.prog w
    = .ok (.iface 252 (.agg #[.pointer (some ⟨19, 176, none⟩)])) w := by kernel_rfl
theorem Tryz.as_methodKind (h : Value) (w : World) : (Go.method 451 252 (.agg #[h]) "Kind").run Tryz.prog w = .ok (317, h) w := by kernel_rfl
theorem Tryz.as_kind27 (w : World) : ((ReflectliteType.abiMethod fun t => (fun a : Nat => Value.int IntKind.u8 (a : Int)) <$> Rtype.kind t) #[.pointer (some ⟨19, 176, none⟩)]).run Tryz.prog w = .ok (.int .u8 22) w := by kernel_rfl
theorem Tryz.as_kind25 (w : World) : ((ReflectliteType.abiMethod fun t => (fun a : Nat => Value.int IntKind.u8 (a : Int)) <$> Rtype.kind t) #[.pointer (some ⟨19, 105, none⟩)]).run Tryz.prog w = .ok (.int .u8 22) w := by kernel_rfl
theorem rlm (z : Sem Value) (f : TypeId → Addr → Nat → Nat → Sem Value) (v : Value) :
    ReflectliteValue.method z f #[v] = (do match ← ReflectliteValue.parts v with | none => z | some (t, a, fl) => f t a fl (fl % 32)) := rfl
theorem Tryz.as_parts27 (a : Addr) (w : World) : (ReflectliteValue.parts (.agg #[.pointer (some ⟨19, 176, none⟩), .pointer (some a), .int .u64 150])).run Tryz.prog w = .ok (some (176, a, 150)) w := by kernel_rfl
theorem Tryz.as_isNil27 (a p : Addr) (W : World) (ha : W.cell? a = some (.pointer (some p))) :
    (ReflectliteValue.method (ReflectliteValue.valueError "reflectlite.Value.IsNil" 0) ReflectliteValue.isNil #[.agg #[.pointer (some ⟨19, 176, none⟩), .pointer (some a), .int .u64 150]]).run Tryz.prog W = .ok (.bool false) W := by
  rw [rlm]
  simp only [Sem.run_bind, Tryz.as_parts27, Result.andThen]
  simp [ReflectliteValue.isNil, loadVar, isAgg, underlying, Tryz.underlying176, ha, Result.andThen]
theorem Tryz.as_methodElem (h : Value) (w : World) : (Go.method 451 252 (.agg #[h]) "Elem").run Tryz.prog w = .ok (329, .agg #[h]) w := by kernel_rfl
theorem Tryz.as_methodImplements (h : Value) (w : World) : (Go.method 451 252 (.agg #[h]) "Implements").run Tryz.prog w = .ok (330, .agg #[h]) w := by kernel_rfl
theorem Tryz.as_methodAssignableTo (h : Value) (w : World) : (Go.method 451 252 (.agg #[h]) "AssignableTo").run Tryz.prog w = .ok (327, .agg #[h]) w := by kernel_rfl
theorem Tryz.as_elem27 (w : World) : (ReflectliteType.method ReflectliteType.elem #[.agg #[.pointer (some ⟨19, 176, none⟩)]]).run Tryz.prog w = .ok (.iface 252 (.agg #[.pointer (some ⟨19, 105, none⟩)])) w := by kernel_rfl
theorem Tryz.as_implements25 (w : World) : (ReflectliteType.relation "Implements" ReflectliteType.implements_ #[.agg #[.pointer (some ⟨19, 105, none⟩)], .iface 252 (.agg #[.pointer (some ⟨19, 41, none⟩)])]).run Tryz.prog w = .ok (.bool true) w := by kernel_rfl
theorem Tryz.as_typeOf25 (v : Value) (w : World) : (ReflectliteType.typeOf #[.iface 105 v]).run Tryz.prog w = .ok (.iface 252 (.agg #[.pointer (some ⟨19, 105, none⟩)])) w := by kernel_rfl
theorem Tryz.as_assignable25 (w : World) : (ReflectliteType.relation "AssignableTo" ReflectliteType.assignableTo #[.agg #[.pointer (some ⟨19, 105, none⟩)], .iface 252 (.agg #[.pointer (some ⟨19, 105, none⟩)])]).run Tryz.prog w = .ok (.bool true) w := by kernel_rfl
theorem Tryz.as_valueOf25 (e : Addr) (w : World) : (ReflectliteValue.unpack (.iface 105 (.pointer (some e)))).run Tryz.prog w
    = .ok (.agg #[.pointer (some ⟨19, 105, none⟩), .pointer (some ⟨w.heap.size, 0, none⟩), .int .u64 150]) (w.alloc (.cells #[.pointer (some e)] 105)) := by kernel_rfl
theorem Tryz.as_elemOf27 (w : World) : (Rtype.elem? 176).run Tryz.prog w = .ok (some 105) w := by kernel_rfl
theorem Tryz.as_mk25 (p : Addr) (w : World) : (ReflectliteValue.mk 105 p ReflectliteValue.flagAddr).run Tryz.prog w = .ok (.agg #[.pointer (some ⟨19, 105, none⟩), .pointer (some p), .int .u64 406]) w := by kernel_rfl
theorem Tryz.as_elemV27 (a p : Addr) (W : World) (ha : W.cell? a = some (.pointer (some p))) :
    (ReflectliteValue.method (ReflectliteValue.valueError "reflectlite.Value.Elem" 0) ReflectliteValue.elem #[.agg #[.pointer (some ⟨19, 176, none⟩), .pointer (some a), .int .u64 150]]).run Tryz.prog W
      = .ok (.agg #[.pointer (some ⟨19, 105, none⟩), .pointer (some p), .int .u64 406]) W := by
  rw [rlm]
  simp only [Sem.run_bind, Tryz.as_parts27, Result.andThen]
  simp [ReflectliteValue.elem, loadVar, isAgg, underlying, Tryz.underlying176, ha, Result.andThen, Tryz.as_elemOf27, Tryz.as_mk25]
theorem rls (v x : Value) : ReflectliteValue.set #[v, x] = (do
    let (some (dst, a, fl), some (src, b, _)) := (← ReflectliteValue.parts v, ← ReflectliteValue.parts x)
      | unsupported (.noEntry "extern/(internal/reflectlite.Value).Set.zeroValue")
    if fl / ReflectliteValue.flagAddr % 2 == 0 then unsupported (.noEntry "extern/(internal/reflectlite.Value).Set.unaddressable")
    let val ← loadVar src b
    if ← Rtype.directlyAssignable dst src then storeVar dst a val
    else if ← Rtype.implements dst src then
      if (← Rtype.kind src) == 20 then
        match val with
        | .nilIface => unsupported (.noEntry "extern/reflectlite: a nil value of one interface type handed on as a value of another")
        | _ => storeVar dst a val
      else storeVar dst a (.iface src val)
    else panicString ("reflectlite.Set: value of type " ++ (← Rtype.spelt src) ++ " is not assignable to type " ++ (← Rtype.spelt dst))
    pure (.tuple #[])) := rfl
theorem Tryz.as_parts25a (a : Addr) (w : World) : (ReflectliteValue.parts (.agg #[.pointer (some ⟨19, 105, none⟩), .pointer (some a), .int .u64 406])).run Tryz.prog w = .ok (some (105, a, 406)) w := by kernel_rfl
theorem Tryz.as_parts25 (a : Addr) (w : World) : (ReflectliteValue.parts (.agg #[.pointer (some ⟨19, 105, none⟩), .pointer (some a), .int .u64 150])).run Tryz.prog w = .ok (some (105, a, 150)) w := by kernel_rfl
theorem Tryz.as_direct25 (w : World) : (Rtype.directlyAssignable 105 105).run Tryz.prog w = .ok true w := by kernel_rfl
theorem Tryz.as_set25 (ta b e : Addr) (old : Value) (W : World) (hb : W.cell? b = some (.pointer (some e))) (ht : W.cell? ta = some old) (hf : W.frozen? ta = false) :
    (ReflectliteValue.set #[.agg #[.pointer (some ⟨19, 105, none⟩), .pointer (some ta), .int .u64 406], .agg #[.pointer (some ⟨19, 105, none⟩), .pointer (some b), .int .u64 150]]).run Tryz.prog W
      = .ok (.tuple #[]) (W.setCell ta (.pointer (some e))) := by
  rw [rls]
  simp only [Sem.run_bind, Tryz.as_parts25a, Tryz.as_parts25, Result.andThen]
  simp [ReflectliteValue.flagAddr, loadVar, isAgg, underlying, Tryz.underlying105, hb, Result.andThen, Tryz.as_direct25, storeVar, Value.cells, storeCells, Addr.add]
  rw [run_store Tryz.prog W ta _ _ (by rfl)]
  simp [ht, hf]
set_option maxHeartbeats 4000000 in
theorem as_hit (e t : Addr) (old : Value) (w : World) (hg : w.cell? ⟨10, 0, none⟩ = some (.iface 252 (.agg #[.pointer (some ⟨19, 41, none⟩)]))) (ht0 : w.cell? t = some old) (hf0 : w.frozen? t = false) :
    Calls Tryz.prog 128 #[.iface 105 (.pointer (some e)), .iface 176 (.pointer (some t))] w fun ev w' => ev = .returned (.bool true) ∧ w' = ((((w.alloc (.cells #[.pointer (some t)] 176)).alloc (.cells #[.pointer (some ⟨19, 176, none⟩), .pointer (some ⟨w.heap.size, 0, none⟩), .int .u64 150] 210)).alloc (.cells #[.pointer (some ⟨19, 176, none⟩), .pointer (some ⟨w.heap.size, 0, none⟩), .int .u64 150] 210)).alloc (.cells #[.pointer (some e)] 105)).setCell t (.pointer (some e)) := by
  have h6 := @run_callFunc_extern Tryz.prog 179 _ (fun args => ReflectliteValue.unpack (args.getD 0 (.tuple #[]))) Tryz.func179 (by kernel_rfl) (by kernel_rfl) (by kernel_rfl) (by kernel_rfl)
  have h7 := @run_callFunc_extern Tryz.prog 180 _ (ReflectliteValue.methodAny (ReflectliteValue.valueError "reflectlite.Value.Type" 0) (fun t _ _ _ => ReflectliteType.toType t)) Tryz.func180 (by kernel_rfl) (by kernel_rfl) (by kernel_rfl) (by kernel_rfl)
  have h8 := @run_callFunc_extern Tryz.prog 181 _ (ReflectliteValue.method (ReflectliteValue.valueError "reflectlite.Value.IsNil" 0) ReflectliteValue.isNil) Tryz.func181 (by kernel_rfl) (by kernel_rfl) (by kernel_rfl) (by kernel_rfl)
  have h27 := @run_callFunc_extern Tryz.prog 317 _ (ReflectliteType.abiMethod fun t => do pure (.int .u8 (← Rtype.kind t))) Tryz.func317 (by kernel_rfl) (by kernel_rfl) (by kernel_rfl) (by kernel_rfl)
  have h37 := @run_callFunc_extern Tryz.prog 329 _ (ReflectliteType.method ReflectliteType.elem) Tryz.func329 (by kernel_rfl) (by kernel_rfl) (by kernel_rfl) (by kernel_rfl)
  have h38 := @run_callFunc_extern Tryz.prog 330 _ (ReflectliteType.relation "Implements" ReflectliteType.implements_) Tryz.func330 (by kernel_rfl) (by kernel_rfl) (by kernel_rfl) (by kernel_rfl)
  have h10 := @run_callFunc_extern Tryz.prog 183 _ ReflectliteType.typeOf Tryz.func183 (by kernel_rfl) (by kernel_rfl) (by kernel_rfl) (by kernel_rfl)
  have h35 := @run_callFunc_extern Tryz.prog 327 _ (ReflectliteType.relation "AssignableTo" ReflectliteType.assignableTo) Tryz.func327 (by kernel_rfl) (by kernel_rfl) (by kernel_rfl) (by kernel_rfl)
  have h11 := @run_callFunc_extern Tryz.prog 229 _ (ReflectliteValue.method (ReflectliteValue.valueError "reflectlite.Value.Elem" 0) ReflectliteValue.elem) Tryz.func229 (by kernel_rfl) (by kernel_rfl) (by kernel_rfl) (by kernel_rfl)
  have h12 := @run_callFunc_extern Tryz.prog 230 _ ReflectliteValue.set Tryz.func230 (by kernel_rfl) (by kernel_rfl) (by kernel_rfl) (by kernel_rfl)
  have tO := Tryz.as_typeOf25
  have mA := Tryz.as_methodAssignableTo
  have a25 := Tryz.as_assignable25
  have v25 := Tryz.as_valueOf25
  have f6 := Tryz.as_valueOf27
  have f7 := Tryz.as_type27
  have mK := Tryz.as_methodKind
  have mE := Tryz.as_methodElem
  have mI := Tryz.as_methodImplements
  have k27 := Tryz.as_kind27
  have k25 := Tryz.as_kind25
  have e27 := Tryz.as_elem27
  have i25 := Tryz.as_implements25
  have n8 := Tryz.as_isNil27 ⟨w.heap.size, 0, none⟩ t ((w.alloc (.cells #[.pointer (some t)] 176)).alloc (.cells #[.pointer (some ⟨19, 176, none⟩), .pointer (some ⟨w.heap.size, 0, none⟩), .int .u64 150] 210)) (by simp)
  have hlt : 10 < w.heap.size := World.block_lt_of_cell? w _ hg
  have hg2 : ((w.alloc (.cells #[.pointer (some t)] 176)).alloc (.cells #[.pointer (some ⟨19, 176, none⟩), .pointer (some ⟨w.heap.size, 0, none⟩), .int .u64 150] 210)).cell? ⟨10, 0, none⟩ = some (.iface 252 (.agg #[.pointer (some ⟨19, 41, none⟩)])) := by
    rw [World.cell?_alloc_lt _ _ ⟨10, 0, none⟩ (by simp; omega), World.cell?_alloc_lt _ _ ⟨10, 0, none⟩ hlt]; exact hg
  have htl : t.block < w.heap.size := by
    rcases Nat.lt_or_ge t.block w.heap.size with h | h
    · exact h
    · simp [World.cell?, Array.getElem?_eq_none h] at ht0
  have el := Tryz.as_elemV27 ⟨w.heap.size, 0, none⟩ t (((w.alloc (.cells #[.pointer (some t)] 176)).alloc (.cells #[.pointer (some ⟨19, 176, none⟩), .pointer (some ⟨w.heap.size, 0, none⟩), .int .u64 150] 210)).alloc (.cells #[.pointer (some ⟨19, 176, none⟩), .pointer (some ⟨w.heap.size, 0, none⟩), .int .u64 150] 210)) (by rw [World.cell?_alloc_lt _ _ ⟨w.heap.size, 0, none⟩ (by simp; omega)]; simp)
  have st := Tryz.as_set25 t ⟨w.heap.size + 1 + 1 + 1, 0, none⟩ e old ((((w.alloc (.cells #[.pointer (some t)] 176)).alloc (.cells #[.pointer (some ⟨19, 176, none⟩), .pointer (some ⟨w.heap.size, 0, none⟩), .int .u64 150] 210)).alloc (.cells #[.pointer (some ⟨19, 176, none⟩), .pointer (some ⟨w.heap.size, 0, none⟩), .int .u64 150] 210)).alloc (.cells #[.pointer (some e)] 105))
    (by rw [World.cell?_alloc_at _ _ _ _ (by simp)]; rfl)
    (by rw [World.cell?_alloc_lt _ _ t (by simp; omega), World.cell?_alloc_lt _ _ t (by simp; omega), World.cell?_alloc_lt _ _ t (by simp; omega), World.cell?_alloc_lt _ _ t htl]; exact ht0)
    (by rw [World.frozen?_alloc_old _ _ t (by simp; omega), World.frozen?_alloc_old _ _ t (by simp; omega), World.frozen?_alloc_old _ _ t (by simp; omega), World.frozen?_alloc_old _ _ t (Nat.ne_of_lt htl)]; exact hf0)
  go_enter Tryz.func128, Tryz.ntmps128
  go_wp2
  refine wp_loop_rounds 1 ?_
  rw [rounds_succ]
  go_wp2
  go_ret
  exact ⟨rfl, rfl⟩
theorem Tryz.as_assignableE (w : World) : (ReflectliteType.relation "AssignableTo" ReflectliteType.assignableTo #[.agg #[.pointer (some ⟨19, 314, none⟩)], .iface 252 (.agg #[.pointer (some ⟨19, 105, none⟩)])]).run Tryz.prog w = .ok (.bool false) w := by kernel_rfl
set_option maxHeartbeats 4000000 in
theorem as_miss (e t : Addr) (old : Value) (w : World) (hg : w.cell? ⟨10, 0, none⟩ = some (.iface 252 (.agg #[.pointer (some ⟨19, 41, none⟩)]))) (ht0 : w.cell? t = some old) (_hf0 : w.frozen? t = false) :
    Calls Tryz.prog 128 #[.iface 314 (.pointer (some e)), .iface 176 (.pointer (some t))] w fun ev w' => ev = .returned (.bool false) ∧ Below w.heap.size w w' := by
  have h6 := @run_callFunc_extern Tryz.prog 179 _ (fun args => ReflectliteValue.unpack (args.getD 0 (.tuple #[]))) Tryz.func179 (by kernel_rfl) (by kernel_rfl) (by kernel_rfl) (by kernel_rfl)
  have h7 := @run_callFunc_extern Tryz.prog 180 _ (ReflectliteValue.methodAny (ReflectliteValue.valueError "reflectlite.Value.Type" 0) (fun t _ _ _ => ReflectliteType.toType t)) Tryz.func180 (by kernel_rfl) (by kernel_rfl) (by kernel_rfl) (by kernel_rfl)
  have h8 := @run_callFunc_extern Tryz.prog 181 _ (ReflectliteValue.method (ReflectliteValue.valueError "reflectlite.Value.IsNil" 0) ReflectliteValue.isNil) Tryz.func181 (by kernel_rfl) (by kernel_rfl) (by kernel_rfl) (by kernel_rfl)
  have h27 := @run_callFunc_extern Tryz.prog 317 _ (ReflectliteType.abiMethod fun t => do pure (.int .u8 (← Rtype.kind t))) Tryz.func317 (by kernel_rfl) (by kernel_rfl) (by kernel_rfl) (by kernel_rfl)
  have h37 := @run_callFunc_extern Tryz.prog 329 _ (ReflectliteType.method ReflectliteType.elem) Tryz.func329 (by kernel_rfl) (by kernel_rfl) (by kernel_rfl) (by kernel_rfl)
  have h38 := @run_callFunc_extern Tryz.prog 330 _ (ReflectliteType.relation "Implements" ReflectliteType.implements_) Tryz.func330 (by kernel_rfl) (by kernel_rfl) (by kernel_rfl) (by kernel_rfl)
  have h10 := @run_callFunc_extern Tryz.prog 183 _ ReflectliteType.typeOf Tryz.func183 (by kernel_rfl) (by kernel_rfl) (by kernel_rfl) (by kernel_rfl)
  have h35 := @run_callFunc_extern Tryz.prog 327 _ (ReflectliteType.relation "AssignableTo" ReflectliteType.assignableTo) Tryz.func327 (by kernel_rfl) (by kernel_rfl) (by kernel_rfl) (by kernel_rfl)
  have tO := Tryz.is_typeOf
  have aE := Tryz.as_assignableE
  have nA := Tryz.no_asE
  have uE := Tryz.no_unwrapE
  have vE := Tryz.no_unwrapsE
  have mA := Tryz.as_methodAssignableTo
  have f6 := Tryz.as_valueOf27
  have f7 := Tryz.as_type27
  have mK := Tryz.as_methodKind
  have mE := Tryz.as_methodElem
  have mI := Tryz.as_methodImplements
  have k27 := Tryz.as_kind27
  have k25 := Tryz.as_kind25
  have e27 := Tryz.as_elem27
  have i25 := Tryz.as_implements25
  have n8 := Tryz.as_isNil27 ⟨w.heap.size, 0, none⟩ t ((w.alloc (.cells #[.pointer (some t)] 176)).alloc (.cells #[.pointer (some ⟨19, 176, none⟩), .pointer (some ⟨w.heap.size, 0, none⟩), .int .u64 150] 210)) (by simp)
  have hlt : 10 < w.heap.size := World.block_lt_of_cell? w _ hg
  have hg2 : ((w.alloc (.cells #[.pointer (some t)] 176)).alloc (.cells #[.pointer (some ⟨19, 176, none⟩), .pointer (some ⟨w.heap.size, 0, none⟩), .int .u64 150] 210)).cell? ⟨10, 0, none⟩ = some (.iface 252 (.agg #[.pointer (some ⟨19, 41, none⟩)])) := by
    rw [World.cell?_alloc_lt _ _ ⟨10, 0, none⟩ (by simp; omega), World.cell?_alloc_lt _ _ ⟨10, 0, none⟩ hlt]; exact hg
  have htl : t.block < w.heap.size := by
    rcases Nat.lt_or_ge t.block w.heap.size with h | h
    · exact h
    · simp [World.cell?, Array.getElem?_eq_none h] at ht0
  go_enter Tryz.func128, Tryz.ntmps128
  go_wp2
  refine wp_loop_rounds 1 ?_
  rw [rounds_succ]
  go_wp2
  go_ret
  exact ⟨rfl, (((Below.refl _ _).alloc (Nat.le_refl _) _).alloc (by simp) _).alloc (by simp; omega) _⟩
end Go.Proofs.Pw

namespace Go.Proofs.Pw
open Go.RowKit
structure EnvC (A : Nat → Addr) (w : World) : Prop where
  errs : EnvE allErrs A w
  handle : w.cell? ⟨10, 0, none⟩ = some (.iface 252 (.agg #[.pointer (some ⟨19, 41, none⟩)]))
theorem EnvC.below {A : Nat → Addr} {w w' : World} (h : EnvC A w) (hb : Below w.heap.size w w') : EnvC A w' := ⟨h.errs.below hb, Below.cell_same hb h.handle⟩
theorem Tryz.isIface_error : Tryz.prog.isIface 41 = true := by kernel_rfl
theorem code_nil (w : World) : Calls Tryz.prog 64 #[.nilIface] w fun e w' => e = .returned (.tuple #[.int .i64 0, .int .i64 (-1)]) ∧ w = w' := by
  go_enter Tryz.func64, Tryz.ntmps64
  go_wp2_with fail
  go_ret2
  exact ⟨rfl, rfl⟩
def ten (A : Nat → Addr) : Array Value := #[errP (A 1), errP (A 2), errP (A 3), errP (A 4), errP (A 5), errP (A 6), errP (A 7), errP (A 8), errP (A 9), errP (A 10)]
where errP (a : Addr) : Value := .iface 314 (.pointer (some a))
theorem ten_get (A : Nat → Addr) : ∀ i, i < 10 → (ten A)[i]? = some (.iface 314 (.pointer (some (A (i + 1)))))
  | 0, _ | 1, _ | 2, _ | 3, _ | 4, _ | 5, _ | 6, _ | 7, _ | 8, _ | 9, _ => rfl
  | _ + 10, h => absurd h (by omega)
def CodeIs (A : Nat → Addr) (a : Addr) (n : Int) : Prop := (∃ k : Nat, 1 ≤ k ∧ k ≤ 10 ∧ a = A k ∧ n = k) ∨ ((∀ k : Nat, 1 ≤ k → k ≤ 10 → a ≠ A k) ∧ n = -1)
set_option maxHeartbeats 1000000 in
set_option maxRecDepth 100000 in
theorem code_any (a : Addr) (c : Array Value) (ta : TypeId) (A : Nat → Addr) (w : World) (hE : EnvC A w) (ha : w.heap[a.block]? = some (.cells c ta (0, 0))) :
    Calls Tryz.prog 64 #[.iface 314 (.pointer (some a))] w fun e w' =>
      (∃ n : Int, e = .returned (.tuple #[.int .i64 n, .int .i64 (-1)]) ∧ CodeIs A a n) ∧ Below w.heap.size w w' := by
  have hT := Tryz.isIface_error
  have hb0 : Below w.heap.size w (w.alloc (.cells #[.pointer none] 105)) := (Below.refl _ _).alloc (Nat.le_refl _) _
  have hE0 := hE.below hb0
  have ha0 := Below.row_same hb0 ha
  have ht0 : (w.alloc (.cells #[.pointer none] 105)).cell? ⟨w.heap.size, 0, none⟩ = some (.pointer none) := by simp
  have hf0 : (w.alloc (.cells #[.pointer none] 105)).frozen? ⟨w.heap.size, 0, none⟩ = false := by simp
  have hz0 : w.heap.size ≤ (w.alloc (.cells #[.pointer none] 105)).heap.size := hb0.size
  go_enter Tryz.func64, Tryz.ntmps64
  go_wp2_with fail
  refine (as_miss a ⟨w.heap.size, 0, none⟩ (.pointer none) _ hE0.handle ht0 hf0).mono ?_
  rintro e w1 ⟨rfl, hb1⟩
  have hb01 := hb0.trans (hb1.mono hz0)
  have hE1 := hE0.below hb1
  have ha1 := Below.row_same hb1 ha0
  have g1 := hE1.errs.var 1 (mem_allErrs (by decide) (by decide))
  have g2 := hE1.errs.var 2 (mem_allErrs (by decide) (by decide))
  have g3 := hE1.errs.var 3 (mem_allErrs (by decide) (by decide))
  have g4 := hE1.errs.var 4 (mem_allErrs (by decide) (by decide))
  have g5 := hE1.errs.var 5 (mem_allErrs (by decide) (by decide))
  have g6 := hE1.errs.var 6 (mem_allErrs (by decide) (by decide))
  have g7 := hE1.errs.var 7 (mem_allErrs (by decide) (by decide))
  have g8 := hE1.errs.var 8 (mem_allErrs (by decide) (by decide))
  have g9 := hE1.errs.var 9 (mem_allErrs (by decide) (by decide))
  have g10 := hE1.errs.var 10 (mem_allErrs (by decide) (by decide))
  simp only [errG] at g1 g2 g3 g4 g5 g6 g7 g8 g9 g10
  clear ht0 hf0 hE0 hb0 ha0 hb1
  go_wp2_with fail
  have hbt : Below w.heap.size w (w1.alloc (.cells (ten A) 41)) := hb01.alloc hb01.size _
  have hbu : Below w1.heap.size w1 (w1.alloc (.cells (ten A) 41)) := (Below.refl _ _).alloc (Nat.le_refl _) _
  have hE2 := hE1.below hbu
  have ha2 := Below.row_same hbu ha1
  have hcells : ∀ i, i < 10 → (w1.alloc (.cells (ten A) 41)).cell? ⟨w1.heap.size, i, none⟩ = some (.iface 314 (.pointer (some (A (i + 1))))) := fun i hi => by
    rw [World.cell?_alloc_at _ _ _ _ rfl]; exact ten_get A i hi
  obtain ⟨W, hW⟩ : ∃ W, W = w1.alloc (.cells (ten A) 41) := ⟨_, rfl⟩
  have hgoal : w1.alloc (.cells #[.iface 314 (.pointer (some (A 1))), .iface 314 (.pointer (some (A 2))), .iface 314 (.pointer (some (A 3))), .iface 314 (.pointer (some (A 4))), .iface 314 (.pointer (some (A 5))), .iface 314 (.pointer (some (A 6))), .iface 314 (.pointer (some (A 7))), .iface 314 (.pointer (some (A 8))), .iface 314 (.pointer (some (A 9))), .iface 314 (.pointer (some (A 10)))] 41) = W := by rw [hW]; rfl
  rw [hgoal]
  rw [← hW] at hbt hE2 ha2 hcells
  clear hgoal hW hbu hE1 ha1 g1 g2 g3 g4 g5 g6 g7 g8 g9 g10 hE ha
  go_loop [3, 28] (fun t i => ∃ k : Nat, k ≤ 10 ∧ t = .int .i64 (-1) ∧ i = .int .i64 k ∧ Hid (∀ j, j < k → a ≠ A (j + 1))) (fun _ i => 10 - (intOf i).toNat)
  case atStart => exact ⟨0, by omega, rfl, rfl, fun _ h => absurd h (Nat.not_lt_zero _)⟩
  case round =>
    obtain ⟨k, hk, rfl, rfl, HA⟩ := hrel
    by_cases hlt : k < 10
    · have hck := hcells k hlt
      obtain ⟨cb, tb, hcb⟩ := hE2.errs.row (k + 1) (mem_allErrs (by omega) (by omega))
      by_cases hsame : a = A (k + 1)
      · subst hsame
        go_wp2_with (go_at_call 129; refine (is_same _ _).mono ?_; rintro e w2 ⟨rfl, rfl⟩)
        go_ret2
        exact ⟨⟨(k : Int) + 1, rfl, .inl ⟨k + 1, by omega, by omega, rfl, by omega⟩⟩, hbt⟩
      · go_wp2_with (go_at_call 129; refine (is_other _ _ _ _ _ _ _ hsame ha2 hcb).mono ?_; rintro e w2 ⟨rfl, rfl⟩)
        go_round
        case rel =>
          refine ⟨k + 1, by omega, rfl, by go_num, ?_⟩
          intro j hj
          rcases Nat.lt_or_ge j k with h | h
          · exact HA.out j h
          · obtain rfl : j = k := by omega
            exact hsame
        case measure => simp [intOf]; omega
    · obtain rfl : k = 10 := by omega
      go_wp2_with fail
      go_ret2
      refine ⟨⟨-1, rfl, .inr ⟨fun k h1 h2 => ?_, rfl⟩⟩, hbt⟩
      have := HA.out (k - 1) (by omega)
      rwa [Nat.sub_add_cancel h1] at this
theorem as_hit2 (e t : Addr) (old : Value) (w : World) (hg : w.cell? ⟨10, 0, none⟩ = some (.iface 252 (.agg #[.pointer (some ⟨19, 41, none⟩)]))) (ht0 : w.cell? t = some old) (hf0 : w.frozen? t = false) :
    Calls Tryz.prog 128 #[.iface 105 (.pointer (some e)), .iface 176 (.pointer (some t))] w fun ev w' => ev = .returned (.bool true) ∧ w'.cell? t = some (.pointer (some e)) ∧ Below t.block w w' := by
  have hlt : t.block < w.heap.size := World.block_lt_of_cell? w _ ht0
  refine (as_hit e t old w hg ht0 hf0).mono fun ev w' ⟨h1, h2⟩ => ⟨h1, ?_, ?_⟩
  · rw [h2]
    exact World.cell?_setCell_same _ _ _ (u := old) (by rw [World.cell?_alloc_lt _ _ t (by simp; omega), World.cell?_alloc_lt _ _ t (by simp; omega), World.cell?_alloc_lt _ _ t (by simp; omega), World.cell?_alloc_lt _ _ t hlt]; exact ht0)
  · rw [h2]
    exact ((((((Below.refl _ _).alloc (by omega) _).alloc (by simp; omega) _).alloc (by simp; omega) _).alloc (by simp; omega) _)).setCell (Nat.le_refl _) _
set_option maxHeartbeats 1000000 in
set_option maxRecDepth 100000 in
theorem code_fault (pb : Nat) (at_ : Int) (n : Nat) (A : Nat → Addr) (w : World) (hE : EnvC A w) (h1 : 1 ≤ n) (h2 : n ≤ 10) (hp0 : w.cell? ⟨pb, 0, none⟩ = some (.int .i64 at_)) (hp1 : w.cell? ⟨pb, 1, none⟩ = some (errV A n)) :
    Calls Tryz.prog 64 #[.iface 105 (.pointer (some ⟨pb, 0, none⟩))] w fun e w' => e = .returned (.tuple #[.int .i64 n, .int .i64 at_]) ∧ Below w.heap.size w w' := by
  have hT := Tryz.isIface_error
  have hb0 : Below w.heap.size w (w.alloc (.cells #[.pointer none] 105)) := (Below.refl _ _).alloc (Nat.le_refl _) _
  have hE0 := hE.below hb0
  rw [errV_pos A (by omega)] at hp1
  have hq0 := Below.cell_same hb0 hp0
  have hq1 := Below.cell_same hb0 hp1
  have hpl : pb < w.heap.size := World.block_lt_of_cell? w _ hp0
  have ht0 : (w.alloc (.cells #[.pointer none] 105)).cell? ⟨w.heap.size, 0, none⟩ = some (.pointer none) := by simp
  have hf0 : (w.alloc (.cells #[.pointer none] 105)).frozen? ⟨w.heap.size, 0, none⟩ = false := by simp
  have hz0 : w.heap.size ≤ (w.alloc (.cells #[.pointer none] 105)).heap.size := hb0.size
  go_enter Tryz.func64, Tryz.ntmps64
  go_wp2_with fail
  refine (as_hit2 ⟨pb, 0, none⟩ ⟨w.heap.size, 0, none⟩ (.pointer none) _ hE0.handle ht0 hf0).mono ?_
  rintro e w1 ⟨rfl, hc1, hb1⟩
  have hb01 : Below w.heap.size w w1 := hb0.trans hb1
  have hE1 := hE.below hb01
  have hr0 := Below.cell_same hb01 hp0
  have hr1 := Below.cell_same hb01 hp1
  have g1 := hE1.errs.var 1 (mem_allErrs (by decide) (by decide))
  have g2 := hE1.errs.var 2 (mem_allErrs (by decide) (by decide))
  have g3 := hE1.errs.var 3 (mem_allErrs (by decide) (by decide))
  have g4 := hE1.errs.var 4 (mem_allErrs (by decide) (by decide))
  have g5 := hE1.errs.var 5 (mem_allErrs (by decide) (by decide))
  have g6 := hE1.errs.var 6 (mem_allErrs (by decide) (by decide))
  have g7 := hE1.errs.var 7 (mem_allErrs (by decide) (by decide))
  have g8 := hE1.errs.var 8 (mem_allErrs (by decide) (by decide))
  have g9 := hE1.errs.var 9 (mem_allErrs (by decide) (by decide))
  have g10 := hE1.errs.var 10 (mem_allErrs (by decide) (by decide))
  simp only [errG] at g1 g2 g3 g4 g5 g6 g7 g8 g9 g10
  clear ht0 hf0 hE0 hb0 hq0 hq1 hb1 hp0 hp1
  go_wp2_with fail
  have hbt : Below w.heap.size w (w1.alloc (.cells (ten A) 41)) := hb01.alloc hb01.size _
  have hbu : Below w1.heap.size w1 (w1.alloc (.cells (ten A) 41)) := (Below.refl _ _).alloc (Nat.le_refl _) _
  have hE2 := hE1.below hbu
  have hs1 := Below.cell_same hbu hr1
  have hcells : ∀ i, i < 10 → (w1.alloc (.cells (ten A) 41)).cell? ⟨w1.heap.size, i, none⟩ = some (.iface 314 (.pointer (some (A (i + 1))))) := fun i hi => by
    rw [World.cell?_alloc_at _ _ _ _ rfl]; exact ten_get A i hi
  obtain ⟨W, hW⟩ : ∃ W, W = w1.alloc (.cells (ten A) 41) := ⟨_, rfl⟩
  have hgoal : w1.alloc (.cells #[.iface 314 (.pointer (some (A 1))), .iface 314 (.pointer (some (A 2))), .iface 314 (.pointer (some (A 3))), .iface 314 (.pointer (some (A 4))), .iface 314 (.pointer (some (A 5))), .iface 314 (.pointer (some (A 6))), .iface 314 (.pointer (some (A 7))), .iface 314 (.pointer (some (A 8))), .iface 314 (.pointer (some (A 9))), .iface 314 (.pointer (some (A 10)))] 41) = W := by rw [hW]; rfl
  rw [hgoal]
  rw [← hW] at hbt hE2 hs1 hcells
  clear hgoal hW hbu hE1 g1 g2 g3 g4 g5 g6 g7 g8 g9 g10 hE hr0 hr1 hc1
  go_loop [3, 28] (fun t i => ∃ k : Nat, t = .int .i64 at_ ∧ i = .int .i64 k ∧ k < n) (fun _ i => 10 - (intOf i).toNat)
  case atStart => exact ⟨0, rfl, rfl, by omega⟩
  case round =>
    obtain ⟨k, rfl, rfl, hk⟩ := hrel
    have hlt : k < 10 := by omega
    have hck := hcells k hlt
    obtain ⟨cb, tb, hcb⟩ := hE2.errs.row (k + 1) (mem_allErrs (by omega) (by omega))
    obtain ⟨ca, ta, hca⟩ := hE2.errs.row n (mem_allErrs (by omega) (by omega))
    by_cases hsame : n = k + 1
    · subst hsame
      go_wp2_with (go_at_call 129; refine (is_fault_same _ _ _ hs1).mono ?_; rintro e w2 ⟨rfl, rfl⟩)
      go_ret2
      exact ⟨rfl, hbt⟩
    · have hne : A n ≠ A (k + 1) := fun e => hsame (hE2.errs.inj _ (mem_allErrs (by omega) (by omega)) _ (mem_allErrs (by omega) (by omega)) e)
      go_wp2_with (go_at_call 129; refine (is_fault_other _ _ _ _ _ _ _ _ hs1 hne hca hcb).mono ?_; rintro e w2 ⟨rfl, rfl⟩)
      go_round
      case rel => exact ⟨k + 1, rfl, by go_num, by omega⟩
      case measure => simp [intOf]; omega
end Go.Proofs.Pw

namespace Go.Proofs.Pw
open Go.RowKit
theorem code_calls (i : Nat) (A : Nat → Addr) (w : World) (hE : EnvC A w) (hi : i ≤ 10) :
    Calls Tryz.prog 64 #[errV A i] w fun e w' => e = .returned (.tuple #[.int .i64 (i : Nat), .int .i64 (-1)]) ∧ Below w.heap.size w w' := by
  rcases Nat.eq_zero_or_pos i with rfl | h1
  · refine (code_nil w).mono ?_
    rintro e w' ⟨rfl, rfl⟩
    exact ⟨rfl, Below.refl _ _⟩
  · rw [errV_pos A (by omega)]
    obtain ⟨c, tc, hc⟩ := hE.errs.row i (mem_allErrs h1 hi)
    refine (code_any _ _ _ _ _ hE hc).mono ?_
    rintro e w1 ⟨⟨m, rfl, hm⟩, hb1⟩
    obtain rfl : m = i := by
      rcases hm with ⟨j, hj1, hj2, ha, rfl⟩ | ⟨h, _⟩
      · have := hE.errs.inj _ (mem_allErrs h1 hi) _ (mem_allErrs hj1 hj2) ha
        rw [this]
      · exact absurd rfl (h i h1 hi)
    exact ⟨rfl, hb1⟩
end Go.Proofs.Pw

namespace Go.Proofs.Pw
open Go.RowKit
theorem codedL3_calls (i : Nat) (A : Nat → Addr) (w : World) (hE : EnvC A w) (hi : i ≤ 10) :
    Calls Tryz.prog 36 #[errV A i, .int .i64 (i : Nat)] w fun e w' => e = .returned (.bool true) ∧ Below w.heap.size w w' := by
  have hc := code_calls i A w hE hi
  generalize errV A i = v at hc ⊢
  replace hc := Lib.hid hc
  go_enter Tryz.func36, Tryz.ntmps36
  go_wp2_with fail
  refine hc.out.mono ?_
  rintro e w1 ⟨rfl, hb1⟩
  go_wp2_with fail
  go_ret
  exact ⟨by simp, hb1⟩
end Go.Proofs.Pw

namespace Go.Proofs.Pw
open Go.RowKit
open Go.Lib hiding intOf
theorem codeF_calls (A : Nat → Addr) (v : Value) (r : Nat × Int) (w : World) (hE : EnvC A w) (h : FaultAt A w v r) (hr : r.1 ≤ 10) :
    Calls Tryz.prog 64 #[v] w fun e w' => e = .returned (.tuple #[.int .i64 (r.1 : Nat), .int .i64 r.2]) ∧ Below w.heap.size w w' := by
  rcases h with ⟨h1, h2, rfl⟩ | ⟨h1, h2, rfl⟩ | ⟨h1, b, rfl, c3, c4⟩
  · rw [h1, h2]
    refine (code_nil w).mono ?_
    rintro e w' ⟨rfl, rfl⟩
    exact ⟨rfl, Below.refl _ _⟩
  · rw [h2]
    exact code_calls r.1 A w hE hr
  · exact code_fault b r.2 r.1 A w hE (by omega) hr c3 c4
theorem faulted3_calls (A : Nat → Addr) (v : Value) (r : Nat × Int) (w : World) (hE : EnvC A w) (h : FaultAt A w v r) (hr : r.1 ≤ 10) :
    Calls Tryz.prog 19 #[v, .agg #[.int .i64 (r.1 : Nat), .int .i64 r.2]] w fun e w' => e = .returned (.bool true) ∧ Below w.heap.size w w' := by
  have hB7 := below_alloc w (.cells #[.int .i64 (r.1 : Nat), .int .i64 r.2] 46)
  have hz := box2_alloc w (.int .i64 (r.1 : Nat)) (.int .i64 r.2) 46
  have hc := codeF_calls A v r _ (hE.below hB7) (h.below hB7) hr
  by_cases h0 : r.1 = 0
  · have h2 : r.2 = -1 := by
      rcases h with h | h | h
      · exact h.2.1
      · exact absurd h0 h.1
      · exact absurd h0 h.1
    rw [h0, h2] at hc hB7 hz ⊢
    clear h0 h2 h
    replace hc := Lib.hid hc
    go_enter Tryz.func19, Tryz.ntmps19
    obtain ⟨z0, z1, z2⟩ := id hz
    go_wp2_with fail
    refine (hc.out).mono ?_
    rintro e w1 ⟨rfl, hb⟩
    replace hB7 := below_step hB7 hb
    replace hz := hz.below hb
    clear hb
    obtain ⟨z0, z1, z2⟩ := id hz
    go_wp2_with fail
    go_ret
    exact ⟨rfl, hB7⟩
  · have hq : ((r.1 : Int) == 0) = false := beq_eq_false_iff_ne.2 (by omega)
    generalize r.2 = x at hc hz hB7 ⊢
    generalize r.1 = n at *
    clear h0 h
    replace hc := Lib.hid hc
    go_enter Tryz.func19, Tryz.ntmps19
    obtain ⟨z0, z1, z2⟩ := id hz
    go_wp2_with fail
    refine (hc.out).mono ?_
    rintro e w1 ⟨rfl, hb⟩
    replace hB7 := below_step hB7 hb
    replace hz := hz.below hb
    clear hb
    obtain ⟨z0, z1, z2⟩ := id hz
    go_wp2_with fail
    go_ret
    exact ⟨rfl, hB7⟩
end Go.Proofs.Pw

namespace Go.Proofs.Pw
open Go.RowKit
open Go.Lib hiding intOf
theorem firstE_le {g : Nat → Nat} (h : ∀ j, g j ≤ 10) : ∀ n, (firstE g n).1 ≤ 10
  | 0 => Nat.zero_le _
  | n + 1 => by
    rw [firstE]
    split
    · exact firstE_le h n
    · split
      · exact h n
      · exact Nat.zero_le _
theorem orE_le {a b : Nat × Int} (ha : a.1 ≤ 10) (hb : b.1 ≤ 10) : (orE a b).1 ≤ 10 := by
  unfold orE
  split
  · exact ha
  · exact hb
theorem mdErr_le (m : Md) : mdErr m ≤ 4 := modErr_le _ _
end Go.Proofs.Pw

namespace Go.Proofs.Pw
open Go.Lib hiding intOf
theorem reqE_le (p : Str) (l : List Md) (j : Nat) : reqE p l j ≤ 10 := by
  unfold reqE
  split
  · exact Nat.le_trans (mdErr_le _) (by decide)
  · split
    · decide
    · split <;> decide
theorem entErr_le (l : List En) (i : Nat) : entErr l i ≤ 10 := by
  unfold entErr
  split
  · exact Nat.le_trans (mdErr_le _) (by decide)
  · split
    · decide
    · split
      · unfold reqsErr
        split
        · decide
        · exact firstE_le (fun j => reqE_le _ _ j) _
      · unfold packsErr
        split
        · decide
        · split
          · refine firstE_le (fun j => ?_) _
            unfold packE
            split <;> decide
          · decide
theorem idxErr_le (l : List En) : (idxErr l).1 ≤ 10 := by
  unfold idxErr
  split
  · exact (by decide : 7 ≤ 10)
  · refine orE_le (firstE_le (fun j => entErr_le l j) _) (firstE_le (fun j => ?_) _)
    unfold lostE
    split <;> decide
end Go.Proofs.Pw
