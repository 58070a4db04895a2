/- Ge: walks and plain laws, joined: GetPin PatAny ErrAs Code Coded PatTells GetPaths. Conditions: at each theorem. -/
import Derived.Test.YtmnojbbcaboagaaGreatDoorGeze
import Derived.Test.YtmnojbbcaboagaaGreatDoorGezg
import Derived.Test.YtmnojbbcaboagaaGreatDoorGed
import Derived.Test.YtmnojbbcaboagaaGreatDoorGes
import Derived.WalkKit
import Derived.LaidEql
import Derived.Stop.Asserts
import Derived.RowKitTokens
import Derived.Lib.Hide
import Derived.Test.YtmnojbbcaboagaaGreatDoorGeb
import Derived.WalkLawsBesides
import Derived.WalkSpells
import Derived.Stop.IfaceNil
import Derived.Test.YtmnojbbcaboagaaGreatDoorGem
import Derived.Test.YtmnojbbcaboagaaGreatDoorGel
import Derived.Deep.AppendLies

namespace Go.Proofs.Pw
open Go.RowKit
open Go.Lib hiding intOf
structure GetW (ks : List Nat) (A : Nat → Addr) (a : Option Addr) (n cap : Nat) (P V : Nat → ByteArray) (R : Nat → List Md) (K : Nat → List Str) (Bk : Nat → Bool) (Rv Kv : Nat → Value) (bv : Value) (bl : List Md) (bg b : Nat) (W : World) : Prop where
  env : EnvP ks A W
  ents : EntsIn W a n cap P V R K Bk Rv Kv
  build : ModsAt W bv bl
  g0 : W.cell? ⟨bg, 0, none⟩ = some (.slice a n cap)
  g1 : W.cell? ⟨bg, 1, none⟩ = some bv
  g2 : W.cell? ⟨bg, 2, none⟩ = some (.map (some b))
theorem GetW.below {ks : List Nat} {A : Nat → Addr} {a : Option Addr} {n cap : Nat} {P V : Nat → ByteArray} {R : Nat → List Md} {K : Nat → List Str} {Bk : Nat → Bool} {Rv Kv : Nat → Value} {bv : Value} {bl : List Md} {bg b : Nat} {w W : World} (h : GetW ks A a n cap P V R K Bk Rv Kv bv bl bg b w) (hb : Below w.heap.size w W) : GetW ks A a n cap P V R K Bk Rv Kv bv bl bg b W :=
  ⟨h.env.below hb, h.ents.below hb, h.build.below hb, Below.cell_some hb h.g0, Below.cell_some hb h.g1, Below.cell_some hb h.g2⟩
theorem kept_below {blk : Nat} {w w1 w2 : World} (h : Below w.heap.size w w1) (g : Kept blk w1 w2) : Kept blk w w2 := (Kept.of blk h).trans g
theorem bytes_beq_ne {a b : ByteArray} (h : ¬ a = b) : (a.toList == b.toList) = false := by
  rw [beq_eq_false_iff_ne]
  intro e
  exact h (bytes_eq.1 (by rw [toList_data, toList_data] at e; exact e))
def PinOut (A : Nat → Addr) (b : Nat) (S : List PinB) (p : PinB) (w : World) (e : Ending) (w' : World) : Prop :=
  Kept b w w' ∧ ((pinAdd (S.map pinT) (pinT p) = none ∧ e = .returned (errV A 9) ∧ PinTab w' b S) ∨ ∃ S', pinAdd (S.map pinT) (pinT p) = some (S'.map pinT) ∧ e = .returned (errV A 0) ∧ PinTab w' b S')
set_option maxHeartbeats 4000000 in
set_option maxRecDepth 100000 in
theorem getPin_new (A : Nat → Addr) (bg b : Nat) (S : List PinB) (path v : ByteArray) (wl : Bool) (w : World) (g2 : w.cell? ⟨bg, 2, none⟩ = some (.map (some b))) (hP : PinTab w b S) (hf : ∀ x, pinFind S path = some x → x.2.2 = true ∧ wl = false) :
    Calls Tryz.prog 74 #[.pointer (some ⟨bg, 0, none⟩), .string path, .agg #[.string v, .bool wl]] w fun e w' => PinOut A b S (path, v, wl) w e w' := by
  have HADD := Lib.hid (pinAdd_put (S := S) (p := (path, v, wl)) hf)
  have hb0 := below_alloc w (.cells #[.string v, .bool wl] 123)
  obtain ⟨y0, y1, _⟩ := box2_alloc w (.string v) (.bool wl) 123
  have hlk := pin_lookup (hP.below hb0) path true
  have z2 := Below.cell_some hb0 g2
  cases hx : pinFind S path with
  | none =>
    rw [hx] at hlk
    simp only [Option.map_none, Option.getD_none, Option.isSome_none, if_true, pinV, noPin] at hlk
    have hb1 := below_alloc (w.alloc (.cells #[.string v, .bool wl] 123)) (.cells #[.string ⟨#[]⟩, .bool false] 123)
    have hB := below_step hb0 hb1
    have zD := Below.cell_some hB.drew g2
    obtain ⟨wD, hup, hMD, hgD⟩ := pin_store (hP.below hB.drew) path (v, wl)
    simp only [pinV] at hup
    have HK := Lib.hid (kept_below hB.drew hgD)
    have HT := Lib.hid hMD
    clear hP hf hx hb0 hb1 hB hgD hMD
    go_enter Tryz.func74, Tryz.ntmps74
    go_wp2_with fail
    go_region
    all_goals
      go_wp2_with fail
      refine bodyPost_ret (v := .nilIface) (by simp [results, Tryz.results74, go_sem, *]) rfl ?_
      exact ⟨HK.out, .inr ⟨_, HADD.out, rfl, HT.out⟩⟩
  | some x =>
    obtain ⟨h1, rfl⟩ := hf x hx
    obtain ⟨xk, xv, xw⟩ := x
    simp only at h1
    subst h1
    rw [hx] at hlk
    simp only [Option.map_some, Option.getD_some, Option.isSome_some, if_true, pinV] at hlk
    have hb1 := below_alloc (w.alloc (.cells #[.string v, .bool false] 123)) (.cells #[.string xv, .bool true] 123)
    have hB := below_step hb0 hb1
    have zD := Below.cell_some hB.drew g2
    obtain ⟨wD, hup, hMD, hgD⟩ := pin_store (hP.below hB.drew) path (v, false)
    simp only [pinV] at hup
    have HK := Lib.hid (kept_below hB.drew hgD)
    have HT := Lib.hid hMD
    clear hP hf hx hb0 hb1 hB hgD hMD
    go_enter Tryz.func74, Tryz.ntmps74
    go_wp2_with fail
    go_region
    all_goals
      go_wp2_with fail
      refine bodyPost_ret (v := .nilIface) (by simp [results, Tryz.results74, go_sem, *]) rfl ?_
      exact ⟨HK.out, .inr ⟨_, HADD.out, rfl, HT.out⟩⟩
set_option maxHeartbeats 4000000 in
set_option maxRecDepth 100000 in
theorem getPin_old (ks : List Nat) (A : Nat → Addr) (h9 : 9 ∈ ks) (bg b : Nat) (S : List PinB) (path v xk xv : ByteArray) (wl xw : Bool) (w : World) (hE : EnvP ks A w) (g2 : w.cell? ⟨bg, 2, none⟩ = some (.map (some b))) (hP : PinTab w b S) (hx : pinFind S path = some (xk, xv, xw)) (hn : ¬ (xw = true ∧ wl = false)) :
    Calls Tryz.prog 74 #[.pointer (some ⟨bg, 0, none⟩), .string path, .agg #[.string v, .bool wl]] w fun e w' => PinOut A b S (path, v, wl) w e w' := by
  have hADD := pinAdd_was (S := S) (p := (path, v, wl)) hx hn
  simp only at hADD
  have hb0 := below_alloc w (.cells #[.string v, .bool wl] 123)
  obtain ⟨y0, y1, _⟩ := box2_alloc w (.string v) (.bool wl) 123
  have hlk := pin_lookup (hP.below hb0) path true
  have z2 := Below.cell_some hb0 g2
  rw [hx] at hlk
  simp only [Option.map_some, Option.getD_some, Option.isSome_some, if_true, pinV] at hlk
  have hb1 := below_alloc (w.alloc (.cells #[.string v, .bool wl] 123)) (.cells #[.string xv, .bool xw] 123)
  have hB := below_step hb0 hb1
  have HB := Lib.hid hB
  have HT := Lib.hid (hP.below hB)
  have hv := (hE.below hB).errs.var 9 h9
  simp only [errG] at hv
  have HV0 : Hid (errV A 0 = .nilIface) := Lib.hid rfl
  have HV9 : Hid (errV A 9 = .iface 328 (.pointer (some (A 9)))) := Lib.hid (errV_pos A (by decide))
  cases xw with
  | true =>
    cases wl with
    | false => exact absurd ⟨rfl, rfl⟩ hn
    | true =>
      by_cases he : xv = v
      · subst he
        rw [if_neg (by simp)] at hADD
        have HADD := Lib.hid hADD
        clear hADD hP hx hn hb0 hb1 hB hE hv
        go_enter Tryz.func74, Tryz.ntmps74
        go_wp2_with fail
        refine bodyPost_ret (v := .nilIface) (by simp [results, Tryz.results74, go_sem, *]) rfl ?_
        refine ⟨Kept.of _ HB.out, .inr ⟨_, HADD.out, ?_, HT.out⟩⟩
        rw [HV0.out]
      · rw [if_pos ⟨rfl, he⟩] at hADD
        have HADD := Lib.hid hADD
        have hne : (xv.toList == v.toList) = false := bytes_beq_ne he
        have hne2 : (xv.toList != v.toList) = true := by rw [bne, hne]; rfl
        clear hADD hP hx hn hb0 hb1 hB hE he
        go_enter Tryz.func74, Tryz.ntmps74
        go_wp2_with fail
        refine bodyPost_ret (v := .iface 328 (.pointer (some (A 9)))) (by simp [results, Tryz.results74, go_sem, *]) rfl ?_
        refine ⟨Kept.of _ HB.out, .inl ⟨HADD.out, ?_, HT.out⟩⟩
        rw [HV9.out]
  | false =>
    cases wl with
    | true =>
      rw [if_neg (by simp)] at hADD
      have HADD := Lib.hid hADD
      clear hADD hP hx hn hb0 hb1 hB hE hv
      go_enter Tryz.func74, Tryz.ntmps74
      go_wp2_with fail
      refine bodyPost_ret (v := .nilIface) (by simp [results, Tryz.results74, go_sem, *]) rfl ?_
      refine ⟨Kept.of _ HB.out, .inr ⟨_, HADD.out, ?_, HT.out⟩⟩
      rw [HV0.out]
    | false =>
      by_cases he : xv = v
      · subst he
        rw [if_neg (by simp)] at hADD
        have HADD := Lib.hid hADD
        clear hADD hP hx hn hb0 hb1 hB hE hv
        go_enter Tryz.func74, Tryz.ntmps74
        go_wp2_with fail
        refine bodyPost_ret (v := .nilIface) (by simp [results, Tryz.results74, go_sem, *]) rfl ?_
        refine ⟨Kept.of _ HB.out, .inr ⟨_, HADD.out, ?_, HT.out⟩⟩
        rw [HV0.out]
      · rw [if_pos ⟨rfl, he⟩] at hADD
        have HADD := Lib.hid hADD
        have hne : (xv.toList == v.toList) = false := bytes_beq_ne he
        have hne2 : (xv.toList != v.toList) = true := by rw [bne, hne]; rfl
        clear hADD hP hx hn hb0 hb1 hB hE he
        go_enter Tryz.func74, Tryz.ntmps74
        go_wp2_with fail
        refine bodyPost_ret (v := .iface 328 (.pointer (some (A 9)))) (by simp [results, Tryz.results74, go_sem, *]) rfl ?_
        refine ⟨Kept.of _ HB.out, .inl ⟨HADD.out, ?_, HT.out⟩⟩
        rw [HV9.out]
theorem getPin_calls (ks : List Nat) (A : Nat → Addr) (h9 : 9 ∈ ks) (bg b : Nat) (S : List PinB) (path v : ByteArray) (wl : Bool) (w : World) (hE : EnvP ks A w) (g2 : w.cell? ⟨bg, 2, none⟩ = some (.map (some b))) (hP : PinTab w b S) :
    Calls Tryz.prog 74 #[.pointer (some ⟨bg, 0, none⟩), .string path, .agg #[.string v, .bool wl]] w fun e w' => PinOut A b S (path, v, wl) w e w' := by
  cases hx : pinFind S path with
  | none => exact getPin_new A bg b S path v wl w g2 hP (fun x h => by rw [hx] at h; cases h)
  | some x =>
    obtain ⟨xk, xv, xw⟩ := x
    by_cases hn : xw = true ∧ wl = false
    · exact getPin_new A bg b S path v wl w g2 hP (fun x h => by rw [hx] at h; obtain rfl := Option.some.inj h; exact hn)
    · exact getPin_old ks A h9 bg b S path v xk xv wl xw w hE g2 hP hx hn
end Go.Proofs.Pw

namespace Go.Proofs.Pw
open Go.RowKit
open Go.Lib hiding intOf
end Go.Proofs.Pw

namespace Go.Proofs.Pw
open Go.RowKit Go.Extern.Stop Go.Stop Go.Extern
theorem Tryz.as_valueOf27 (t : Addr) (w : World) : (ReflectliteValue.unpack (.iface 157 (.pointer (some t)))).run Tryz.prog w
    = .ok (.agg #[.pointer (some ⟨19, 157, none⟩), .pointer (some ⟨w.heap.size, 0, none⟩), .int .u64 150]) (w.alloc (.cells #[.pointer (some t)] 157)) := by kernel_rfl
theorem Tryz.as_type27 (a : Addr) (w : World) : (ReflectliteValue.methodAny (ReflectliteValue.valueError "reflectlite.Value.Type" 0) (fun t _ _ _ => ReflectliteType.toType t) #[.agg #[.pointer (some ⟨19, 157, none⟩), .pointer (some a), .int .u64 150]]).run Tryz.prog w
    = .ok (.iface 266 (.agg #[.pointer (some ⟨19, 157, none⟩)])) w := by kernel_rfl
theorem Tryz.as_methodKind (h : Value) (w : World) : (Go.method 468 266 (.agg #[h]) "Kind").run Tryz.prog w = .ok (329, h) w := by kernel_rfl
theorem Tryz.as_kind27 (w : World) : ((ReflectliteType.abiMethod fun t => (fun a : Nat => Value.int IntKind.u8 (a : Int)) <$> Rtype.kind t) #[.pointer (some ⟨19, 157, none⟩)]).run Tryz.prog w = .ok (.int .u8 22) w := by kernel_rfl
theorem Tryz.as_kind25 (w : World) : ((ReflectliteType.abiMethod fun t => (fun a : Nat => Value.int IntKind.u8 (a : Int)) <$> Rtype.kind t) #[.pointer (some ⟨19, 74, none⟩)]).run Tryz.prog w = .ok (.int .u8 22) w := by kernel_rfl
theorem rlm (z : Sem Value) (f : TypeId → Addr → Nat → Nat → Sem Value) (v : Value) :
    ReflectliteValue.method z f #[v] = (do match ← ReflectliteValue.parts v with | none => z | some (t, a, fl) => f t a fl (fl % 32)) := rfl
theorem Tryz.as_parts27 (a : Addr) (w : World) : (ReflectliteValue.parts (.agg #[.pointer (some ⟨19, 157, none⟩), .pointer (some a), .int .u64 150])).run Tryz.prog w = .ok (some (157, a, 150)) w := by kernel_rfl
theorem Tryz.as_isNil27 (a p : Addr) (W : World) (ha : W.cell? a = some (.pointer (some p))) :
    (ReflectliteValue.method (ReflectliteValue.valueError "reflectlite.Value.IsNil" 0) ReflectliteValue.isNil #[.agg #[.pointer (some ⟨19, 157, none⟩), .pointer (some a), .int .u64 150]]).run Tryz.prog W = .ok (.bool false) W := by
  rw [rlm]
  simp only [Sem.run_bind, Tryz.as_parts27, Result.andThen]
  simp [ReflectliteValue.isNil, loadVar, isAgg, underlying, Tryz.underlying157, ha, Result.andThen]
theorem Tryz.as_methodElem (h : Value) (w : World) : (Go.method 468 266 (.agg #[h]) "Elem").run Tryz.prog w = .ok (341, .agg #[h]) w := by kernel_rfl
theorem Tryz.as_methodImplements (h : Value) (w : World) : (Go.method 468 266 (.agg #[h]) "Implements").run Tryz.prog w = .ok (342, .agg #[h]) w := by kernel_rfl
theorem Tryz.as_methodAssignableTo (h : Value) (w : World) : (Go.method 468 266 (.agg #[h]) "AssignableTo").run Tryz.prog w = .ok (339, .agg #[h]) w := by kernel_rfl
theorem Tryz.as_elem27 (w : World) : (ReflectliteType.method ReflectliteType.elem #[.agg #[.pointer (some ⟨19, 157, none⟩)]]).run Tryz.prog w = .ok (.iface 266 (.agg #[.pointer (some ⟨19, 74, none⟩)])) w := by kernel_rfl
theorem Tryz.as_implements25 (w : World) : (ReflectliteType.relation "Implements" ReflectliteType.implements_ #[.agg #[.pointer (some ⟨19, 74, none⟩)], .iface 266 (.agg #[.pointer (some ⟨19, 33, none⟩)])]).run Tryz.prog w = .ok (.bool true) w := by kernel_rfl
theorem Tryz.as_assignableE (w : World) : (ReflectliteType.relation "AssignableTo" ReflectliteType.assignableTo #[.agg #[.pointer (some ⟨19, 328, none⟩)], .iface 266 (.agg #[.pointer (some ⟨19, 74, none⟩)])]).run Tryz.prog w = .ok (.bool false) w := by kernel_rfl
set_option maxHeartbeats 4000000 in
theorem as_miss (e t : Addr) (old : Value) (w : World) (hg : w.cell? ⟨10, 0, none⟩ = some (.iface 266 (.agg #[.pointer (some ⟨19, 33, none⟩)]))) (ht0 : w.cell? t = some old) (_hf0 : w.frozen? t = false) :
    Calls Tryz.prog 107 #[.iface 328 (.pointer (some e)), .iface 157 (.pointer (some t))] w fun ev w' => ev = .returned (.bool false) ∧ Below w.heap.size w w' := by
  have h6 := @run_callFunc_extern Tryz.prog 167 _ (fun args => ReflectliteValue.unpack (args.getD 0 (.tuple #[]))) Tryz.func167 (by kernel_rfl) (by kernel_rfl) (by kernel_rfl) (by kernel_rfl)
  have h7 := @run_callFunc_extern Tryz.prog 168 _ (ReflectliteValue.methodAny (ReflectliteValue.valueError "reflectlite.Value.Type" 0) (fun t _ _ _ => ReflectliteType.toType t)) Tryz.func168 (by kernel_rfl) (by kernel_rfl) (by kernel_rfl) (by kernel_rfl)
  have h8 := @run_callFunc_extern Tryz.prog 169 _ (ReflectliteValue.method (ReflectliteValue.valueError "reflectlite.Value.IsNil" 0) ReflectliteValue.isNil) Tryz.func169 (by kernel_rfl) (by kernel_rfl) (by kernel_rfl) (by kernel_rfl)
  have h27 := @run_callFunc_extern Tryz.prog 329 _ (ReflectliteType.abiMethod fun t => do pure (.int .u8 (← Rtype.kind t))) Tryz.func329 (by kernel_rfl) (by kernel_rfl) (by kernel_rfl) (by kernel_rfl)
  have h37 := @run_callFunc_extern Tryz.prog 341 _ (ReflectliteType.method ReflectliteType.elem) Tryz.func341 (by kernel_rfl) (by kernel_rfl) (by kernel_rfl) (by kernel_rfl)
  have h38 := @run_callFunc_extern Tryz.prog 342 _ (ReflectliteType.relation "Implements" ReflectliteType.implements_) Tryz.func342 (by kernel_rfl) (by kernel_rfl) (by kernel_rfl) (by kernel_rfl)
  have h10 := @run_callFunc_extern Tryz.prog 171 _ ReflectliteType.typeOf Tryz.func171 (by kernel_rfl) (by kernel_rfl) (by kernel_rfl) (by kernel_rfl)
  have h35 := @run_callFunc_extern Tryz.prog 339 _ (ReflectliteType.relation "AssignableTo" ReflectliteType.assignableTo) Tryz.func339 (by kernel_rfl) (by kernel_rfl) (by kernel_rfl) (by kernel_rfl)
  have tO := Tryz.is_typeOf
  have aE := Tryz.as_assignableE
  have nA := Tryz.no_asE
  have uE := Tryz.no_unwrapE
  have vE := Tryz.no_unwrapsE
  have mA := Tryz.as_methodAssignableTo
  have f6 := Tryz.as_valueOf27
  have f7 := Tryz.as_type27
  have mK := Tryz.as_methodKind
  have mE := Tryz.as_methodElem
  have mI := Tryz.as_methodImplements
  have k27 := Tryz.as_kind27
  have k25 := Tryz.as_kind25
  have e27 := Tryz.as_elem27
  have i25 := Tryz.as_implements25
  have n8 := Tryz.as_isNil27 ⟨w.heap.size, 0, none⟩ t ((w.alloc (.cells #[.pointer (some t)] 157)).alloc (.cells #[.pointer (some ⟨19, 157, none⟩), .pointer (some ⟨w.heap.size, 0, none⟩), .int .u64 150] 207)) (by simp)
  have hlt : 10 < w.heap.size := World.block_lt_of_cell? w _ hg
  have hg2 : ((w.alloc (.cells #[.pointer (some t)] 157)).alloc (.cells #[.pointer (some ⟨19, 157, none⟩), .pointer (some ⟨w.heap.size, 0, none⟩), .int .u64 150] 207)).cell? ⟨10, 0, none⟩ = some (.iface 266 (.agg #[.pointer (some ⟨19, 33, none⟩)])) := by
    rw [World.cell?_alloc_lt _ _ ⟨10, 0, none⟩ (by simp; omega), World.cell?_alloc_lt _ _ ⟨10, 0, none⟩ hlt]; exact hg
  have htl : t.block < w.heap.size := by
    rcases Nat.lt_or_ge t.block w.heap.size with h | h
    · exact h
    · simp [World.cell?, Array.getElem?_eq_none h] at ht0
  go_enter Tryz.func107, Tryz.ntmps107
  go_wp2
  refine wp_loop_rounds 1 ?_
  rw [rounds_succ]
  go_wp2
  go_ret
  exact ⟨rfl, (((Below.refl _ _).alloc (Nat.le_refl _) _).alloc (by simp) _).alloc (by simp; omega) _⟩
end Go.Proofs.Pw

namespace Go.Proofs.Pw
open Go.RowKit
structure EnvC (A : Nat → Addr) (w : World) : Prop where
  errs : EnvE allErrs A w
  handle : w.cell? ⟨10, 0, none⟩ = some (.iface 266 (.agg #[.pointer (some ⟨19, 33, none⟩)]))
theorem EnvC.below {A : Nat → Addr} {w w' : World} (h : EnvC A w) (hb : Below w.heap.size w w') : EnvC A w' := ⟨h.errs.below hb, Below.cell_same hb h.handle⟩
def ten (A : Nat → Addr) : Array Value := #[errP (A 1), errP (A 2), errP (A 3), errP (A 4), errP (A 5), errP (A 6), errP (A 7), errP (A 8), errP (A 9), errP (A 10)]
where errP (a : Addr) : Value := .iface 328 (.pointer (some a))
end Go.Proofs.Pw

namespace Go.Proofs.Pw
open Go.RowKit
end Go.Proofs.Pw

namespace Go.Proofs.Pw
open Go.RowKit Go.Sort
open Go.Lib hiding intOf
theorem patSome1_calls (p s : ByteArray) (b : Nat) (w : World) (hE : EnvM w) (hp : p.size ≤ 1000000) (hs : s.size ≤ 1000000) (hc : w.cell? ⟨b, 0, none⟩ = some (.string p)) :
    Calls Tryz.prog 203 #[.string s, .pointer (some ⟨b, 0, none⟩)] w fun e w' => e = .returned (.bool (!pMatch p.data.toList s.data.toList)) ∧ Below w.heap.size w w' := by
  have hm := match_calls p s w hE (by omega) (by omega)
  generalize pMatch p.data.toList s.data.toList = X at hm ⊢
  replace hm := Lib.hid hm
  go_enter Tryz.func203, Tryz.ntmps203
  go_wp2_with fail
  refine hm.out.mono ?_
  rintro e w1 ⟨rfl, hb1⟩
  go_wp2_with fail
  go_ret
  exact ⟨rfl, hb1⟩
theorem Tryz.enters_some1 : ∀ args w, (callFunc 203 args).run Tryz.prog w = .ok (.enter 203 args) w := Go.Proofs.enters_of Tryz.func203 (by kernel_rfl) rfl
set_option maxHeartbeats 1000000 in
set_option maxRecDepth 100000 in
theorem patSome_calls (p : ByteArray) (v : Value) (l : List Str) (w : World) (hE : EnvM w) (hS : StrsAt w v l) (hp : p.size ≤ 1000000) (hn : l.length ≤ 1000000) (hl : ∀ x ∈ l, x.length ≤ 1000000) :
    Calls Tryz.prog 135 #[.string p, v] w fun e w' => (∃ v', e = .returned v' ∧ StrsAt w' v' (l.filter fun s => pMatch p.data.toList s)) ∧ Below w.heap.size w w' := by
  obtain ⟨a, n, cap, L, rfl, rfl, hnc, hcap, hc⟩ := hS
  rw [lstF_length] at hn
  have hB0 := below_alloc w (.cells #[.string p] 9)
  have hcl := cloneS_calls a n cap L (w.alloc (.cells #[.string p] 9)) (by omega) (fun j hj => let ⟨b, o, e1, e2⟩ := hc j hj; ⟨b, o, e1, Below.cell_some hB0 e2⟩)
  have hcp : (w.alloc (.cells #[.string p] 9)).cell? ⟨w.heap.size, 0, none⟩ = some (.string p) := by simp
  have hbl : (w.alloc (.cells #[.string p] 9)).heap.size = w.heap.size + 1 := by simp
  have hE0 := hE.below hB0
  have HL := Lib.hid hl
  replace hcl := Lib.hid hcl
  clear hc hl
  go_enter Tryz.func135, Tryz.ntmps135
  go_wp2_with fail
  refine hcl.out.mono ?_
  rintro e w1 ⟨h, hb1⟩
  rcases h with ⟨rfl, rfl⟩ | ⟨g, c, rfl, h1, h2, h3, h4, h5⟩
  · go_wp2_with fail
    refine (deleteFunc_nil _ 0 _).mono ?_
    rintro e w' ⟨rfl, rfl⟩
    go_wp2_with fail
    go_ret
    exact ⟨⟨_, rfl, StrsAt.nil _⟩, below_step hB0 hb1⟩
  · rw [hbl] at h1
    have hdz : (lstF n L).toArray.size = n := by rw [List.size_toArray, lstF_length]
    have hT : TestsB 203 #[.pointer (some ⟨w.heap.size, 0, none⟩)] (fun s => !pMatch p.data.toList s) (lstF n L).toArray.toList (w.heap.size + 1) w1 := by
      intro W hB s hs
      obtain ⟨j, hj, rfl⟩ := lstF_mem'.1 (by simpa using hs)
      have hbW : Below (w.heap.size + 1) (w.alloc (.cells #[.string p] 9)) W := by rw [← hbl]; exact hb1.trans (by rw [hbl]; exact hB)
      have hbW2 : Below (w.alloc (.cells #[.string p] 9)).heap.size (w.alloc (.cells #[.string p] 9)) W := by rw [hbl]; exact hbW
      have := patSome1_calls p (L j) w.heap.size W (hE0.below hbW2) hp (by rw [size_eq]; exact HL.out _ (lstF_mem'.2 ⟨j, hj, rfl⟩)) (Below.cell_some hbW2 hcp)
      rw [← bytes_back (L j)] at this
      exact this
    have hD := deleteFunc_calls 203 #[.pointer (some ⟨w.heap.size, 0, none⟩)] Tryz.enters_some1 (fun s => !pMatch p.data.toList s) g 0 c (w.heap.size + 1) (lstF n L).toArray w1 (by rw [hdz]; omega) (by rw [hdz]; exact h3) h1 h2 h5 hT
    rw [hdz] at hD
    have hfe : ((lstF n L).toArray.toList.filter fun x => !(!pMatch p.data.toList x)) = (lstF n L).filter fun x => pMatch p.data.toList x := by
      congr 1; funext x; simp
    simp only [hfe] at hD
    have hlen : ((lstF n L).filter fun x => pMatch p.data.toList x).length ≤ c := by
      have := List.length_filter_le (fun x => pMatch p.data.toList x) (lstF n L)
      rw [lstF_length] at this
      omega
    obtain ⟨R, HR⟩ : ∃ R, Hid ((lstF n L).filter (fun x => pMatch p.data.toList x) = R) := ⟨_, Lib.hid rfl⟩
    rw [HR.out] at hD hlen
    replace hD := Lib.hid hD
    clear hT hfe hcl
    go_wp2_with fail
    refine hD.out.mono ?_
    rintro e w2 ⟨rfl, hb2, h6⟩
    go_wp2_with fail
    go_ret
    rw [HR.out]
    refine ⟨⟨_, rfl, strsAt_holds h6 hlen h4⟩, ?_⟩
    have hb3 : Below w.heap.size w1 w2 := hb2.mono (by omega)
    exact (below_step hB0 hb1).trans hb3
end Go.Proofs.Pw

namespace Go.Proofs.Pw
open Go.RowKit
open Go.Lib hiding intOf
theorem wild_some (b : List Md) (p : Str) : (b.map (·.1)).filter (fun s => pMatch p s) = wildL b p := by
  unfold wildL
  rw [List.filter_map]
  rfl
set_option maxHeartbeats 8000000 in
set_option maxRecDepth 100000 in
theorem getPaths_in (ks : List Nat) (A : Nat → Addr) (h5 : 5 ∈ ks) (a : Option Addr) (n cap : Nat) (P V : Nat → ByteArray) (R : Nat → List Md) (K : Nat → List Str) (Bk : Nat → Bool) (Rv Kv : Nat → Value) (bv : Value) (bl : List Md) (bg b : Nat) (p : ByteArray) (w : World) (hW : GetW ks A a n cap P V R K Bk Rv Kv bv bl bg b w) (hs : ShortI (enF n P V R K Bk)) (hB1 : bl.length ≤ 1000000) (hB2 : ∀ m ∈ bl, m.1.length ≤ 1000000) (hp : p.size ≤ 1000000) :
    Calls Tryz.prog 71 #[.pointer (some ⟨bg, 0, none⟩), .string p] w fun e w' => (∃ v, e = .returned (.tuple #[v, errV A (pathsE (enF n P V R K Bk) p.data.toList)]) ∧ StrsAt w' v (pathsO (enF n P V R K Bk) bl p.data.toList)) ∧ Below w.heap.size w w' := by
  obtain ⟨i0, hi, hz0, hz1, hz2⟩ := info_parts Tryz.infoString
  have hwi := wild_calls p w hW.env.m (by omega)
  have hvs := idxVersions_in ks A a n cap P V R K Bk Rv Kv p w hW.env hW.ents hs
  have z0 := hW.g0
  have z1 := hW.g1
  have HE := Lib.hid hW.env
  obtain ⟨a2, m, c2, Q, U, rfl, rfl, hm3, hm4, hm5⟩ := hW.build
  have hmb : m ≤ 1000000 := by rwa [mdF_length] at hB1
  have HM := Lib.hid hm5
  have HQ : Hid (∀ j, j < m → (Q j).size ≤ 1000000) := Lib.hid (fun j hj => by rw [size_eq]; exact hB2 _ (List.mem_of_getElem? (mdF_get m Q U j hj)))
  have HE1 : Hid (contains p.data.toList dots = true → pathsE (enF n P V R K Bk) p.data.toList = 0 ∧ pathsO (enF n P V R K Bk) (mdF m Q U) p.data.toList = wildL (mdF m Q U) p.data.toList) := Lib.hid (fun h => ⟨by unfold pathsE; rw [if_pos h], by unfold pathsO; rw [if_pos h]⟩)
  have HE2 : Hid (contains p.data.toList dots = false → vsort (versL (enF n P V R K Bk) p.data.toList) = [] → pathsE (enF n P V R K Bk) p.data.toList = 5 ∧ pathsO (enF n P V R K Bk) (mdF m Q U) p.data.toList = []) := Lib.hid (fun h h2 => ⟨by unfold pathsE; rw [h, if_neg (by simp), if_pos h2], by unfold pathsO; rw [h, if_neg (by simp), if_pos h2]⟩)
  have HE3 : Hid (contains p.data.toList dots = false → vsort (versL (enF n P V R K Bk) p.data.toList) ≠ [] → pathsE (enF n P V R K Bk) p.data.toList = 0 ∧ pathsO (enF n P V R K Bk) (mdF m Q U) p.data.toList = [p.data.toList]) := Lib.hid (fun h h2 => ⟨by unfold pathsE; rw [h, if_neg (by simp), if_neg h2], by unfold pathsO; rw [h, if_neg (by simp), if_neg h2]⟩)
  generalize pathsE (enF n P V R K Bk) p.data.toList = PE at *
  generalize pathsO (enF n P V R K Bk) (mdF m Q U) p.data.toList = PO at *
  cases hw : contains p.data.toList dots with
  | false =>
    rw [hw] at hwi
    obtain ⟨VL, hVL⟩ : ∃ x, vsort (versL (enF n P V R K Bk) p.data.toList) = x := ⟨_, rfl⟩
    rw [hVL] at hvs
    rw [hVL] at HE2 HE3
    have HW := Lib.hid hw
    have hE5 := fun W (hb : Below w.heap.size w W) => (HE.out.below hb).errs.var 5 h5
    simp only [errG] at hE5
    replace hwi := Lib.hid hwi
    replace hvs := Lib.hid hvs
    replace hE5 := Lib.hid hE5
    clear hs hm5 hB1 hB2 hw hVL hW
    go_enter Tryz.func71, Tryz.ntmps71
    go_wp2_with fail
    refine hwi.out.mono ?_
    rintro e w1 ⟨rfl, rfl⟩
    go_wp2_with fail
    refine hvs.out.mono ?_
    rintro e w2 ⟨⟨v2, rfl, hv2⟩, hBq⟩
    obtain ⟨a5, n5, c5, L5, rfl, e5, _⟩ := id hv2
    replace z0 := Below.cell_some hBq z0
    clear hwi hvs z1
    by_cases h0 : n5 = 0
    · subst h0
      have he : VL = [] := by rw [e5]; rfl
      obtain ⟨f1, f2⟩ := HE2.out HW.out he
      subst f1 f2
      have hv := hE5.out w2 hBq
      have HV5 : Hid (errV A 5 = .iface 328 (.pointer (some (A 5)))) := Lib.hid (errV_pos A (by decide))
      clear he e5 hv2 hE5
      go_wp2_with fail
      have kqhv := fun d os => cell_patch (d := d) (os := os) hv
      refine wp_region_quiet_patch (by kernel_rfl) (by kernel_rfl) ?_
      repeat (go_big_quiet_step (fail))
      refine wpQuiet_nil ?_
      intro _ hw'
      obtain ⟨⟨dq, osq⟩, hw''⟩ := hw'
      subst hw''
      clear kqhv
      have hb := below_patch w2 dq osq
      replace hBq := below_step hBq hb
      clear hb
      generalize patch w2 dq osq = w3 at hBq ⊢
      go_wp2_with fail
      refine bodyPost_ret (v := .tuple #[.slice none 0 0, .iface 328 (.pointer (some (A 5)))]) (by simp [results, Tryz.results71, go_sem, *]) rfl ?_
      rw [HV5.out]
      exact ⟨⟨_, rfl, StrsAt.nil _⟩, hBq⟩
    · have hne : VL ≠ [] := fun h => h0 (by have := congrArg List.length e5; rw [h, lstF_length] at this; exact this.symm)
      have h0' : ((n5 : Int) == 0) = false := beq_eq_false_iff_ne.2 (by omega)
      obtain ⟨f1, f2⟩ := HE3.out HW.out hne
      subst f1 f2
      clear hne h0 e5 hv2 hE5
      go_wp2_with fail
      refine bodyPost_ret (v := .tuple #[.slice (some ⟨w2.heap.size, 0, none⟩) 1 1, .nilIface]) (by simp [results, Tryz.results71, go_sem, *]) rfl ?_
      refine ⟨⟨_, rfl, ?_⟩, hBq.alloc hBq.size _⟩
      refine ⟨some ⟨w2.heap.size, 0, none⟩, 1, 1, fun _ => p, rfl, rfl, Nat.le_refl _, by decide, fun j hj => ?_⟩
      obtain rfl : j = 0 := by omega
      exact ⟨_, _, rfl, by simp⟩
  | true =>
    rw [hw] at hwi
    obtain ⟨f1, f2⟩ := HE1.out hw
    subst f1 f2
    have hps := fun (v : Value) (l : List Str) (W : World) (hb : Below w.heap.size w W) (hS : StrsAt W v l) (h1 : l.length ≤ 1000000) (h2 : ∀ x ∈ l, x.length ≤ 1000000) => patSome_calls p v l W (HE.out.below hb).m hS hp h1 h2
    replace hwi := Lib.hid hwi
    replace hps := Lib.hid hps
    clear hs hm5 hB1 hB2 hvs hw hW
    go_enter Tryz.func71, Tryz.ntmps71
    go_wp2_with fail
    refine hwi.out.mono ?_
    rintro e w1 ⟨rfl, rfl⟩
    clear hwi
    go_wp2_with fail
    go_loopw [6, 8, 28] (fun o _ i wr => ∃ (k : Nat) (L : List ByteArray), k ≤ m ∧ i = .int .i64 k ∧ Hid (wr.ownsRow w.heap.size 9 1 o L.length (strVs L)) ∧ L.length = k ∧ Hid (strTs L = ((mdF m Q U).take k).map (·.1)) ∧ Below w.heap.size w wr) (fun _ _ i _ => m - (intOf i).toNat)
    case atStart => exact ⟨0, [], Nat.zero_le _, rfl, Lib.hid (World.ownsRow_nil _ _ _ _), rfl, Lib.hid rfl, Below.refl _ _⟩
    case round =>
      obtain ⟨k, L, hk, rfl, hO, hLk, hT, hBr⟩ := hrel
      obtain ⟨ao, no, co, rfl⟩ := own_form hO.out
      by_cases hlt : k < m
      · have hkn : (k : Int) < (m : Int) := by omega
        obtain ⟨b1, o1, ea, c0', c1'⟩ := HM.out k hlt
        have c0 := Below.cell_some hBr c0'
        have c1 := Below.cell_some hBr c1'
        subst ea
        have HN : Hid (strTs (L ++ [Q k]) = ((mdF m Q U).take (k + 1)).map (·.1)) := Lib.hid (by rw [mdF_take_succ m Q U k hlt, List.map_append, strTs_snoc, hT.out]; rfl)
        have hba := below_alloc wr (.cells #[.string (Q k), .string (U k)] 47)
        obtain ⟨y0, y1, _⟩ := box2_alloc wr (.string (Q k)) (.string (U k)) 47
        have hO5 := hO.out.below hba
        have hB5 := below_step hBr hba
        have HLK := Lib.hid hLk
        obtain ⟨w5, hW5⟩ : ∃ W, wr.alloc (.cells #[.string (Q k), .string (U k)] 47) = W := ⟨_, rfl⟩
        rw [hW5] at y0 y1 hO5 hB5
        have HO5 := Lib.hid hO5
        clear hT c0' c1' hba hO5 hO hLk
        go_wp2_with (at_builtin; refine wpList_append_own _ rfl _ _ 26 rfl w.heap.size 9 i0 (.string ⟨#[]⟩) 1 16 Tryz.underlying26 hi hz0 hz1 hz2 rfl (by decide) _ _ _ rfl (HO5.out.alloc _) ⟨w5.heap.size, 0, none⟩ 1 1 [.string (Q k)] rfl rfl (cell_one_new _ _ _) (fun x hx => by simp at hx; subst hx; rfl) (by unfold maxLen; have := HLK.out; omega) (by have := HLK.out; omega) (by have := hB5.size; simp; omega) ?_; intro o' w4 hown4 hgrow4 _)
        go_roundw
        case rel =>
          refine ⟨k + 1, L ++ [Q k], by omega, by go_num, Lib.hid ?_, by simp; exact HLK.out, HN, ?_⟩
          · rw [List.length_append, List.length_singleton, ← strVs_snoc]; exact hown4
          · exact (hB5.alloc hB5.size _).grown hgrow4 (by have := hB5.size; simp; omega) (fun q hq => (HO5.out.lt q hq).1)
        case measure => simp [intOf]; omega
      · obtain rfl : k = m := by omega
        have hnk : ¬ (k : Int) < (k : Int) := by omega
        have hSo := strsAt_own hO.out
        rw [hT.out, mdF_take_all] at hSo
        have hps1 := hps.out _ _ wr hBr hSo (by rw [List.length_map, mdF_length]; exact hmb) (fun x hx => by
          obtain ⟨q, hq, rfl⟩ := List.mem_map.1 hx
          obtain ⟨j, hj⟩ := List.mem_iff_getElem?.1 hq
          have hjl : j < k := by have := (List.getElem?_eq_some_iff.1 hj).1; rwa [mdF_length] at this
          rw [mdF_get k Q U j hjl] at hj
          rw [← Option.some.inj hj]
          have := HQ.out j hjl
          rwa [size_eq] at this)
        rw [wild_some] at hps1
        replace hps1 := Lib.hid hps1
        clear hT hSo hO hlt hk hps hLk
        go_wp2_with fail
        refine hps1.out.mono ?_
        rintro e w6 ⟨⟨v6, rfl, hv6⟩, hb6⟩
        obtain ⟨a6, n6, c6, _, rfl, _⟩ := id hv6
        have HV6 := Lib.hid hv6
        have HB6 := Lib.hid (below_step hBr hb6)
        clear hv6 hb6 hps1
        go_wp2_with fail
        refine bodyPost_ret (v := .tuple #[.slice a6 n6 c6, .nilIface]) (by simp [results, Tryz.results71, go_sem, *]) rfl ?_
        exact ⟨⟨_, rfl, HV6.out⟩, HB6.out⟩
end Go.Proofs.Pw
