/- The environment of the walks: what the package-level variables hold; what stays so behind new blocks. -/
import Derived.Test.YtfkimddlgopgbaaGreatDoorProg
import Derived.WalkKit
import Derived.WalkSmall
import Derived.Lib.LaidTab
import Derived.Lib.ItoaNum
namespace Go.Proofs.Pw
open Go.RowKit

/-- the library's own bound holds some number -/
structure EnvM (w : World) : Prop where
  maxLen : ∃ m, w.cell? ⟨10, 0, none⟩ = some (.int .i64 m)

theorem lt_of_cell {w : World} {a : Addr} {v : Value} (h : w.cell? a = some v) : a.block < w.heap.size := World.block_lt_of_cell? w a h
theorem Below.cell_some {w w' : World} (hb : Below w.heap.size w w') {a : Addr} {v : Value} (h : w.cell? a = some v) : w'.cell? a = some v :=
  (hb.cell (lt_of_cell h)).trans h
theorem EnvM.below {w w' : World} (h : EnvM w) (hb : Below w.heap.size w w') : EnvM w' := by
  obtain ⟨m, hm⟩ := h.maxLen
  exact ⟨m, Below.cell_some hb hm⟩
theorem below_step {w w1 w2 : World} (h : Below w.heap.size w w1) (h2 : Below w1.heap.size w1 w2) : Below w.heap.size w w2 := h.trans (h2.mono h.size)
theorem below_alloc (w : World) (o : Obj) : Below w.heap.size w (w.alloc o) := (Below.refl _ _).alloc (Nat.le_refl _) _

/-- the variable of an error's number -/
def errG : Nat → Nat
  | 1 => 5 | 2 => 4 | 3 => 1 | 4 => 7 | 5 => 6
  | 6 => 8 | 7 => 0 | 8 => 2 | 9 => 3 | _ => 9

/-- some of the sentinels: A k: where the text of the one with the number k lies -/
structure EnvE (ks : List Nat) (A : Nat → Addr) (w : World) : Prop where
  var : ∀ k ∈ ks, w.cell? ⟨errG k, 0, none⟩ = some (.iface 259 (.pointer (some (A k))))
  row : ∀ k ∈ ks, ∃ c t, w.heap[(A k).block]? = some (.cells c t (0, 0))
  inj : ∀ j ∈ ks, ∀ k ∈ ks, A j = A k → j = k

theorem Below.cell_same {w w' : World} (hb : Below w.heap.size w w') {a : Addr} {v : Value} (h : w.cell? a = some v) : w'.cell? a = some v :=
  (hb.cell (World.block_lt_of_cell? w a h)).trans h
theorem Below.row_same {w w' : World} (hb : Below w.heap.size w w') {b : Nat} {o : Obj} (h : w.heap[b]? = some o) : w'.heap[b]? = some o :=
  (hb.block b (Array.getElem?_eq_some_iff.1 h).1).trans h
theorem EnvE.below {ks : List Nat} {A : Nat → Addr} {w w' : World} (h : EnvE ks A w) (hb : Below w.heap.size w w') : EnvE ks A w' :=
  ⟨fun k hk => Below.cell_same hb (h.var k hk), fun k hk => let ⟨c, t, hc⟩ := h.row k hk; ⟨c, t, Below.row_same hb hc⟩, h.inj⟩
theorem EnvE.sub {ks js : List Nat} {A : Nat → Addr} {w : World} (h : EnvE ks A w) (hs : ∀ k ∈ js, k ∈ ks) : EnvE js A w :=
  ⟨fun k hk => h.var k (hs k hk), fun k hk => h.row k (hs k hk), fun j hj k hk => h.inj j (hs j hj) k (hs k hk)⟩

/-- an error by its number: 0: nil -/
def errV (A : Nat → Addr) (code : Nat) : Value := if code = 0 then .nilIface else .iface 259 (.pointer (some (A code)))
theorem errV_zero (A : Nat → Addr) : errV A 0 = .nilIface := rfl
theorem errV_pos (A : Nat → Addr) {c : Nat} (h : c ≠ 0) : errV A c = .iface 259 (.pointer (some (A c))) := if_neg h

def allErrs : List Nat := [1, 2, 3, 4, 5, 6, 7, 8, 9, 10]
theorem mem_allErrs {k : Nat} (h1 : 1 ≤ k) (h2 : k ≤ 10) : k ∈ allErrs := by
  unfold allErrs; simp; omega


theorem Below.drewN {B : Nat} {a w : World} (h : Below B a w) (n : Nat) : Below B a (w.drewN n) := below_drewN h n

/-- what packages ver and mod ask of the world -/
structure EnvP (ks : List Nat) (A : Nat → Addr) (w : World) : Prop where
  m : EnvM w
  errs : EnvE ks A w
  has : 1 ∈ ks ∧ 2 ∈ ks
  range : ∃ te pe, w.cell? ⟨13, 0, none⟩ = some (.iface te pe)
  pow10 : Lib.TabIs Tryz.prog w "internal/strconv.uint64pow10" .u64 Lib.pow10Tab

theorem var?_below {P : Program} {w w' : World} {n : String} {cs : Array Value} (h : w.var? P n = some cs) (hb : Below w.heap.size w w') : w'.var? P n = some cs := by
  unfold World.var? at h ⊢
  cases hg : P.globalNamed n with
  | none => simp [hg] at h
  | some g =>
    simp only [hg, Option.bind_some] at h ⊢
    have hlt : g < w.heap.size := by
      rcases Nat.lt_or_ge g w.heap.size with h' | h'
      · exact h'
      · simp [Array.getElem?_eq_none h'] at h
    rw [hb.block g hlt]
    exact h
theorem EnvP.below {ks : List Nat} {A : Nat → Addr} {w w' : World} (h : EnvP ks A w) (hb : Below w.heap.size w w') : EnvP ks A w' :=
  { m := h.m.below hb, errs := h.errs.below hb, has := h.has
    range := let ⟨te, pe, e⟩ := h.range; ⟨te, pe, Below.cell_some hb e⟩
    pow10 := var?_below h.pow10 hb
  }
end Go.Proofs.Pw
