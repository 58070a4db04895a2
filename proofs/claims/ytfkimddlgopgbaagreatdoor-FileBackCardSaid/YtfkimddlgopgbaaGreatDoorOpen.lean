/- Arguments of the statements: a module, a slice of modules, as they lie in memory. -/
import Derived.Test.YtfkimddlgopgbaaGreatDoorEnvP
import Derived.Test.YtfkimddlgopgbaaGreatDoorMem
import Derived.Deep.Slices
import Derived.Deep.Fields
namespace Go.Proofs.Pw
open Go.RowKit Go.ChangeShapes Go.WideShapes

theorem spot_none {w : World} {a : Addr} {v : Value} (h : w.cell? a = some v) : a.spot = none := by
  unfold World.cell? at h
  split at h
  · split at h
    · cases h
    · rename_i hs
      simpa using hs
  · cases h
theorem add_off (b o i : Nat) : (⟨b, o, none⟩ : Addr).add i = ⟨b, o + i, none⟩ := by unfold Addr.add; split <;> simp_all
set_option maxRecDepth 100000 in
/-- a module's two cells -/
theorem mdTrod {H : Type} {enc : TypeId × Value → H} {w : World} {base : Nat} {spare : Nat → Bool} {held : Bool} {fuel : Nat} {cs : List Value} {x : DataW H × List MemPlace}
    (h : DataW.trod enc Tryz.prog w base spare held fuel 26 cs = some x) : ∃ p v : ByteArray, cs = [.string p, .string v] := by
  obtain ⟨xs, n, _, _, hl, hx, hf⟩ := DataW.trod_struct Tryz.underlying26 h
  have hc : Tryz.prog.cellsOf 26 = 2 := by kernel_rfl
  have hs : Tryz.prog.cellsOf 9 = 1 := by kernel_rfl
  have h0 : DataW.trod enc Tryz.prog w base spare held n 9 ((cs.drop 0).take (Tryz.prog.cellsOf 9)) = xs[0]? := hf 0 _ rfl
  have h1 : DataW.trod enc Tryz.prog w base spare held n 9 ((cs.drop 1).take (Tryz.prog.cellsOf 9)) = xs[1]? := hf 1 _ rfl
  match cs, hl.trans hc with
  | [c0, c1], _ =>
    rw [hs] at h0 h1
    match xs, hx with
    | [x0, x1], _ =>
      obtain ⟨p, e0, _⟩ := DataW.trod_string Tryz.underlying9 h0
      obtain ⟨v, e1, _⟩ := DataW.trod_string Tryz.underlying9 h1
      simp at e0 e1
      exact ⟨p, v, by rw [e0, e1]⟩

set_option maxRecDepth 100000 in
theorem mdOpen {H : Type} {enc : TypeId × Value → H} {W : World} {base : Nat} {v : Value} {d : DataW H} {p : List MemPlace} (hv : Value.okWide Tryz.prog W .any base 26 v)
    (h : DataW.Trod enc Tryz.prog W 0 (fun _ => true) true 26 v d p) : ∃ p v' : ByteArray, v = .agg #[.string p, .string v'] := by
  obtain ⟨cs, rfl, _⟩ := okWide_struct Tryz.underlying26 hv
  obtain ⟨fuel, hf⟩ := h
  obtain ⟨p, v', e⟩ := mdTrod hf
  obtain ⟨l⟩ := cs
  simp [Value.cells] at e
  exact ⟨p, v', by rw [e]⟩

set_option maxRecDepth 100000 in
/-- the cells of a slice of modules -/
theorem modsCells {H : Type} {enc : TypeId × Value → H} {W : World} {fuel : Nat} {cs : List Value} {x : DataW H × List MemPlace}
    (h : DataW.trod enc Tryz.prog W 0 (fun _ => true) true fuel 22 cs = some x) : ∃ a n cap l, cs = [.slice a n cap] ∧ ModsAt W (.slice a n cap) l := by
  rcases Go.Deep.open_slice Tryz.underlying22 h with ⟨rfl, _⟩ | ⟨a, len, cap, m, n, D, Pl, rfl, _, hl, hm, hmm, _, hi⟩
  · exact ⟨none, 0, 0, [], rfl, ModsAt.nil W⟩
  · have hc : Tryz.prog.cellsOf 26 = 2 := by kernel_rfl
    rw [if_pos rfl] at hmm
    have key : ∀ i, i < len → ∃ p v : ByteArray, W.cell? (a.add (i * 2)) = some (.string p) ∧ W.cell? (a.add (i * 2 + 1)) = some (.string v) := fun i h => by
      obtain ⟨cs', h1, h2⟩ := hi i (by omega)
      rw [hc] at h1
      obtain ⟨p, v, rfl⟩ := mdTrod h2
      obtain ⟨_, _, hat⟩ := World.cells?_some h1
      have a0 := hat 0 (by decide)
      have a1 := hat 1 (by decide)
      rw [Go.Deep.add_add] at a0 a1
      exact ⟨p, v, a0, a1⟩
    classical
    let P : Nat → ByteArray := fun i => if h : i < len then (key i h).choose else ByteArray.empty
    let V : Nat → ByteArray := fun i => if h : i < len then (key i h).choose_spec.choose else ByteArray.empty
    refine ⟨some a, len, cap, mdF len P V, rfl, some a, len, cap, P, V, rfl, rfl, hl, by unfold maxLen at hm; exact hm, fun j hj => ?_⟩
    have h0 := (key j hj).choose_spec.choose_spec
    have hs : a.spot = none := by
      have := (key 0 (by omega)).choose_spec.choose_spec.1
      exact spot_none (a := a) this
    obtain ⟨b, o, s⟩ := a
    obtain rfl : s = none := hs
    refine ⟨b, o, rfl, ?_, ?_⟩
    · refine (congrArg W.cell? (add_off b o (j * 2)).symm).trans (h0.1.trans ?_)
      show _ = some (Value.string (if h : j < len then (key j h).choose else ByteArray.empty))
      rw [dif_pos hj]
    · refine (congrArg W.cell? (add_off b o (j * 2 + 1)).symm).trans (h0.2.trans ?_)
      show _ = some (Value.string (if h : j < len then (key j h).choose_spec.choose else ByteArray.empty))
      rw [dif_pos hj]
set_option maxRecDepth 100000 in
theorem modsOpen {H : Type} {enc : TypeId × Value → H} {W : World} {base : Nat} {v : Value} {d : DataW H} {p : List MemPlace} (hv : Value.okWide Tryz.prog W .any base 22 v)
    (h : DataW.Trod enc Tryz.prog W 0 (fun _ => true) true 22 v d p) : ∃ l, ModsAt W v l := by
  obtain ⟨a0, len, cap, rfl⟩ := okWide_slice Tryz.underlying22 hv
  obtain ⟨fuel, hf⟩ := h
  obtain ⟨a, n, c, l, e, hM⟩ := modsCells hf
  simp [Value.cells] at e
  obtain ⟨rfl, rfl, rfl⟩ := e
  exact ⟨l, hM⟩
end Go.Proofs.Pw
