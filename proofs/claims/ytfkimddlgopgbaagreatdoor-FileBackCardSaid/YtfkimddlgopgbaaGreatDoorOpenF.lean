/- Arguments of the statements: a file, as it lies in memory. -/
import Derived.Test.YtfkimddlgopgbaaGreatDoorOpen
namespace Go.Proofs.Pw
open Go.RowKit Go.ChangeShapes Go.WideShapes

set_option maxRecDepth 100000 in
theorem fileTrod {H : Type} {enc : TypeId × Value → H} {W : World} {fuel : Nat} {cs : List Value} {x : DataW H × List MemPlace}
    (h : DataW.trod enc Tryz.prog W 0 (fun _ => true) true fuel 24 cs = some x) : ∃ (p : ByteArray) (rv xv : Value) (R X : List Md), cs = [.string p, rv, xv] ∧ ModsAt W rv R ∧ ModsAt W xv X := by
  obtain ⟨xs, n, _, _, hl, hx, hf⟩ := DataW.trod_struct Tryz.underlying24 h
  have hc : Tryz.prog.cellsOf 24 = 3 := by kernel_rfl
  have hs : Tryz.prog.cellsOf 9 = 1 := by kernel_rfl
  have hm : Tryz.prog.cellsOf 22 = 1 := by kernel_rfl
  have h0 : DataW.trod enc Tryz.prog W 0 (fun _ => true) true n 9 ((cs.drop 0).take (Tryz.prog.cellsOf 9)) = xs[0]? := hf 0 _ rfl
  have h1 : DataW.trod enc Tryz.prog W 0 (fun _ => true) true n 22 ((cs.drop 1).take (Tryz.prog.cellsOf 22)) = xs[1]? := hf 1 _ rfl
  have h2 : DataW.trod enc Tryz.prog W 0 (fun _ => true) true n 22 ((cs.drop 2).take (Tryz.prog.cellsOf 22)) = xs[2]? := hf 2 _ rfl
  match cs, hl.trans hc with
  | [c0, c1, c2], _ =>
    rw [hs] at h0
    rw [hm] at h1 h2
    match xs, hx with
    | [x0, x1, x2], _ =>
      obtain ⟨p, e0, _⟩ := DataW.trod_string Tryz.underlying9 h0
      obtain ⟨a1, n1, q1, R, e1, hR⟩ := modsCells h1
      obtain ⟨a2, n2, q2, X, e2, hX⟩ := modsCells h2
      simp at e0 e1 e2
      exact ⟨p, _, _, R, X, by rw [e0, e1, e2], hR, hX⟩

set_option maxRecDepth 100000 in
theorem fileOpen {H : Type} {enc : TypeId × Value → H} {W : World} {base : Nat} {v : Value} {d : DataW H} {p : List MemPlace} (hv : Value.okWide Tryz.prog W .any base 24 v)
    (h : DataW.Trod enc Tryz.prog W 0 (fun _ => true) true 24 v d p) : ∃ (p : ByteArray) (rv xv : Value) (R X : List Md), v = .agg #[.string p, rv, xv] ∧ ModsAt W rv R ∧ ModsAt W xv X := by
  obtain ⟨cs, rfl, _⟩ := okWide_struct Tryz.underlying24 hv
  obtain ⟨fuel, hf⟩ := h
  obtain ⟨p, rv, xv, R, X, e, h1, h2⟩ := fileTrod hf
  obtain ⟨l⟩ := cs
  simp [Value.cells] at e
  exact ⟨p, rv, xv, R, X, by rw [e], h1, h2⟩
end Go.Proofs.Pw
