/- From a row's listed variables to what packages ver and mod ask: the sentinels, strconv.ErrRange, the table of powers. -/
import Derived.Test.YtfkimddlgopgbaaGreatDoorEnv
import Derived.SliceStrings
import Derived.Test.YtfkimddlgopgbaaGreatDoorVerSplit
namespace Go.Proofs.Pw
open Go.RowKit Go.ChangeShapes

theorem tab_mem {W : World} {n : String} {k : IntKind} {zs : List Int} {g : Nat} {t e : TypeId} {m : Nat}
    (hg : Tryz.prog.globalNamed n = some g) (hty : (Tryz.prog.globals[g]?).map (·.type) = some t) (ht : Tryz.prog.underlying t = some (.array m e)) (he : Tryz.prog.underlying e = some (.int k)) (hce : Tryz.prog.cellsOf e = 1) (hct : Tryz.prog.cellsOf t = m) :
    ∀ {l : List (String × DataW Unit)} {ps : List MemPlace}, DataW.LaidVars Tryz.prog W l ps → (n, Lib.tabData k zs) ∈ l → Lib.TabIs Tryz.prog W n k zs
  | [], _, _, hm => by cases hm
  | (n0, d0) :: r, ps, h, hm => by
    obtain ⟨g', t', cs, fuel, p, q, hg', ht', hvar, hd, hq, rfl⟩ := h
    rcases List.mem_cons.1 hm with heq | hm
    · obtain ⟨rfl, rfl⟩ := Prod.mk.injEq .. ▸ heq
      obtain rfl := Option.some.inj (hg.symm.trans hg')
      obtain rfl := Option.some.inj (hty.symm.trans ht')
      unfold Lib.TabIs
      rw [hvar, ← Lib.cells_of_tab ht he hce hct hd]
    · exact tab_mem hg hty ht he hce hct hq hm

/-- an error's name and text by its number -/
def errNm : Nat → String
  | 1 => "pewholder/api.ErrText" | 2 => "pewholder/api.ErrBound" | 3 => "pewholder/api.ErrShape" | 4 => "pewholder/api.ErrMajor" | 5 => "pewholder/api.ErrNone"
  | 6 => "pewholder/api.ErrExist" | 7 => "pewholder/api.ErrFull" | 8 => "pewholder/api.ErrOrder" | 9 => "pewholder/api.ErrClash" | _ => "pewholder/api.ErrSum"
def errTx : Nat → List UInt8
  | 1 => [112, 101, 119, 104, 111, 108, 100, 101, 114, 58, 32, 116, 101, 120, 116]
  | 2 => [112, 101, 119, 104, 111, 108, 100, 101, 114, 58, 32, 98, 111, 117, 110, 100]
  | 3 => [112, 101, 119, 104, 111, 108, 100, 101, 114, 58, 32, 115, 104, 97, 112, 101]
  | 4 => [112, 101, 119, 104, 111, 108, 100, 101, 114, 58, 32, 109, 97, 106, 111, 114]
  | 5 => [112, 101, 119, 104, 111, 108, 100, 101, 114, 58, 32, 110, 111, 110, 101]
  | 6 => [112, 101, 119, 104, 111, 108, 100, 101, 114, 58, 32, 101, 120, 105, 115, 116]
  | 7 => [112, 101, 119, 104, 111, 108, 100, 101, 114, 58, 32, 102, 117, 108, 108]
  | 8 => [112, 101, 119, 104, 111, 108, 100, 101, 114, 58, 32, 111, 114, 100, 101, 114]
  | 9 => [112, 101, 119, 104, 111, 108, 100, 101, 114, 58, 32, 99, 108, 97, 115, 104]
  | _ => [112, 101, 119, 104, 111, 108, 100, 101, 114, 58, 32, 115, 117, 109]
def rangeTx : List UInt8 := [118, 97, 108, 117, 101, 32, 111, 117, 116, 32, 111, 102, 32, 114, 97, 110, 103, 101]

theorem maxLenEnv {W : World} (h : W.ShapedOpen Tryz.prog) : EnvM W := by
  obtain ⟨m, hm⟩ := Tryz.laysM143.s1_3 W h
  exact ⟨m, hm⟩

theorem envP_of {W : World} {l : List (String × DataW Unit)} (h : laidMet Tryz.prog l W) (hsh : W.ShapedOpen Tryz.prog) (ks : List Nat) (hks : 1 ∈ ks ∧ 2 ∈ ks)
    (hm : ∀ k ∈ ks, (errNm k, sentD (errTx k)) ∈ l) (hg : ∀ k ∈ ks, Tryz.prog.globalNamed (errNm k) = some (errG k)) (ht : ∀ k ∈ ks, (Tryz.prog.globals[errG k]?).map (·.type) = some 31)
    (hne : ∀ j ∈ ks, ∀ k ∈ ks, j ≠ k → errNm j ≠ errNm k) (hr : ("strconv.ErrRange", sentD rangeTx) ∈ l) (hp : ("internal/strconv.uint64pow10", Lib.tabData .u64 Lib.pow10Tab) ∈ l) : EnvP ks (errA W) W := by
  refine { m := maxLenEnv hsh, errs := envE_of h ks errNm errTx hm hg ht hne, has := hks, range := ?_, pow10 := ?_ }
  · obtain ⟨ps, hv, hnd, hrows⟩ := h
    obtain ⟨g, a, h1, h2, _⟩ := sent_mem hv hrows hr (fun g hg => by
      obtain rfl := Option.some.inj ((show Tryz.prog.globalNamed "strconv.ErrRange" = some 13 by kernel_rfl).symm.trans hg)
      kernel_rfl)
    obtain rfl := Option.some.inj ((show Tryz.prog.globalNamed "strconv.ErrRange" = some 13 by kernel_rfl).symm.trans h1)
    exact ⟨_, _, h2⟩
  · obtain ⟨ps, hv, _, _⟩ := h
    exact tab_mem (g := 16) (by kernel_rfl) (by kernel_rfl) (Tryz.underlying263) (Tryz.underlying177) (by kernel_rfl) (by kernel_rfl) hv hp

/-- a slice of texts that came in -/
theorem strsAt_open {w : World} {a : Addr} {len cap : Nat} {ss : List ByteArray} (hl : len ≤ cap) (hm : cap ≤ maxLen) (hlen : len ≤ ss.length) (hc : ∀ i, i < ss.length → w.cell? (a.add i) = some (.string (ss.getD i ByteArray.empty))) :
    StrsAt w (.slice (some a) len cap) (lstF len fun j => ss.getD j ByteArray.empty) := by
  refine ⟨some a, len, cap, _, rfl, rfl, hl, by unfold maxLen at hm; exact hm, fun j hj => ?_⟩
  have h0 := hc 0 (by omega)
  have hs : a.spot = none := by
    have e : a.add 0 = a := rfl
    rw [e] at h0
    unfold World.cell? at h0
    split at h0
    · split at h0
      · cases h0
      · rename_i h
        simpa using h
    · cases h0
  obtain ⟨b, o, s⟩ := a
  obtain rfl : s = none := hs
  refine ⟨b, o, rfl, ?_⟩
  have := hc j (by omega)
  have e : (⟨b, o, none⟩ : Addr).add j = ⟨b, o + j, none⟩ := by unfold Addr.add; split <;> simp_all
  rw [e] at this
  exact this

theorem wf64 {x : Int} (h : (Lit.int .i64 x).wf = true) : -9223372036854775808 ≤ x ∧ x ≤ 9223372036854775807 := by
  unfold Lit.wf at h
  simp only [Bool.and_eq_true, decide_eq_true_eq] at h
  exact h

set_option maxRecDepth 100000 in
theorem strsOpen {H : Type} {enc : TypeId × Value → H} {W : World} {base : Nat} {v : Value} {d : DataW H} {p : List MemPlace} (hv : Value.okWide Tryz.prog W .any base 47 v)
    (h : DataW.Trod enc Tryz.prog W 0 (fun _ => true) true 47 v d p) : ∃ l, StrsAt W v l := by
  obtain ⟨a0, len, cap, rfl⟩ := WideShapes.okWide_slice Tryz.underlying47 hv
  obtain ⟨fuel, hf⟩ := h
  rcases ChangeShapes.open_strings Tryz.underlying47 Tryz.underlying9 (by kernel_rfl) hf with ⟨hcs, _⟩ | ⟨a, len', cap', ss, hcs, _, hl, hm, hz, _, hcell, _⟩
  · simp [Value.cells] at hcs
    obtain ⟨rfl, rfl, rfl⟩ := hcs
    exact ⟨[], StrsAt.nil W⟩
  · simp [Value.cells] at hcs
    obtain ⟨rfl, rfl, rfl⟩ := hcs
    exact ⟨_, strsAt_open hl hm (by rw [hz, if_pos rfl]; exact hl) hcell⟩
end Go.Proofs.Pw
