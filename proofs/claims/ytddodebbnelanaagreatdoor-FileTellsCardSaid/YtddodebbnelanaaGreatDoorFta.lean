/- Ft: walks and plain laws, joined: Build FileText FileLine FileLine2 FileLine3 FileRead Filed SlModK FileCopy SlBin SlIns FileSet SlDelM FileDrop FileAway FileTellsMath FileTells RefA RefB RefC RefV. Conditions: at each theorem. -/
import Derived.Test.YtddodebbnelanaaGreatDoorShelf
import Derived.Test.YtddodebbnelanaaGreatDoorMpa
import Derived.Shelf.Strings.BuilderK
import Derived.Shelf.Strings.OnBuilder
import Derived.Test.YtddodebbnelanaaGreatDoorMpb
import Derived.Deep.AppendLies
import Derived.Deep.RegionLaw
import Derived.Laws.CopyRow
import Derived.Laws.CopyOwn
import Derived.Lib.Overlaps
import Derived.Lib.AppendZerosOnto
import Derived.Lib.SliceRun
import Derived.Deep.RegionWith
import Derived.Shelf.Abstract
import Derived.Shelf.RegionOpenPlain
import Derived.Laws.AppendOwn
import Derived.LoopTactic
import Derived.OwnWalk
import Derived.Laws.IdiomStrings
import Derived.Shelf.SlSortCmp.QuietGrown
import Derived.Lib.AppendIntMem

/- strings.Builder, strings.Join: the kit's contracts laid by hand at this program's numbers. -/
namespace Go.Proofs.Pw
open Go.RowKit

def renB : Go.Shelf.Ren := ⟨fun | 156 => 0 | 165 => 0 | 166 => 73 | 169 => 74 | 240 => 131 | 241 => 0 | 276 => 176 | 277 => 0 | n => n,
  fun | 0 => 0 | 3 => 3 | 4 => 4 | 9 => 9 | 20 => 20 | 37 => 93 | 70 => 92 | 72 => 95 | 75 => 32 | 80 => 97 | 164 => 177 | 5 => 5 | 31 => 61 | 76 => 59 | 127 => 159 | n => n, fun n => n⟩
theorem laysWS : Go.Proofs.Lays.n166 Tryz.prog renB := {
  mixed := by kernel_rfl
  f166 := Tryz.func73.trans (congrArg some (by kernel_rfl))
  f240 := Tryz.func131.trans (congrArg some (by kernel_rfl))
  f276 := Tryz.func176.trans (congrArg some (by kernel_rfl))
  t0 := Tryz.underlying0
  a0 := Tryz.isAgg0
  z0 := Tryz.sizeOf0
  v0 := Tryz.zeroValue0
  t3 := Tryz.underlying3
  a3 := Tryz.isAgg3
  z3 := Tryz.sizeOf3
  v3 := Tryz.zeroValue3
  t4 := Tryz.underlying4
  a4 := Tryz.isAgg4
  z4 := Tryz.sizeOf4
  v4 := Tryz.zeroValue4
  t9 := Tryz.underlying9
  a9 := Tryz.isAgg9
  z9 := Tryz.sizeOf9
  v9 := Tryz.zeroValue9
  t20 := Tryz.underlying20
  a20 := Tryz.isAgg20
  z20 := Tryz.sizeOf20
  v20 := Tryz.zeroValue20
  t37 := Tryz.underlying93
  a37 := Tryz.isAgg93
  z37 := Tryz.sizeOf93
  v37 := Tryz.zeroValue93
  t70 := Tryz.underlying92
  a70 := Tryz.isAgg92
  z70 := Tryz.sizeOf92
  v70 := Tryz.zeroValue92
  t72 := Tryz.underlying95
  a72 := Tryz.isAgg95
  z72 := Tryz.sizeOf95
  v72 := Tryz.zeroValue95
  t75 := Tryz.underlying32
  a75 := Tryz.isAgg32
  z75 := Tryz.sizeOf32
  v75 := Tryz.zeroValue32
  t164 := Tryz.underlying177
  a164 := Tryz.isAgg177
  z164 := Tryz.sizeOf177
  v164 := Tryz.zeroValue177 }
theorem extraB : Go.Proofs.Builder.Extra Tryz.prog renB := {
  sizeBuilder := by kernel_rfl
  liesBuilder := by kernel_rfl
  t5 := Tryz.underlying5
  a5 := Tryz.isAgg5
  z5 := Tryz.sizeOf5
  v5 := Tryz.zeroValue5
  infoByte := by kernel_rfl
  cellsByte := by kernel_rfl
  sizeByte := by kernel_rfl
  neB5 := by decide }
end Go.Proofs.Pw

/- file.Text. Conditions: texts of at most 1000000 bytes, lists of at most 1000000. -/
namespace Go.Proofs.Pw
open Go.RowKit
open Go.Lib hiding intOf

/-! ### a builder -/
def BAt (B b : Nat) (l : Str) (w : World) : Prop := IsBuilder 95 5 B b (Lib.byteCells l) w
theorem builderAt_below {B b : Nat} {p : Value} {bs : List Value} {w w' : World} (h : BuilderAt 95 5 B b p bs w) (hb : Below w.heap.size w w') : BuilderAt 95 5 B b p bs w' := by
  obtain ⟨h1, v, h2, h3, h4⟩ := h
  exact ⟨h1, v, (hb.block b (Array.getElem?_eq_some_iff.1 h2).1).trans h2, ownsRow_kept h3 hb, h4⟩
theorem BAt.below {B b : Nat} {l : Str} {w w' : World} (h : BAt B b l w) (hb : Below w.heap.size w w') : BAt B b l w' := by
  rcases h with h | h
  · exact .inl (builderAt_below h hb)
  · exact .inr (builderAt_below h hb)
theorem bAt_new (w : World) : BAt w.heap.size w.heap.size [] (w.alloc (.cells #[.pointer none, .slice none 0 0] 95)) := by
  refine .inl ⟨Nat.le_refl _, .slice none 0 0, Go.Deep.blk_alloc_new w _, World.ownsRow_nil _ _ _ _, ?_⟩
  intro h; cases h
theorem writeS_calls (B b : Nat) (l : Str) (s : ByteArray) (w : World) (h : BAt B b l w) (hl : l.length + s.size ≤ 100000000000) (hB : B ≤ w.heap.size) :
    Calls Tryz.prog 73 #[.pointer (some ⟨b, 0, none⟩), .string s] w fun e w' => e = .returned (.tuple #[.int .i64 s.size, .nilIface]) ∧ BAt B b (l ++ s.data.toList) w' ∧ Below B w w' := by
  refine (Any.Builder_WriteString laysWS extraB B b (Lib.byteCells l) s w h (by rw [Lib.byteCells_length]; omega) hB).mono ?_
  rintro e w' ⟨rfl, h1, h2⟩
  refine ⟨rfl, .inr ?_, h2⟩
  rw [strCells_eq, ← Lib.byteCells_append] at h1
  exact h1
theorem stringB_calls (B b : Nat) (l : Str) (w : World) (h : BAt B b l w) (h0 : l ≠ []) :
    Calls Tryz.prog 74 #[.pointer (some ⟨b, 0, none⟩)] w fun e w' => e = .returned (.string ⟨l.toArray⟩) ∧ Below B w w' := Tryz.Builder_String B b l w h h0

theorem mlines_len_le (c : Nat) (w : Str) : ∀ l : List Md, (∀ m ∈ l, m.1.length ≤ c ∧ m.2.length ≤ c) → (mlines w l).length ≤ l.length * (w.length + 2 * c + 3)
  | [], _ => Nat.zero_le _
  | m :: r, h => by
    have ih := mlines_len_le c w r (fun x hx => h x (by simp [hx]))
    have hm := h m (by simp)
    have e : (mlines w (m :: r)).length = (w.length + m.1.length + m.2.length + 2) + 1 + (mlines w r).length := by rw [mlines_cons]; simp [mline]; omega
    have e2 : (m :: r).length * (w.length + 2 * c + 3) = r.length * (w.length + 2 * c + 3) + (w.length + 2 * c + 3) := by rw [List.length_cons, Nat.add_mul, Nat.one_mul]
    omega
theorem app_by (a b : ByteArray) : (a ++ b).data.toList = a.data.toList ++ b.data.toList := by rw [ByteArray.data_append, Array.toList_append]
theorem app_size (a b : ByteArray) : (a ++ b).size = a.size + b.size := ByteArray.size_append


set_option maxHeartbeats 600000 in
set_option maxRecDepth 100000 in
theorem fileText_calls (ks : List Nat) (A : Nat → Addr) (hks : FileKs ks) (path : ByteArray) (rv xv : Value) (reqs excl : List Md) (w : World) (hE : EnvP ks A w) (hr : ModsAt w rv reqs) (hx : ModsAt w xv excl) (hp : path.size ≤ 1000000) (hsr : Short reqs) (hsx : Short excl) :
    Calls Tryz.prog 18 #[.agg #[.string path, rv, xv]] w fun e w' => e = .returned (.string ⟨(fileText ⟨path.data.toList, reqs, excl⟩).toArray⟩) ∧ Below w.heap.size w w' := by
  have hck := fun W hW h1 h2 => fileCheck_calls ks A hks path rv xv reqs excl W hW h1 h2 hp hsr hsx
  obtain ⟨a, n, cap, P, V, rfl, rfl, hnc, hcap, hc⟩ := id hr
  obtain ⟨a2, m, cap2, Q, U, rfl, rfl, hmc, hcap2, hc2⟩ := id hx
  obtain ⟨hn, hPV⟩ := short_F hsr
  obtain ⟨hm, hQU⟩ := short_F hsx
  have hB := below_alloc w (.cells #[.string path, .slice a n cap, .slice a2 m cap2] 24)
  have hz := box3_alloc w (.string path) (.slice a n cap) (.slice a2 m cap2) 24
  replace hE := hE.below hB
  replace hr := hr.below hB
  replace hx := hx.below hB
  have HC1 := Lib.hid hc
  have HC2 := Lib.hid hc2
  have HP1 := Lib.hid hPV
  have HP2 := Lib.hid hQU
  replace hck := Lib.hid hck
  clear hc hc2 hPV hQU hsr hsx
  by_cases h0 : (fileErr ⟨path.data.toList, mdF n P V, mdF m Q U⟩).1 = 0
  · have HF : Hid (fileText ⟨path.data.toList, mdF n P V, mdF m Q U⟩ = fileTxt ⟨path.data.toList, mdF n P V, mdF m Q U⟩) := Lib.hid (if_pos h0)
    have hr20 := (right_of h0).reqs
    have hx20 := (right_of h0).excl
    simp only [mdF_length] at hr20 hx20
    have H0 := Lib.hid h0
    clear h0
    go_enter Tryz.func18, Tryz.ntmps18
    obtain ⟨z0, z1, z2⟩ := id hz
    go_wp2_with fail
    refine (hck.out _ hE hr hx).mono ?_
    rintro e w1 ⟨⟨v, rfl, hF⟩, hb⟩
    replace hB := below_step hB hb
    replace hz := hz.below hb
    clear hb
    obtain rfl : v = .nilIface := by
      rcases hF with h | h | h
      · exact h.2.2
      · exact absurd H0.out h.1
      · exact absurd H0.out h.1
    clear hF hE hr hx hck
    obtain ⟨z0, z1, z2⟩ := id hz
    have hba0 := bAt_new w1
    have hBw1 := hB
    have hBb := below_alloc w1 (.cells #[.pointer none, .slice none 0 0] 95)
    have hws := fun W (h : BAt w1.heap.size w1.heap.size [] W) (hB : w1.heap.size ≤ W.heap.size) => writeS_calls w1.heap.size w1.heap.size [] (⟨#[109, 111, 100, 117, 108, 101, 32]⟩ ++ path ++ ⟨#[10]⟩) W h (by rw [app_size, app_size]; show 0 + (7 + path.size + 1) ≤ _; omega) hB
    replace hws := Lib.hid hws
    obtain ⟨y0, y1, y2⟩ := hz.below hBb
    go_wp2_with fail
    refine (hws.out _ hba0 hBb.size).mono ?_
    rintro e w2 ⟨rfl, hba, hb2⟩
    have hB1 := hBb.trans hb2
    have hz2 := hz.below hB1
    clear hba0 hBb hb2 y0 y1 y2 z0 z1 z2 hws
    obtain ⟨pre, hpre⟩ : ∃ pre : Str, Hid (pre = modW ++ [32] ++ path.data.toList ++ [10]) := ⟨_, Lib.hid rfl⟩
    have hpe : [] ++ ((⟨#[109, 111, 100, 117, 108, 101, 32]⟩ : ByteArray) ++ path ++ ⟨#[10]⟩).data.toList = pre := by
      rw [app_by, app_by, hpre.out]; simp [modW]
    rw [hpe] at hba
    have hpl : pre.length ≤ 2000000 := by
      rw [hpre.out]; simp [modW]
      omega
    clear hpe
    obtain ⟨z0, z1, z2⟩ := id hz2
    go_wp2_with fail
    go_loopw [19] (fun i wr => ∃ k : Nat, k ≤ n ∧ i = .int .i64 k ∧ BAt w1.heap.size w1.heap.size (pre ++ mlines reqW ((mdF n P V).take k)) wr ∧ Below w1.heap.size w1 wr) (fun i _ => n - (intOf i).toNat)
    case atStart => exact ⟨0, Nat.zero_le _, rfl, by simpa [mlines_nil] using hba, hB1⟩
    case round =>
      obtain ⟨k, hk, rfl, hba, hB1⟩ := hrel
      have hB2 := hB1
      by_cases hlt : k < n
      · obtain ⟨b1, o1, rfl, c1, c2⟩ := HC1.out k hlt
        replace c1 := Below.cell_some hB2 (Below.cell_some hBw1 c1)
        replace c2 := Below.cell_some hB2 (Below.cell_some hBw1 c2)
        have hps := HP1.out k hlt
        have hml := mlines_len_le 1000000 reqW ((mdF n P V).take k) (fun m hm => by
          have hm' := List.mem_of_mem_take hm
          simp only [mdF, List.mem_map, List.mem_range] at hm'
          obtain ⟨j, hj, rfl⟩ := hm'
          have := HP1.out j hj
          rw [← size_eq, ← size_eq]
          exact this)
        rw [List.length_take, mdF_length, Nat.min_eq_left hk, show (reqW : Str).length = 7 from rfl] at hml
        have hmul := Nat.mul_le_mul_right (7 + 2 * 1000000 + 3) hk
        have hmul2 := Nat.mul_le_mul_right (7 + 2 * 1000000 + 3) hr20
        have hws := fun W (h : BAt w1.heap.size w1.heap.size (pre ++ mlines reqW ((mdF n P V).take k)) W) (hB : w1.heap.size ≤ W.heap.size) => writeS_calls w1.heap.size w1.heap.size _ (⟨#[114, 101, 113, 117, 105, 114, 101, 32]⟩ ++ P k ++ ⟨#[32]⟩ ++ V k ++ ⟨#[10]⟩) W h (by rw [app_size, app_size, app_size, app_size, List.length_append]; show _ + (8 + (P k).size + 1 + (V k).size + 1) ≤ _; omega) hB
        have htx : pre ++ mlines reqW ((mdF n P V).take k) ++ ((⟨#[114, 101, 113, 117, 105, 114, 101, 32]⟩ : ByteArray) ++ P k ++ ⟨#[32]⟩ ++ V k ++ ⟨#[10]⟩).data.toList = pre ++ mlines reqW ((mdF n P V).take (k + 1)) := by
          rw [mdF_take_succ _ _ _ k hlt, mlines_snoc, app_by, app_by, app_by, app_by]
          simp [mline, reqW]
        have HTX := Lib.hid htx
        have hBa := hB1.alloc (w := wr) (by have := hB1.size; omega) (.cells #[.string (P k), .string (V k)] 26)
        have hbaa := hba.below (below_alloc wr (.cells #[.string (P k), .string (V k)] 26))
        replace hws := Lib.hid hws
        clear htx hml hmul hmul2 hba
        go_wp2_with fail
        refine (hws.out _ hbaa (by have := hBa.size; omega)).mono ?_
        rintro e w3 ⟨rfl, hba, hb3⟩
        rw [HTX.out] at hba
        go_wp2_with fail
        go_roundw
        case rel => exact ⟨k + 1, by omega, by go_num, hba, hBa.trans hb3⟩
        case measure => simp [intOf]; omega
      · obtain rfl : k = n := by omega
        rw [List.take_of_length_le (by rw [mdF_length]; exact Nat.le_refl _)] at hba
        obtain ⟨pre2, hpre2⟩ : ∃ q : Str, Hid (q = pre ++ mlines reqW (mdF k P V)) := ⟨_, Lib.hid rfl⟩
        have hml := mlines_len_le 1000000 reqW (mdF k P V) (fun m hm => by
          simp only [mdF, List.mem_map, List.mem_range] at hm
          obtain ⟨j, hj, rfl⟩ := hm
          have := HP1.out j hj
          rw [← size_eq, ← size_eq]
          exact this)
        rw [mdF_length, show (reqW : Str).length = 7 from rfl] at hml
        have hmul2 := Nat.mul_le_mul_right (7 + 2 * 1000000 + 3) hr20
        have hpl2 : pre2.length ≤ 50000000 := by rw [hpre2.out, List.length_append]; omega
        rw [← hpre2.out] at hba
        clear hml hmul2 hlt
        obtain ⟨z0, z1, z2⟩ := hz.below hB1
        generalize wr = w2 at hba hB1 hB2 z0 z1 z2 ⊢
        go_wp2_with fail
        go_loopw [36] (fun i wr => ∃ k : Nat, k ≤ m ∧ i = .int .i64 k ∧ BAt w1.heap.size w1.heap.size (pre2 ++ mlines excW ((mdF m Q U).take k)) wr ∧ Below w1.heap.size w1 wr) (fun i _ => m - (intOf i).toNat)
        case atStart => exact ⟨0, Nat.zero_le _, rfl, by simpa [mlines_nil] using hba, hB1⟩
        case round =>
          obtain ⟨k, hk, rfl, hba, hB1⟩ := hrel
          have hB2 := hB1
          by_cases hlt : k < m
          · obtain ⟨b1, o1, rfl, c1, c2⟩ := HC2.out k hlt
            replace c1 := Below.cell_some hB2 (Below.cell_some hBw1 c1)
            replace c2 := Below.cell_some hB2 (Below.cell_some hBw1 c2)
            have hps := HP2.out k hlt
            have hml := mlines_len_le 1000000 excW ((mdF m Q U).take k) (fun m hm => by
              have hm' := List.mem_of_mem_take hm
              simp only [mdF, List.mem_map, List.mem_range] at hm'
              obtain ⟨j, hj, rfl⟩ := hm'
              have := HP2.out j hj
              rw [← size_eq, ← size_eq]
              exact this)
            rw [List.length_take, mdF_length, Nat.min_eq_left hk, show (excW : Str).length = 7 from rfl] at hml
            have hmul := Nat.mul_le_mul_right (7 + 2 * 1000000 + 3) hk
            have hmul2 := Nat.mul_le_mul_right (7 + 2 * 1000000 + 3) hx20
            have hws := fun W (h : BAt w1.heap.size w1.heap.size (pre2 ++ mlines excW ((mdF m Q U).take k)) W) (hB : w1.heap.size ≤ W.heap.size) => writeS_calls w1.heap.size w1.heap.size _ (⟨#[101, 120, 99, 108, 117, 100, 101, 32]⟩ ++ Q k ++ ⟨#[32]⟩ ++ U k ++ ⟨#[10]⟩) W h (by rw [app_size, app_size, app_size, app_size, List.length_append]; show _ + (8 + (Q k).size + 1 + (U k).size + 1) ≤ _; omega) hB
            have htx : pre2 ++ mlines excW ((mdF m Q U).take k) ++ ((⟨#[101, 120, 99, 108, 117, 100, 101, 32]⟩ : ByteArray) ++ Q k ++ ⟨#[32]⟩ ++ U k ++ ⟨#[10]⟩).data.toList = pre2 ++ mlines excW ((mdF m Q U).take (k + 1)) := by
              rw [mdF_take_succ _ _ _ k hlt, mlines_snoc, app_by, app_by, app_by, app_by]
              simp [mline, excW]
            have HTX := Lib.hid htx
            have hBa := hB1.alloc (w := wr) (by have := hB1.size; omega) (.cells #[.string (Q k), .string (U k)] 26)
            have hbaa := hba.below (below_alloc wr (.cells #[.string (Q k), .string (U k)] 26))
            replace hws := Lib.hid hws
            clear htx hml hmul hmul2 hba
            go_wp2_with fail
            refine (hws.out _ hbaa (by have := hBa.size; omega)).mono ?_
            rintro e w3 ⟨rfl, hba, hb3⟩
            rw [HTX.out] at hba
            go_wp2_with fail
            go_roundw
            case rel => exact ⟨k + 1, by omega, by go_num, hba, hBa.trans hb3⟩
            case measure => simp [intOf]; omega
          · obtain rfl : k = m := by omega
            rw [List.take_of_length_le (by rw [mdF_length]; exact Nat.le_refl _)] at hba
            have hne : pre2 ++ mlines excW (mdF k Q U) ≠ [] := by
              intro h
              have := congrArg List.length h
              rw [hpre2.out, hpre.out] at this
              simp [modW] at this
            have hst := stringB_calls w1.heap.size w1.heap.size _ wr hba hne
            have HT : Hid (fileText ⟨path.data.toList, _, _⟩ = pre2 ++ mlines excW (mdF k Q U)) := Lib.hid (by rw [HF.out, hpre2.out, hpre.out]; simp [fileTxt])
            replace hst := Lib.hid hst
            clear hba hne
            go_wp2_with fail
            refine hst.out.mono ?_
            rintro e w3 ⟨rfl, hb3⟩
            go_wp2_with fail
            go_ret
            rw [HT.out]
            exact ⟨rfl, below_step hBw1 (hB1.trans hb3)⟩
  · have HF : Hid (fileText ⟨path.data.toList, mdF n P V, mdF m Q U⟩ = []) := Lib.hid (if_neg h0)
    have H0 := Lib.hid h0
    clear h0
    go_enter Tryz.func18, Tryz.ntmps18
    obtain ⟨z0, z1, z2⟩ := id hz
    go_wp2_with fail
    refine (hck.out _ hE hr hx).mono ?_
    rintro e w1 ⟨⟨v, rfl, hF⟩, hb⟩
    replace hB := below_step hB hb
    replace hz := hz.below hb
    clear hb
    rcases hF with h | h | ⟨_, bb, rfl, c3, c4⟩
    · exact absurd h.1 H0.out
    · obtain ⟨h1, h2, rfl⟩ := h
      rw [errV_pos A h1]
      go_wp2_with fail
      go_ret
      rw [HF.out]
      exact ⟨rfl, hB⟩
    · clear c3 c4
      go_wp2_with fail
      go_ret
      rw [HF.out]
      exact ⟨rfl, hB⟩
end Go.Proofs.Pw

/- file.line. Conditions: texts of at most 1000000 bytes. -/
namespace Go.Proofs.Pw
open Go.RowKit
open Go.Lib hiding intOf

/-- a file that is being read: its box, and two rows of its own -/
structure FS (base b : Nat) (w : World) (p : ByteArray) (R X : List (ByteArray × ByteArray)) (rv xv : Value) : Prop where
  box : Box3f w b (.string p) rv xv
  le : base ≤ b
  r : w.ownsRow base 26 2 rv R.length (mdVs R)
  x : w.ownsRow base 26 2 xv X.length (mdVs X)
  nr : rv.ownBlock ≠ some b
  nx : xv.ownBlock ≠ some b
  ap : ∀ k, rv.ownBlock = some k → xv.ownBlock ≠ some k
theorem FS.below {base b : Nat} {w w' : World} {p : ByteArray} {R X : List (ByteArray × ByteArray)} {rv xv : Value} (h : FS base b w p R X rv xv) (hb : Below w.heap.size w w') : FS base b w' p R X rv xv :=
  ⟨h.box.below hb, h.le, ownsRow_kept h.r hb, ownsRow_kept h.x hb, h.nr, h.nx, h.ap⟩
def flOf (p : ByteArray) (R X : List (ByteArray × ByteArray)) : Fl := ⟨p.data.toList, mdTs R, mdTs X⟩
theorem Box3f.set0 {w : World} {b : Nat} {v0 v1 v2 : Value} (h : Box3f w b v0 v1 v2) (v : Value) : Box3f (w.setCell ⟨b, 0, none⟩ v) b v v1 v2 :=
  ⟨set_same v h.c0, by rw [set_off v (by decide)]; exact h.c1, by rw [set_off v (by decide)]; exact h.c2, fun i => by simp [h.fz i]⟩
theorem mdTs_snoc (l : List (ByteArray × ByteArray)) (x y : ByteArray) : mdTs (l ++ [(x, y)]) = mdTs l ++ [(x.data.toList, y.data.toList)] := by simp [mdTs]
theorem lineF_three {f : Fl} {s : Str} {i : Nat} (hi : i ≠ 0) {a b c : Str} (h : split s [32] = [a, b, c]) : lineF f s i = if a = reqW ∧ f.excl = [] then (true, { f with reqs := f.reqs ++ [(b, c)] }) else if a = excW then (true, { f with excl := f.excl ++ [(b, c)] }) else (false, f) := by
  unfold lineF
  rw [if_neg hi, h]
theorem lineF_not {f : Fl} {s : Str} {i : Nat} (hi : i ≠ 0) (h : (split s [32]).length ≠ 3) : (lineF f s i).1 = false := by
  unfold lineF
  rw [if_neg hi]
  split
  · rename_i e
    rw [e] at h
    exact absurd rfl h
  · rfl

theorem box_grown {w1 w7 : World} {o : Obj} {b : Nat} {v0 v1 v2 : Value} {row : Option Nat} (h : Box3f w1 b v0 v1 v2) (hg : (w1.drew.alloc o).grownBy w7 row) (hne : some b ≠ row) : Box3f w7 b v0 v1 v2 := by
  have hb : b < w1.heap.size := lt_of_cell h.c0
  have hl : ∀ k, (⟨b, k, none⟩ : Addr).block < (w1.drew.alloc o).heap.size := fun k => by simp; omega
  have ha := below_alloc w1.drew o
  have h' : Box3f w1.drew b v0 v1 v2 := ⟨h.c0, h.c1, h.c2, h.fz⟩
  have h2 := h'.below ha
  exact ⟨(hg.cell_far ⟨b, 0, none⟩ (hl 0) hne).trans h2.c0, (hg.cell_far ⟨b, 1, none⟩ (hl 1) hne).trans h2.c1, (hg.cell_far ⟨b, 2, none⟩ (hl 2) hne).trans h2.c2, fun i => (hg.frozen_far ⟨b, i, none⟩ (hl i) hne).trans (h2.fz i)⟩

set_option maxHeartbeats 2000000 in
set_option maxRecDepth 100000 in
theorem line_req (base b : Nat) (p : ByteArray) (R : List (ByteArray × ByteArray)) (rv : Value) (s : ByteArray) (i : Nat) (w : World) (hE : EnvM w) (h : FS base b w p R [] rv (.slice none 0 0)) (hi : i ≠ 0) (hR : R.length ≤ 100000) (hs : s.size ≤ 1000000) (x y : Str) (hsp : split s.data.toList [32] = [reqW, x, y]) :
    Calls Tryz.prog 76 #[.pointer (some ⟨b, 0, none⟩), .string s, .int .i64 i] w fun e w' => e = .returned (.bool true) ∧ Below base w w' ∧ ∃ (x' y' : ByteArray) (rv' : Value), x'.data.toList = x ∧ y'.data.toList = y ∧ FS base b w' p (R ++ [(x', y')]) [] rv' (.slice none 0 0) := by
  obtain ⟨i0, hi0, hz0, hz1, hz2⟩ := info_parts Tryz.infoMod
  have hbw : b < w.heap.size := lt_of_cell h.box.c0
  have hbase : base ≤ w.heap.size := Nat.le_trans h.le (Nat.le_of_lt hbw)
  have hi2 : ((i : Int) == 0) = false := beq_eq_false_iff_ne.2 (by omega)
  have hspl := split_calls s ⟨#[32]⟩ w hE (by omega) (by decide)
  replace hspl := Lib.hid hspl
  replace h := Lib.hid h
  go_enter Tryz.func76, Tryz.ntmps76
  go_wp2_with fail
  refine hspl.out.mono ?_
  rintro e w1 ⟨n, rfl, hn1, hn2, HL, hb1, hc1, hz1'⟩
  have hL : lstF n (splitL s ⟨#[32]⟩) = [reqW, x, y] := HL.out.trans hsp
  obtain rfl : n = 3 := by have := congrArg List.length hL; rwa [lstF_length] at this
  have h0 := lstF_get 3 (splitL s ⟨#[32]⟩) 0 (by decide)
  have h1 := lstF_get 3 (splitL s ⟨#[32]⟩) 1 (by decide)
  have h2 := lstF_get 3 (splitL s ⟨#[32]⟩) 2 (by decide)
  rw [hL] at h0 h1 h2
  have c0 := hc1 0 (by decide)
  have c1 := hc1 1 (by decide)
  have c2 := hc1 2 (by decide)
  generalize splitL s ⟨#[32]⟩ 1 = x' at h1 c1
  generalize splitL s ⟨#[32]⟩ 2 = y' at h2 c2
  have hx' : x'.data.toList = x := (Option.some.inj h1).symm
  have hy' : y'.data.toList = y := (Option.some.inj h2).symm
  have hr0 : splitL s ⟨#[32]⟩ 0 = ⟨#[114, 101, 113, 117, 105, 114, 101]⟩ := bytes_eq.1 (Option.some.inj h0).symm
  rw [hr0] at c0
  have H1 := (h.out).below hb1
  have HH := Lib.hid H1
  obtain ⟨⟨z0, z1, z2, zf⟩, _, hr, _, hnr, _, _⟩ := id H1
  have hzf1 := zf 1
  have hbw1 : b < w1.heap.size := lt_of_cell z1
  have hbs1 : base ≤ w1.heap.size := Nat.le_trans hbase hb1.size
  clear HL hL h0 h1 h2 hr0 hc1 zf hspl
  go_wp2_with fail
  go_region_law (refine step_append_lies _ rfl (.tmp 52) (.tmp 60) 22 rfl base 26 i0 (.agg #[.string ⟨#[]⟩, .string ⟨#[]⟩]) 2 32 Tryz.underlying22 hi0 hz0 hz1 hz2 rfl (by decide) rv R.length (mdVs R) (by simp [Act.eval]) (hr.drew.alloc _) ⟨w1.heap.size, 0, none⟩ 1 1 [.string x', .string y'] (by simp [Act.eval]) rfl (cell_two_new w1.drew x' y' _) (fun u hu => by simp at hu; rcases hu with rfl | rfl <;> rfl) (by decide) (by unfold maxLen; omega) (by omega) (by simp; omega) _ rfl ?_; intro g7 c7 w7 hown7 hgrow7 hg7 hl7; have hbx := box_grown HH.out.box hgrow7 (fun e => hnr e.symm); have k1 := hbx.c1; have k2 := hbx.fz 1)
  all_goals
    have hgb : g7 ≠ b := by
      rcases hg7 with e | e
      · exact fun e2 => hnr (by rw [e, e2])
      · simp at e; omega
    have hBel : Below base w w7 := (((hb1.mono hbase).drew).alloc (by simp; omega) _).grown hgrow7 (by simp; omega) (fun q hq => (hr.lt q hq).1)
    have hFS : FS base b (w7.setCell ⟨b, 1, none⟩ (.slice (some ⟨g7, 0, none⟩) (R.length + 1) c7)) p (R ++ [(x', y')]) [] (.slice (some ⟨g7, 0, none⟩) (R.length + 1) c7) (.slice none 0 0) :=
      ⟨hbx.set1 _, HH.out.le, by
        rw [List.length_append, ← mdVs_snoc]
        exact ownsRow_set hown7 (by rw [show (Value.slice (some ⟨g7, 0, none⟩) (R.length + 1) c7).ownBlock = some g7 from rfl]; exact fun e => hgb (Option.some.inj e)) _, World.ownsRow_nil _ _ _ _, fun e => hgb (Option.some.inj e), fun e => (by cases e), fun k _ e => (by cases e)⟩
    have HFS := Lib.hid hFS
    clear hFS hbx
    go_wp2_with fail
    go_ret
    exact ⟨rfl, hBel.setCell (p := ⟨b, 1, none⟩) HH.out.le _, x', y', _, hx', hy', HFS.out⟩

set_option maxHeartbeats 2000000 in
set_option maxRecDepth 100000 in
theorem line_exc (base b : Nat) (p : ByteArray) (R X : List (ByteArray × ByteArray)) (rv xv : Value) (s : ByteArray) (i : Nat) (w : World) (hE : EnvM w) (h : FS base b w p R X rv xv) (hi : i ≠ 0) (hX : X.length ≤ 100000) (hs : s.size ≤ 1000000) (x y : Str) (hsp : split s.data.toList [32] = [excW, x, y]) :
    Calls Tryz.prog 76 #[.pointer (some ⟨b, 0, none⟩), .string s, .int .i64 i] w fun e w' => e = .returned (.bool true) ∧ Below base w w' ∧ ∃ (x' y' : ByteArray) (xv' : Value), x'.data.toList = x ∧ y'.data.toList = y ∧ FS base b w' p R (X ++ [(x', y')]) rv xv' := by
  obtain ⟨i0, hi0, hz0, hz1, hz2⟩ := info_parts Tryz.infoMod
  have hbw : b < w.heap.size := lt_of_cell h.box.c0
  have hbase : base ≤ w.heap.size := Nat.le_trans h.le (Nat.le_of_lt hbw)
  have hi2 : ((i : Int) == 0) = false := beq_eq_false_iff_ne.2 (by omega)
  have hspl := split_calls s ⟨#[32]⟩ w hE (by omega) (by decide)
  replace hspl := Lib.hid hspl
  replace h := Lib.hid h
  go_enter Tryz.func76, Tryz.ntmps76
  go_wp2_with fail
  refine hspl.out.mono ?_
  rintro e w1 ⟨n, rfl, hn1, hn2, HL, hb1, hc1, hz1'⟩
  have hL : lstF n (splitL s ⟨#[32]⟩) = [excW, x, y] := HL.out.trans hsp
  obtain rfl : n = 3 := by have := congrArg List.length hL; rwa [lstF_length] at this
  have h0 := lstF_get 3 (splitL s ⟨#[32]⟩) 0 (by decide)
  have h1 := lstF_get 3 (splitL s ⟨#[32]⟩) 1 (by decide)
  have h2 := lstF_get 3 (splitL s ⟨#[32]⟩) 2 (by decide)
  rw [hL] at h0 h1 h2
  have c0 := hc1 0 (by decide)
  have c1 := hc1 1 (by decide)
  have c2 := hc1 2 (by decide)
  generalize splitL s ⟨#[32]⟩ 1 = x' at h1 c1
  generalize splitL s ⟨#[32]⟩ 2 = y' at h2 c2
  have hx' : x'.data.toList = x := (Option.some.inj h1).symm
  have hy' : y'.data.toList = y := (Option.some.inj h2).symm
  have hr0 : splitL s ⟨#[32]⟩ 0 = ⟨#[101, 120, 99, 108, 117, 100, 101]⟩ := bytes_eq.1 (Option.some.inj h0).symm
  rw [hr0] at c0
  have H1 := (h.out).below hb1
  have HH := Lib.hid H1
  obtain ⟨⟨z0, z1, z2, zf⟩, _, hr, hxr, hnr, hnx, _⟩ := id H1
  have hzf1 := zf 2
  have hbw1 : b < w1.heap.size := lt_of_cell z1
  have hbs1 : base ≤ w1.heap.size := Nat.le_trans hbase hb1.size
  clear HL hL h0 h1 h2 hr0 hc1 zf hspl z1
  go_wp2_with fail
  go_region_law (refine step_append_lies _ rfl (.tmp 73) (.tmp 81) 22 rfl base 26 i0 (.agg #[.string ⟨#[]⟩, .string ⟨#[]⟩]) 2 32 Tryz.underlying22 hi0 hz0 hz1 hz2 rfl (by decide) xv X.length (mdVs X) (by simp [Act.eval]) (hxr.drew.alloc _) ⟨w1.heap.size, 0, none⟩ 1 1 [.string x', .string y'] (by simp [Act.eval]) rfl (cell_two_new w1.drew x' y' _) (fun u hu => by simp at hu; rcases hu with rfl | rfl <;> rfl) (by decide) (by unfold maxLen; omega) (by omega) (by simp; omega) _ rfl ?_; intro g7 c7 w7 hown7 hgrow7 hg7 hl7; have hbx := box_grown HH.out.box hgrow7 (fun e => hnx e.symm); have k1 := hbx.c2; have k2 := hbx.fz 2)
  all_goals
    have hgb : g7 ≠ b := by
      rcases hg7 with e | e
      · exact fun e2 => hnx (by rw [e, e2])
      · simp at e; omega
    have hBel : Below base w w7 := (((hb1.mono hbase).drew).alloc (by simp; omega) _).grown hgrow7 (by simp; omega) (fun q hq => (hxr.lt q hq).1)
    have hr7 : w7.ownsRow base 26 2 rv R.length (mdVs R) := (hr.drew.alloc _).kept hgrow7 (apart_row (fun k hk e => HH.out.ap k e hk))
    have hap7 : ∀ k, rv.ownBlock = some k → k ≠ g7 := fun k hk e => by
      subst e
      rcases hg7 with e | e
      · exact HH.out.ap _ hk e
      · have := (hr.lt _ hk).2
        simp at e
        omega
    have hFS : FS base b (w7.setCell ⟨b, 2, none⟩ (.slice (some ⟨g7, 0, none⟩) (X.length + 1) c7)) p R (X ++ [(x', y')]) rv (.slice (some ⟨g7, 0, none⟩) (X.length + 1) c7) :=
      ⟨hbx.set2 _, HH.out.le, ownsRow_set hr7 hnr _, by
        rw [List.length_append, ← mdVs_snoc]
        exact ownsRow_set hown7 (by rw [show (Value.slice (some ⟨g7, 0, none⟩) (X.length + 1) c7).ownBlock = some g7 from rfl]; exact fun e => hgb (Option.some.inj e)) _, hnr, fun e => hgb (Option.some.inj e), fun k hk e => hap7 k hk (Option.some.inj e).symm⟩
    have HFS := Lib.hid hFS
    clear hFS hbx
    go_wp2_with fail
    go_ret
    exact ⟨rfl, hBel.setCell (p := ⟨b, 2, none⟩) HH.out.le _, x', y', _, hx', hy', HFS.out⟩

set_option maxHeartbeats 2000000 in
set_option maxRecDepth 100000 in
theorem line_count (base b : Nat) (p : ByteArray) (R X : List (ByteArray × ByteArray)) (rv xv : Value) (s : ByteArray) (i : Nat) (w : World) (hE : EnvM w) (h : FS base b w p R X rv xv) (hi : i ≠ 0) (hs : s.size ≤ 1000000) (hsp : (split s.data.toList [32]).length ≠ 3) :
    Calls Tryz.prog 76 #[.pointer (some ⟨b, 0, none⟩), .string s, .int .i64 i] w fun e w' => e = .returned (.bool false) ∧ Below base w w' := by
  obtain ⟨i0, hi0, hz0, hz1, hz2⟩ := info_parts Tryz.infoMod
  have hbw : b < w.heap.size := lt_of_cell h.box.c0
  have hbase : base ≤ w.heap.size := Nat.le_trans h.le (Nat.le_of_lt hbw)
  have hspl := split_calls s ⟨#[32]⟩ w hE (by omega) (by decide)
  replace hspl := Lib.hid hspl
  replace h := Lib.hid h
  have hi2 : ((i : Int) == 0) = false := beq_eq_false_iff_ne.2 (by omega)
  go_enter Tryz.func76, Tryz.ntmps76
  go_wp2_with fail
  refine hspl.out.mono ?_
  rintro e w1 ⟨n, rfl, hn1, hn2, HL, hb1, hc1, hz1'⟩
  have hn3 : n ≠ 3 := by
    have := HL.out
    rw [← this, lstF_length] at hsp
    exact hsp
  have hn4 : ((n : Int) == 3) = false := beq_eq_false_iff_ne.2 (by omega)
  have hn5 : ((n : Int) != 3) = true := by unfold bne; rw [hn4]; rfl
  clear hsp HL hc1
  go_wp2_with fail
  go_ret
  exact ⟨rfl, hb1.mono hbase⟩
end Go.Proofs.Pw

/- file.line: lines that are refused; the first line; all. Conditions: texts of at most 1000000 bytes. -/
namespace Go.Proofs.Pw
open Go.RowKit
open Go.Lib hiding intOf

theorem lit_ne {x : ByteArray} {l : Str} {q : ByteArray} (hq : q.data.toList = l) (h : x.data.toList ≠ l) : (x.toList == q.toList) = false ∧ x.toList ≠ q.toList ∧ x ≠ q := by
  refine ⟨?_, ?_, fun e => h (by rw [e, hq])⟩
  · rw [toList_data, toList_data, hq]; exact beq_eq_false_iff_ne.2 h
  · rw [toList_data, toList_data, hq]; exact h
theorem lit_ne' {x : ByteArray} {l : Str} (h : x.data.toList ≠ l) : (x.toList == l) = false ∧ x.toList ≠ l := by
  refine ⟨?_, ?_⟩
  · rw [toList_data]; exact beq_eq_false_iff_ne.2 h
  · rw [toList_data]; exact h

set_option maxHeartbeats 2000000 in
set_option maxRecDepth 100000 in
/-- three words of which the first says nothing -/
theorem line_none (base b : Nat) (p : ByteArray) (R X : List (ByteArray × ByteArray)) (rv xv : Value) (s : ByteArray) (i : Nat) (w : World) (hE : EnvM w) (h : FS base b w p R X rv xv) (hi : i ≠ 0) (hs : s.size ≤ 1000000) (a x y : Str) (hsp : split s.data.toList [32] = [a, x, y]) (h1 : a ≠ reqW ∨ X ≠ []) (h2 : a ≠ excW) :
    Calls Tryz.prog 76 #[.pointer (some ⟨b, 0, none⟩), .string s, .int .i64 i] w fun e w' => e = .returned (.bool false) ∧ Below base w w' := by
  have hi2 : ((i : Int) == 0) = false := beq_eq_false_iff_ne.2 (by omega)
  have hbw : b < w.heap.size := lt_of_cell h.box.c0
  have hbase : base ≤ w.heap.size := Nat.le_trans h.le (Nat.le_of_lt hbw)
  have hspl := split_calls s ⟨#[32]⟩ w hE (by omega) (by decide)
  have hxc := h.x.2
  replace hspl := Lib.hid hspl
  replace h := Lib.hid h
  by_cases hr : a = reqW
  · subst hr
    have hX : X ≠ [] := h1.resolve_left (fun h => h rfl)
    rcases hxc with ⟨_, hn⟩ | ⟨g, c, cur, rfl, _⟩
    · exact absurd (List.eq_nil_of_length_eq_zero hn) hX
    · have hXn : ((X.length : Int) == 0) = false := beq_eq_false_iff_ne.2 (by have := List.length_pos_iff.2 hX; omega)
      go_enter Tryz.func76, Tryz.ntmps76
      go_wp2_with fail
      refine hspl.out.mono ?_
      rintro e w1 ⟨n, rfl, hn1, hn2, HL, hb1, hc1, hz1'⟩
      have hL : lstF n (splitL s ⟨#[32]⟩) = [reqW, x, y] := HL.out.trans hsp
      obtain rfl : n = 3 := by have := congrArg List.length hL; rwa [lstF_length] at this
      have h0 := lstF_get 3 (splitL s ⟨#[32]⟩) 0 (by decide)
      rw [hL] at h0
      have c0 := hc1 0 (by decide)
      have hr0 : splitL s ⟨#[32]⟩ 0 = ⟨#[114, 101, 113, 117, 105, 114, 101]⟩ := bytes_eq.1 (Option.some.inj h0).symm
      rw [hr0] at c0
      obtain ⟨z0, z1, z2, zf⟩ := (h.out).box.below hb1
      clear HL hL h0 hr0 hc1 zf h1 h2
      go_wp2_with fail
      go_ret
      exact ⟨rfl, hb1.mono hbase⟩
  ·
    go_enter Tryz.func76, Tryz.ntmps76
    go_wp2_with fail
    refine hspl.out.mono ?_
    rintro e w1 ⟨n, rfl, hn1, hn2, HL, hb1, hc1, hz1'⟩
    have hL : lstF n (splitL s ⟨#[32]⟩) = [a, x, y] := HL.out.trans hsp
    obtain rfl : n = 3 := by have := congrArg List.length hL; rwa [lstF_length] at this
    have h0 := lstF_get 3 (splitL s ⟨#[32]⟩) 0 (by decide)
    rw [hL] at h0
    have c0 := hc1 0 (by decide)
    generalize splitL s ⟨#[32]⟩ 0 = q at h0 c0
    have hq : q.data.toList = a := (Option.some.inj h0).symm
    obtain ⟨e1, e2⟩ := lit_ne' (x := q) (l := [114, 101, 113, 117, 105, 114, 101]) (by rw [hq]; exact hr)
    obtain ⟨e3, e4⟩ := lit_ne' (x := q) (l := [101, 120, 99, 108, 117, 100, 101]) (by rw [hq]; exact h2)
    clear HL hL h0 hc1 h1 h2 hr hq
    go_wp2_with fail
    go_ret
    exact ⟨rfl, hb1.mono hbase⟩

set_option maxHeartbeats 2000000 in
set_option maxRecDepth 100000 in
/-- the first line -/
theorem line_first (base b : Nat) (p : ByteArray) (R X : List (ByteArray × ByteArray)) (rv xv : Value) (s : ByteArray) (w : World) (hE : EnvM w) (h : FS base b w p R X rv xv) (hs : s.size ≤ 1000000) :
    Calls Tryz.prog 76 #[.pointer (some ⟨b, 0, none⟩), .string s, .int .i64 0] w fun e w' => e = .returned (.bool (lineF (flOf p R X) s.data.toList 0).1) ∧ Below base w w' ∧ ∃ p' : ByteArray, p'.data.toList = (split s.data.toList [32]).getLast?.getD [] ∧ FS base b w' p' R X rv xv := by
  have hbw : b < w.heap.size := lt_of_cell h.box.c0
  have hbase : base ≤ w.heap.size := Nat.le_trans h.le (Nat.le_of_lt hbw)
  have hspl := split_calls s ⟨#[32]⟩ w hE (by omega) (by decide)
  have hlf : (lineF (flOf p R X) s.data.toList 0).1 = decide ((split s.data.toList [32]).length = 2 ∧ (split s.data.toList [32]).head? = some modW) := rfl
  have HLF := Lib.hid hlf
  replace hspl := Lib.hid hspl
  replace h := Lib.hid h
  clear hlf
  go_enter Tryz.func76, Tryz.ntmps76
  go_wp2_with fail
  refine hspl.out.mono ?_
  rintro e w1 ⟨n, rfl, hn1, hn2, HL, hb1, hc1, hz1'⟩
  have H1 := (h.out).below hb1
  have HH := Lib.hid H1
  obtain ⟨⟨z0, z1, z2, zf⟩, _, hr, hxr, hnr, hnx, _⟩ := id H1
  have zf0 := zf 0
  have hbb : w.heap.size ≠ b := by omega
  have hbb2 : b ≠ w.heap.size := by omega
  obtain ⟨k, rfl⟩ : ∃ k, n = k + 1 := ⟨n - 1, by omega⟩
  have ck := hc1 k (by omega)
  have c0 := hc1 0 (by omega)
  have hk1 : ((k + 1 : Nat) : Int) - 1 = (k : Int) := by omega
  have hlast : (splitL s ⟨#[32]⟩ k).data.toList = (split s.data.toList [32]).getLast?.getD [] := by
    have := HL.out
    rw [← this, getLast_lstF (k + 1) _ (by omega)]
    rfl
  have hres : decide ((split s.data.toList [32]).length = 2 ∧ (split s.data.toList [32]).head? = some modW) = decide (k = 1 ∧ (splitL s ⟨#[32]⟩ 0).data.toList = modW) := by
    have := HL.out
    rw [← this, lstF_length]
    have hh : (lstF (k + 1) (splitL s ⟨#[32]⟩)).head? = some (splitL s ⟨#[32]⟩ 0).data.toList := by
      rw [List.head?_eq_getElem?, lstF_get _ _ 0 (by omega)]
    rw [hh, decide_eq_decide]
    constructor
    · rintro ⟨e1, e2⟩; exact ⟨by omega, Option.some.inj e2⟩
    · rintro ⟨e1, e2⟩; exact ⟨by omega, by rw [e2]⟩
  have HRES := Lib.hid (HLF.out.trans hres)
  have HLAST := Lib.hid hlast
  have hFS : ∀ u : ByteArray, FS base b (w1.setCell ⟨b, 0, none⟩ (.string u)) u R X rv xv := fun u => ⟨HH.out.box.set0 _, HH.out.le, ownsRow_set hr hnr _, ownsRow_set hxr hnx _, hnr, hnx, HH.out.ap⟩
  have HFS := Lib.hid hFS
  have hBel : ∀ u : Value, Below base w (w1.setCell ⟨b, 0, none⟩ u) := fun u => (hb1.mono hbase).setCell (p := ⟨b, 0, none⟩) HH.out.le u
  have HB := Lib.hid hBel
  clear hFS hBel hlast hres HL hc1 hr hxr hnr hnx zf HLF
  by_cases hk : k = 1
  · subst hk
    by_cases hm : (splitL s ⟨#[32]⟩ 0).data.toList = modW
    · have e0 : splitL s ⟨#[32]⟩ 0 = ⟨#[109, 111, 100, 117, 108, 101]⟩ := bytes_eq.1 hm
      rw [e0] at c0
      have HT : Hid ((lineF (flOf p R X) s.data.toList 0).1 = true) := Lib.hid (HRES.out.trans (decide_eq_true ⟨rfl, hm⟩))
      clear hm e0 HRES
      generalize splitL s ⟨#[32]⟩ 1 = u at ck HLAST
      go_wp2_with fail
      go_ret
      rw [HT.out]
      exact ⟨rfl, HB.out _, u, HLAST.out, HFS.out u⟩
    · have HT : Hid ((lineF (flOf p R X) s.data.toList 0).1 = false) := Lib.hid (HRES.out.trans (decide_eq_false (fun h => hm h.2)))
      obtain ⟨e1, e2⟩ := lit_ne' (x := splitL s ⟨#[32]⟩ 0) (l := [109, 111, 100, 117, 108, 101]) hm
      clear hm HRES
      generalize splitL s ⟨#[32]⟩ 1 = u at ck HLAST
      generalize splitL s ⟨#[32]⟩ 0 = u0 at c0 e1 e2
      go_wp2_with fail
      go_ret
      rw [HT.out]
      exact ⟨rfl, HB.out _, u, HLAST.out, HFS.out u⟩
  · have HT : Hid ((lineF (flOf p R X) s.data.toList 0).1 = false) := Lib.hid (HRES.out.trans (decide_eq_false (fun h => hk h.1)))
    have hk2 : (((k + 1 : Nat) : Int) == 2) = false := beq_eq_false_iff_ne.2 (by omega)
    clear HRES c0
    generalize splitL s ⟨#[32]⟩ k = u at ck HLAST
    go_wp2_with fail
    go_ret
    rw [HT.out]
    exact ⟨rfl, HB.out _, u, HLAST.out, HFS.out u⟩
end Go.Proofs.Pw

/- file.line, every line. Conditions: texts of at most 1000000 bytes. -/
namespace Go.Proofs.Pw
open Go.RowKit
open Go.Lib hiding intOf

/-- all texts are of at most c bytes -/
def ShortB (c : Nat) (p : ByteArray) (R X : List (ByteArray × ByteArray)) : Prop := p.size ≤ c ∧ (∀ m ∈ R, m.1.size ≤ c ∧ m.2.size ≤ c) ∧ ∀ m ∈ X, m.1.size ≤ c ∧ m.2.size ≤ c
theorem shortB_snoc {c : Nat} {R : List (ByteArray × ByteArray)} {x y : ByteArray} (h : ∀ m ∈ R, m.1.size ≤ c ∧ m.2.size ≤ c) (hx : x.size ≤ c) (hy : y.size ≤ c) : ∀ m ∈ R ++ [(x, y)], m.1.size ≤ c ∧ m.2.size ≤ c := by
  intro m hm
  rcases List.mem_append.1 hm with h1 | h1
  · exact h m h1
  · rw [List.mem_singleton.1 h1]; exact ⟨hx, hy⟩

theorem line_calls (base b c : Nat) (p : ByteArray) (R X : List (ByteArray × ByteArray)) (rv xv : Value) (s : ByteArray) (i : Nat) (w : World) (hE : EnvM w) (h : FS base b w p R X rv xv) (hx0 : X = [] → xv = .slice none 0 0) (hR : R.length ≤ 100000) (hX : X.length ≤ 100000) (hs : s.size ≤ c) (hc : c ≤ 1000000) (hsh : ShortB c p R X) :
    Calls Tryz.prog 76 #[.pointer (some ⟨b, 0, none⟩), .string s, .int .i64 i] w fun e w' => e = .returned (.bool (lineF (flOf p R X) s.data.toList i).1) ∧ Below base w w' ∧
      ((lineF (flOf p R X) s.data.toList i).1 = true → ∃ p' R' X' rv' xv', flOf p' R' X' = (lineF (flOf p R X) s.data.toList i).2 ∧ FS base b w' p' R' X' rv' xv' ∧ (X' = [] → xv' = .slice none 0 0) ∧ R'.length ≤ R.length + 1 ∧ X'.length ≤ X.length + 1 ∧ ShortB c p' R' X') := by
  have hmem : ∀ x ∈ split s.data.toList [32], x.length ≤ c := fun x hx => by
    have := split_mem_le [32] (by simp) s.data.toList.length s.data.toList (Nat.le_refl _) x hx
    rw [← size_eq] at this
    omega
  by_cases hi : i = 0
  · subst hi
    refine (line_first base b p R X rv xv s w hE h (by omega)).mono ?_
    rintro e w' ⟨rfl, hB, p', hp, hF⟩
    refine ⟨rfl, hB, fun _ => ⟨p', R, X, rv, xv, ?_, hF, hx0, by omega, by omega, ?_, hsh.2⟩⟩
    · unfold flOf lineF
      rw [if_pos rfl, hp]
    · rw [size_eq, hp]
      cases hl : (split s.data.toList [32]).getLast? with
      | none => exact Nat.zero_le _
      | some x => exact hmem x (List.mem_of_getLast? hl)
  · by_cases h3 : (split s.data.toList [32]).length = 3
    · obtain ⟨a, x, y, e3⟩ : ∃ a x y, split s.data.toList [32] = [a, x, y] := by
        match hs : split s.data.toList [32], h3 with
        | [a, x, y], _ => exact ⟨a, x, y, rfl⟩
      have hlf := lineF_three (f := flOf p R X) hi e3
      have hxl : x.length ≤ c := hmem x (by rw [e3]; simp)
      have hyl : y.length ≤ c := hmem y (by rw [e3]; simp)
      by_cases h1 : a = reqW ∧ X = []
      · obtain ⟨rfl, rfl⟩ := h1
        obtain rfl := hx0 rfl
        have hle : (flOf p R []).excl = [] := rfl
        rw [if_pos ⟨rfl, hle⟩] at hlf
        refine (line_req base b p R rv s i w hE h hi hR (by omega) x y e3).mono ?_
        rintro e w' ⟨rfl, hB, x', y', rv', hx', hy', hF⟩
        rw [hlf]
        refine ⟨rfl, hB, fun _ => ⟨p, R ++ [(x', y')], [], rv', .slice none 0 0, ?_, hF, fun _ => rfl, by simp, by simp, hsh.1, ?_, hsh.2.2⟩⟩
        · unfold flOf
          rw [mdTs_snoc, hx', hy']
        · exact shortB_snoc hsh.2.1 (by rw [size_eq, hx']; exact hxl) (by rw [size_eq, hy']; exact hyl)
      · have hle : ¬ (a = reqW ∧ (flOf p R X).excl = []) := fun hh => h1 ⟨hh.1, by
          have := hh.2
          exact List.map_eq_nil_iff.1 this⟩
        rw [if_neg hle] at hlf
        by_cases h2 : a = excW
        · subst h2
          rw [if_pos rfl] at hlf
          refine (line_exc base b p R X rv xv s i w hE h hi hX (by omega) x y e3).mono ?_
          rintro e w' ⟨rfl, hB, x', y', xv', hx', hy', hF⟩
          rw [hlf]
          refine ⟨rfl, hB, fun _ => ⟨p, R, X ++ [(x', y')], rv, xv', ?_, hF, fun hh => by simp at hh, by omega, by simp, hsh.1, hsh.2.1, ?_⟩⟩
          · unfold flOf
            rw [mdTs_snoc, hx', hy']
          · exact shortB_snoc hsh.2.2 (by rw [size_eq, hx']; exact hxl) (by rw [size_eq, hy']; exact hyl)
        · rw [if_neg h2] at hlf
          refine (line_none base b p R X rv xv s i w hE h hi (by omega) a x y e3 (by
            by_cases ha : a = reqW
            · exact .inr (fun hX => h1 ⟨ha, hX⟩)
            · exact .inl ha) h2).mono ?_
          rintro e w' ⟨rfl, hB⟩
          rw [hlf]
          exact ⟨rfl, hB, fun hh => by cases hh⟩
    · have hlf := lineF_not (f := flOf p R X) hi h3
      refine (line_count base b p R X rv xv s i w hE h hi (by omega) h3).mono ?_
      rintro e w' ⟨rfl, hB⟩
      rw [hlf]
      exact ⟨rfl, hB, fun hh => by cases hh⟩
end Go.Proofs.Pw

/- file.Read. Conditions: texts of at most 1000000 bytes. -/
namespace Go.Proofs.Pw
open Go.RowKit
open Go.Lib hiding intOf

theorem readF_step {n i : Nat} {f : Fl} {s : Str} (h1 : ¬ (s = [] ∧ i ≠ 0)) (h2 : (cut s [10]).2.2 = true) (h3 : (lineF f (cut s [10]).1 i).1 = true) : readF (n + 1) f i s = readF n (lineF f (cut s [10]).1 i).2 (i + 1) (cut s [10]).2.1 := by
  rw [readF, if_neg h1, if_pos ⟨h2, h3⟩]
theorem readF_bad {n i : Nat} {f : Fl} {s : Str} (h1 : ¬ (s = [] ∧ i ≠ 0)) (h2 : ¬ ((cut s [10]).2.2 = true ∧ (lineF f (cut s [10]).1 i).1 = true)) : readF (n + 1) f i s = (noFl, some i) := by
  rw [readF, if_neg h1, if_neg h2]
theorem readF_end {n i : Nat} {f : Fl} (h : i ≠ 0) : readF (n + 1) f i [] = (f, none) := by
  rw [readF, if_pos ⟨rfl, h⟩]
theorem cut_first_len (s : Str) : (cut s [10]).1.length ≤ s.length := by
  by_cases hm : (10 : UInt8) ∈ s
  · obtain ⟨a, b, rfl, ha⟩ := mem_at hm
    rw [cut_at ha]; simp
  · rw [cut_no hm]; exact Nat.le_refl _
theorem fileRead_long {s : Str} (h : 8000 < s.length) : fileRead s = (noFl, 2, -1) := by unfold fileRead; rw [if_pos h]
theorem fileRead_bad {s : Str} {g : Fl} {k : Nat} (h : ¬ 8000 < s.length) (hr : readF (s.length + 1) noFl 0 s = (g, some k)) : fileRead s = (noFl, 1, (k : Int)) := by unfold fileRead; rw [if_neg h, hr]
theorem fileRead_err {s : Str} {g : Fl} (h : ¬ 8000 < s.length) (hr : readF (s.length + 1) noFl 0 s = (g, none)) (he : (fileErr g).1 ≠ 0) : fileRead s = (noFl, (fileErr g).1, -1) := by unfold fileRead; rw [if_neg h, hr]; simp only; rw [if_pos he]
theorem fileRead_ok {s : Str} {g : Fl} (h : ¬ 8000 < s.length) (hr : readF (s.length + 1) noFl 0 s = (g, none)) (he : (fileErr g).1 = 0) : fileRead s = (g, 0, -1) := by unfold fileRead; rw [if_neg h, hr]; simp only; rw [if_neg (by simp [he])]

theorem short_of {c : Nat} {R : List (ByteArray × ByteArray)} (h : ∀ m ∈ R, m.1.size ≤ c ∧ m.2.size ≤ c) (hc : c ≤ 1000000) (hl : R.length ≤ 1000000) : Short (mdTs R) := by
  refine ⟨by rw [mdTs_length]; exact hl, fun m hm => ?_⟩
  simp only [mdTs, List.mem_map] at hm
  obtain ⟨x, hx, rfl⟩ := hm
  have := h x hx
  rw [size_eq, size_eq] at this
  simp only
  omega

/-- what Read hands back -/
def ReadOut (A : Nat → Addr) (s : Str) (w : World) (e : Ending) (w' : World) : Prop :=
  (∃ (p : ByteArray) (r x ev : Value), e = .returned (.tuple #[.agg #[.string p, r, x], ev]) ∧ p.data.toList = (fileRead s).1.path ∧ ModsAt w' r (fileRead s).1.reqs ∧ ModsAt w' x (fileRead s).1.excl ∧ FaultAt A w' ev ((fileRead s).2.1, (fileRead s).2.2)) ∧ Below w.heap.size w w'

theorem bad_out {A : Nat → Addr} {w w3 : World} {k : Nat} {p : ByteArray} {v0 v1 v2 : Value} (hB : Below w.heap.size w w3) (hn : w.heap.size < w3.heap.size) (hp : p.data.toList = []) {b : Nat} (hb : b = w3.heap.size := by rfl) :
    (∃ (p' : ByteArray) (r x ev : Value), Ending.returned (.tuple #[.agg #[.string p, .slice none 0 0, .slice none 0 0], .iface 102 (.pointer (some ⟨b, 0, none⟩))]) = .returned (.tuple #[.agg #[.string p', r, x], ev]) ∧ p'.data.toList = (noFl, 1, (k : Int)).1.path ∧ ModsAt ((((w3.setCell ⟨w.heap.size, 0, none⟩ v0).setCell ⟨w.heap.size, 1, none⟩ v1).setCell ⟨w.heap.size, 2, none⟩ v2).alloc (.cells #[.int .i64 k, .iface 283 (.pointer (some (A 1)))] 104)).drew r (noFl, 1, (k : Int)).1.reqs ∧ ModsAt ((((w3.setCell ⟨w.heap.size, 0, none⟩ v0).setCell ⟨w.heap.size, 1, none⟩ v1).setCell ⟨w.heap.size, 2, none⟩ v2).alloc (.cells #[.int .i64 k, .iface 283 (.pointer (some (A 1)))] 104)).drew x (noFl, 1, (k : Int)).1.excl ∧ FaultAt A ((((w3.setCell ⟨w.heap.size, 0, none⟩ v0).setCell ⟨w.heap.size, 1, none⟩ v1).setCell ⟨w.heap.size, 2, none⟩ v2).alloc (.cells #[.int .i64 k, .iface 283 (.pointer (some (A 1)))] 104)).drew ev ((noFl, 1, (k : Int)).2.1, (noFl, 1, (k : Int)).2.2)) ∧
      Below w.heap.size w ((((w3.setCell ⟨w.heap.size, 0, none⟩ v0).setCell ⟨w.heap.size, 1, none⟩ v1).setCell ⟨w.heap.size, 2, none⟩ v2).alloc (.cells #[.int .i64 k, .iface 283 (.pointer (some (A 1)))] 104)).drew := by
  subst hb
  have key0 : ∀ W : World, W.heap.size = w3.heap.size → (W.alloc (.cells #[.int .i64 k, .iface 283 (.pointer (some (A 1)))] 104)).cell? ⟨w3.heap.size, 0, none⟩ = some (.int .i64 k) := fun W h => by rw [← h]; simp
  have key1 : ∀ W : World, W.heap.size = w3.heap.size → (W.alloc (.cells #[.int .i64 k, .iface 283 (.pointer (some (A 1)))] 104)).cell? ⟨w3.heap.size, 1, none⟩ = some (.iface 283 (.pointer (some (A 1)))) := fun W h => by rw [← h]; simp
  refine ⟨⟨p, _, _, _, rfl, hp, ModsAt.nil _, ModsAt.nil _, .inr (.inr ⟨Nat.one_ne_zero, w3.heap.size, rfl, ?_, ?_⟩)⟩, ?_⟩
  · refine key0 _ ?_; simp
  · refine key1 _ ?_; simp
  · exact ((((hB.setCell (p := ⟨w.heap.size, 0, none⟩) (Nat.le_refl _) _).setCell (p := ⟨w.heap.size, 1, none⟩) (Nat.le_refl _) _).setCell (p := ⟨w.heap.size, 2, none⟩) (Nat.le_refl _) _).alloc (by simp; omega) _).drew

set_option maxHeartbeats 4000000 in
set_option maxRecDepth 100000 in
theorem fileRead_calls (ks : List Nat) (A : Nat → Addr) (hks : FileKs ks) (s : ByteArray) (w : World) (hE : EnvP ks A w) (hs : s.size ≤ 1000000) :
    Calls Tryz.prog 20 #[.string s] w (ReadOut A s.data.toList w) := by
  have hb1 := below_alloc w (.cells #[.string ⟨#[]⟩, .slice none 0 0, .slice none 0 0] 24)
  have hy := box3f_alloc w (.string ⟨#[]⟩) (.slice none 0 0) (.slice none 0 0) 24
  have hE1 := hE.below hb1
  have hgl : 5 < w.heap.size := by
    have g := hE.errs.var 1 hE.has.1
    simp only [errG] at g
    exact lt_of_cell g
  by_cases h8 : 8000 < s.size
  · have h8' : (8000 : Int) < (s.size : Int) := by omega
    have HF := Lib.hid (fileRead_long (s := s.data.toList) (by rw [← size_eq]; exact h8))
    have g2 := hE1.errs.var 2 hE.has.2
    simp only [errG] at g2
    obtain ⟨y0, y1, y2, yf⟩ := id hy
    go_enter Tryz.func20, Tryz.ntmps20
    go_wp2_with fail
    go_region
    all_goals
      go_wp2_with fail
      refine bodyPost_ret (v := .tuple #[.agg #[.string ⟨#[]⟩, .slice none 0 0, .slice none 0 0], .iface 283 (.pointer (some (A 2)))]) (by simp [results, Tryz.results20, go_sem, *]) rfl ?_
      unfold ReadOut
      rw [HF.out]
      exact ⟨⟨⟨#[]⟩, .slice none 0 0, .slice none 0 0, _, rfl, rfl, ModsAt.nil _, ModsAt.nil _, .inr (.inl ⟨by decide, rfl, (errV_pos A (by decide)).symm⟩)⟩,
        hb1.drew⟩
  · have h8' : ¬ (8000 : Int) < (s.size : Int) := by omega
    have hl8 : ¬ 8000 < s.data.toList.length := by rw [← size_eq]; exact h8
    generalize hw1 : w.alloc (.cells #[.string ⟨#[]⟩, .slice none 0 0, .slice none 0 0] 24) = w1 at hb1 hy hE1
    have hsz : w1.heap.size = w.heap.size + 1 := by rw [← hw1]; simp
    have hb2 := below_alloc w1 (.cells #[.string ⟨#[]⟩, .slice none 0 0, .slice none 0 0] 24)
    have hf := box3f_alloc w1 (.string ⟨#[]⟩) (.slice none 0 0) (.slice none 0 0) 24
    have hFS0 : FS w1.heap.size w1.heap.size (w1.alloc (.cells #[.string ⟨#[]⟩, .slice none 0 0, .slice none 0 0] 24)) ⟨#[]⟩ [] [] (.slice none 0 0) (.slice none 0 0) :=
      ⟨hf, Nat.le_refl _, World.ownsRow_nil _ _ _ _, World.ownsRow_nil _ _ _ _, fun e => (by cases e), fun e => (by cases e), fun k e => (by cases e)⟩
    have HF0 := Lib.hid hFS0
    clear hf hFS0
    go_enter Tryz.func20, Tryz.ntmps20
    go_wp2_with fail
    simp only [hsz] at HF0
    generalize hw2 : w1.alloc (.cells #[.string ⟨#[]⟩, .slice none 0 0, .slice none 0 0] 24) = w2 at hb2 HF0 ⊢
    go_loopw [0, 5] (fun sv iv wr => ∃ (cur : ByteArray) (k : Nat) (p : ByteArray) (R X : List (ByteArray × ByteArray)) (rv xv : Value), sv = .string cur ∧ iv = .int .i64 k ∧ k + cur.size ≤ s.size ∧ R.length ≤ k ∧ X.length ≤ k ∧ FS (w.heap.size + 1) (w.heap.size + 1) wr p R X rv xv ∧ (X = [] → xv = .slice none 0 0) ∧ ShortB 8000 p R X ∧ Below w1.heap.size w1 wr ∧ Hid (readF (cur.size + 1) (flOf p R X) k cur.data.toList = readF (s.data.toList.length + 1) noFl 0 s.data.toList)) (fun sv iv _ => s.size + 1 - (intOf iv).toNat)
    case atStart => exact ⟨s, 0, ⟨#[]⟩, [], [], .slice none 0 0, .slice none 0 0, rfl, rfl, by omega, Nat.le_refl _, Nat.le_refl _, HF0.out, fun _ => rfl, ⟨by decide, fun m hm => (by simp at hm), fun m hm => (by simp at hm)⟩, hb2, Lib.hid (by rw [← size_eq]; rfl)⟩
    case round =>
      obtain ⟨cur, k, p, R, X, rv, xv, rfl, rfl, hk, hRk, hXk, hFS, hx0, hsh, hBr, HR⟩ := hrel
      replace hE := hE1.below hBr
      have hy1 := hy
      replace hy := hy.below hBr
      clear hw2 hb2 HF0
      by_cases hend : cur.data.toList = [] ∧ k ≠ 0
      · have e1 : cur.toList.isEmpty = true := by
          rw [toList_data, hend.1]; rfl
        have e2 : ((k : Int) == 0) = false := by
          have := hend.2
          simp; omega
        have hrd : readF (s.data.toList.length + 1) noFl 0 s.data.toList = (flOf p R X, none) := by
          rw [← HR.out, hend.1]; exact readF_end hend.2
        have hck := fun W (hb : Below wr.heap.size wr W) => fileCheck_calls ks A hks p rv xv (mdTs R) (mdTs X) W (hE.below hb) ((modsAt_own hFS.r).below hb) ((modsAt_own hFS.x).below hb) (by have := hsh.1; omega) (short_of hsh.2.1 (by decide) (by omega)) (short_of hsh.2.2 (by decide) (by omega))
        have hmr := modsAt_own hFS.r
        have hmx := modsAt_own hFS.x
        have hgr : ∀ q n m, rv = .slice (some q) n m → q.block ≠ w.heap.size := fun q n m e => by
          have := own_ge hFS.r q n m e
          omega
        have hgx : ∀ q n m, xv = .slice (some q) n m → q.block ≠ w.heap.size := fun q n m e => by
          have := own_ge hFS.x q n m e
          omega
        have hbx := hFS.box
        have hB := below_step hb1 hBr
        clear HR hFS hx0 hsh hb1 hBr hRk hXk hk hend hE1 hy1
        obtain ⟨a1, n1, c1, _, _, rfl, _⟩ := id hmr
        obtain ⟨a2, n2, c2, _, _, rfl, _⟩ := id hmx
        have HC := Lib.hid (hck wr (Below.refl _ _))
        have HG := Lib.hid (And.intro hgr hgx)
        have HM := Lib.hid (And.intro hmr hmx)
        clear hck hgr hgx hmr hmx
        obtain ⟨b0, b1, b2, bf⟩ := id hbx
        go_wp2_with fail
        refine HC.out.mono ?_
        rintro e w3 ⟨⟨v, rfl, hv⟩, hb⟩
        replace hv : FaultAt A w3 v (fileErr (flOf p R X)) := hv
        replace hy := hy.below hb
        replace hbx := hbx.below hb
        replace hB := below_step hB hb
        have hmr := HM.out.1.below hb
        have hmx := HM.out.2.below hb
        clear b0 b1 b2 bf HM HC
        obtain ⟨b0, b1, b2, bf⟩ := id hbx
        obtain ⟨y0, y1, y2, yf⟩ := id hy
        by_cases h0 : (fileErr (flOf p R X)).1 = 0
        · have hfr := fileRead_ok hl8 hrd h0
          have hv0 : v = .nilIface := by
            rcases hv with h | h | h
            · exact h.2.2
            · exact absurd h0 h.1
            · exact absurd h0 h.1
          subst hv0
          have hfin : ∀ u0 u1 u2, ModsAt (((w3.setCell ⟨w.heap.size, 0, none⟩ u0).setCell ⟨w.heap.size, 1, none⟩ u1).setCell ⟨w.heap.size, 2, none⟩ u2) (.slice a1 n1 c1) (mdTs R) ∧ ModsAt (((w3.setCell ⟨w.heap.size, 0, none⟩ u0).setCell ⟨w.heap.size, 1, none⟩ u1).setCell ⟨w.heap.size, 2, none⟩ u2) (.slice a2 n2 c2) (mdTs X) ∧ Below w.heap.size w (((w3.setCell ⟨w.heap.size, 0, none⟩ u0).setCell ⟨w.heap.size, 1, none⟩ u1).setCell ⟨w.heap.size, 2, none⟩ u2) := fun u0 u1 u2 =>
            ⟨((hmr.other HG.out.1 u0).other HG.out.1 u1).other HG.out.1 u2, ((hmx.other HG.out.2 u0).other HG.out.2 u1).other HG.out.2 u2,
             ((hB.setCell (p := ⟨w.heap.size, 0, none⟩) (Nat.le_refl _) u0).setCell (p := ⟨w.heap.size, 1, none⟩) (Nat.le_refl _) u1).setCell (p := ⟨w.heap.size, 2, none⟩) (Nat.le_refl _) u2⟩
          replace hfin := Lib.hid hfin
          replace hfr := Lib.hid hfr
          clear hrd h0 hv hmr hmx HG
          go_wp2_with fail
          refine bodyPost_ret (v := .tuple #[.agg #[.string p, .slice a1 n1 c1, .slice a2 n2 c2], .nilIface]) (by simp [results, Tryz.results20, go_sem, *]) rfl ?_
          unfold ReadOut
          rw [hfr.out]
          exact ⟨⟨_, _, _, _, rfl, rfl, (hfin.out _ _ _).1, (hfin.out _ _ _).2.1, .inl ⟨rfl, rfl, rfl⟩⟩, (hfin.out _ _ _).2.2⟩
        · have hfr := Lib.hid (fileRead_err hl8 hrd h0)
          have hn0 : ∃ t q, v = .iface t (.pointer q) := by
            rcases hv with h | h | h
            · exact absurd h.1 h0
            · rw [h.2.2, errV_pos A h0]; exact ⟨_, _, rfl⟩
            · obtain ⟨_, b, rfl, _⟩ := h
              exact ⟨_, _, rfl⟩
          obtain ⟨ty, q, rfl⟩ := hn0
          have HV := Lib.hid (bare_calls A _ _ w3 hv)
          have h0' := Lib.hid h0
          clear hv hrd hmr hmx h0
          go_wp2_with fail
          refine HV.out.mono ?_
          rintro e w4 ⟨rfl, hb⟩
          replace hy := hy.below hb
          replace hB := below_step hB hb
          clear y0 y1 y2 yf b0 b1 b2 bf HV
          obtain ⟨y0, y1, y2, yf⟩ := id hy
          rw [errV_pos A h0'.out]
          have hB4 := ((hB.setCell (p := ⟨w.heap.size, 0, none⟩) (Nat.le_refl _) (.string ⟨#[]⟩)).setCell (p := ⟨w.heap.size, 1, none⟩) (Nat.le_refl _) (.slice none 0 0)).setCell (p := ⟨w.heap.size, 2, none⟩) (Nat.le_refl _) (.slice none 0 0)
          generalize hx : errV A (fileErr (flOf p R X)).1 = x at *
          go_wp2_with fail
          refine bodyPost_ret (v := .tuple #[.agg #[.string ⟨#[]⟩, .slice none 0 0, .slice none 0 0], .iface 283 (.pointer (some (A (fileErr (flOf p R X)).1)))]) (by simp [results, Tryz.results20, go_sem, *]) rfl ?_
          unfold ReadOut
          rw [hfr.out]
          first
          | exact ⟨⟨⟨#[]⟩, .slice none 0 0, .slice none 0 0, _, rfl, rfl, ModsAt.nil _, ModsAt.nil _, .inr (.inl ⟨h0'.out, rfl, (errV_pos A h0'.out).symm⟩)⟩, hB4⟩
          | exact ⟨⟨⟨#[]⟩, .slice none 0 0, .slice none 0 0, _, rfl, rfl, ModsAt.nil _, ModsAt.nil _, .inr (.inl ⟨h0'.out, rfl, (errV_pos A h0'.out).symm⟩)⟩, hB⟩
      · have hcase : cur.toList.isEmpty = false ∨ (cur.toList.isEmpty = true ∧ ((k : Int) == 0) = true) := by
          rw [toList_data]
          by_cases h1 : cur.data.toList = []
          · refine .inr ⟨by rw [h1]; rfl, ?_⟩
            by_cases h2 : k = 0
            · simp [h2]
            · exact absurd ⟨h1, h2⟩ hend
          · refine .inl ?_
            cases h3 : cur.data.toList with
            | nil => exact absurd h3 h1
            | cons _ _ => rfl
        have hcl := cut_first_len cur.data.toList
        have hcut := cut_calls cur ⟨#[10]⟩ wr hE.m (by omega)
        rw [show (⟨#[10]⟩ : ByteArray).data.toList = [10] from rfl] at hcut
        have hstep := @readF_step cur.size k (flOf p R X) cur.data.toList hend
        have hbd := @readF_bad cur.size k (flOf p R X) cur.data.toList hend
        have hrest := @cut_rest cur.data.toList
        rw [HR.out] at hstep hbd
        rw [← size_eq] at hcl hrest
        generalize hC : Lib.cut cur.data.toList [10] = C at *
        obtain ⟨x1, x2, is⟩ := C
        simp only at hcl hcut hstep hbd hrest
        have hline := fun W (h1 : EnvP ks A W) (h2 : FS (w.heap.size + 1) (w.heap.size + 1) W p R X rv xv) => line_calls (w.heap.size + 1) (w.heap.size + 1) 8000 p R X rv xv ⟨x1.toArray⟩ k W h1.m h2 hx0 (by omega) (by omega) (by rw [size_eq]; simp only; omega) (by decide) hsh
        simp only at hline
        cases is with
        | false =>
          have hfr := Lib.hid (fileRead_bad hl8 (hbd (by simp)))
          have hBB := below_step hb1 hBr
          have HC := Lib.hid hcut
          clear hline hstep hbd hrest hcut hC HR hsh hx0 hFS hend hBr
          rcases hcase with e1 | ⟨e1, e2⟩
          all_goals
            go_wp2_with fail
            refine HC.out.mono ?_
            rintro e w3 ⟨rfl, hb⟩
            replace hy := hy.below hb
            replace hE := hE.below hb
            replace hBB := below_step hBB hb
            have g1 := hE.errs.var 1 hE.has.1
            simp only [errG] at g1
            obtain ⟨y0, y1, y2, yf⟩ := id hy
            have hn1 : w.heap.size ≠ 5 := by omega
            have hn2 : 5 ≠ w.heap.size := by omega
            have hn3 : w.heap.size < w3.heap.size := lt_of_cell y0
            have hn4 : w.heap.size ≠ w3.heap.size := by omega
            have hn5 : w3.heap.size ≠ w.heap.size := by omega
            go_wp2_with fail
            go_region
            all_goals
              go_wp2_with fail
              refine bodyPost_ret (v := .tuple #[.agg #[.string ⟨#[]⟩, .slice none 0 0, .slice none 0 0], .iface 102 (.pointer (some ⟨w3.heap.size, 0, none⟩))]) (by simp [results, Tryz.results20, go_sem, *]) rfl ?_
              unfold ReadOut
              rw [hfr.out]
              exact bad_out hBB hn3 rfl
        | true =>
          have HC := Lib.hid hcut
          have HL := Lib.hid hline
          by_cases hlin : (lineF (flOf p R X) x1 k).1 = true
          · have hst := hstep rfl hlin
            have hre := hrest rfl
            rw [hlin] at HL
            have HST := Lib.hid hst
            clear hstep hbd hst hcut hC hline hrest
            rcases hcase with e1 | ⟨e1, e2⟩
            all_goals
              go_wp2_with fail
              refine HC.out.mono ?_
              rintro e w3 ⟨rfl, hb⟩
              have hBr3 := below_step hBr hb
              go_wp2_with fail
              refine (HL.out w3 (hE.below hb) (hFS.below hb)).mono ?_
              rintro e w4 ⟨rfl, hb4, hpost⟩
              obtain ⟨p', R', X', rv', xv', hfl, hFS', hx0', hR', hX', hsh'⟩ := hpost trivial
              rw [← hsz] at hb4
              replace hBr3 := hBr3.trans hb4
              clear hpost HL HC
              have H' := Lib.hid (And.intro hFS' (And.intro hx0' hsh'))
              clear hFS' hx0' hsh' hFS hx0 hsh hE hy
              have hwr := wrap_nat (k + 1) (by omega)
              go_wp2_with fail
              go_roundw
              case rel =>
                refine ⟨⟨x2.toArray⟩, k + 1, p', R', X', rv', xv', rfl, rfl, ?_, by omega, by omega, H'.out.1, H'.out.2.1, H'.out.2.2, hBr3, Lib.hid ?_⟩
                · rw [size_eq]; simp only; omega
                · rw [hfl, HST.out, data_mk, size_eq, data_mk]
                  exact readF_fuel _ _ _ _ _ (by omega) (by omega)
              case measure => simp [intOf]; omega
          · have hfr := Lib.hid (fileRead_bad hl8 (hbd (fun h => hlin h.2)))
            have hlin2 : (lineF (flOf p R X) x1 k).1 = false := by simpa using hlin
            rw [hlin2] at HL
            clear hstep hbd hrest hcut hC hline hlin
            rcases hcase with e1 | ⟨e1, e2⟩
            all_goals
              go_wp2_with fail
              refine HC.out.mono ?_
              rintro e w3 ⟨rfl, hb⟩
              have hBr3 := below_step hBr hb
              go_wp2_with fail
              refine (HL.out w3 (hE.below hb) (hFS.below hb)).mono ?_
              rintro e w4 ⟨rfl, hb4, _⟩
              rw [← hsz] at hb4
              replace hBr3 := hBr3.trans hb4
              clear HL HC hE hFS hy
              have hE := hE1.below hBr3
              have hy := hy1.below hBr3
              have hBB := below_step hb1 hBr3
              have g1 := hE.errs.var 1 hE.has.1
              simp only [errG] at g1
              obtain ⟨y0, y1, y2, yf⟩ := id hy
              have hn1 : w.heap.size ≠ 5 := by omega
              have hn2 : 5 ≠ w.heap.size := by omega
              have hn3 : w.heap.size < w4.heap.size := lt_of_cell y0
              have hn4 : w.heap.size ≠ w4.heap.size := by omega
              have hn5 : w4.heap.size ≠ w.heap.size := by omega
              clear hE1 hy1 HR hsh hx0
              go_wp2_with fail
              go_region
              all_goals
                go_wp2_with fail
                refine bodyPost_ret (v := .tuple #[.agg #[.string ⟨#[]⟩, .slice none 0 0, .slice none 0 0], .iface 102 (.pointer (some ⟨w4.heap.size, 0, none⟩))]) (by simp [results, Tryz.results20, go_sem, *]) rfl ?_
                unfold ReadOut
                rw [hfr.out]
                exact bad_out hBB hn3 rfl
end Go.Proofs.Pw

/- filed: the closed test of package file. -/
namespace Go.Proofs.Pw
open Go.RowKit
open Go.Lib hiding intOf

def fl0 : Fl := ⟨[109, 97, 105, 110], [([97], [118, 49, 46, 48, 46, 48])], [([98], [118, 48, 46, 49, 46, 48])]⟩
theorem fl0_err : (fileErr fl0).1 = 0 := by decide +kernel
def fl0T : ByteArray := ⟨#[109, 111, 100, 117, 108, 101, 32, 109, 97, 105, 110, 10, 114, 101, 113, 117, 105, 114, 101, 32, 97, 32, 118, 49, 46, 48, 46, 48, 10, 101, 120, 99, 108, 117, 100, 101, 32, 98, 32, 118, 48, 46, 49, 46, 48, 10]⟩
theorem fl0_txt : fileTxt fl0 = fl0T.data.toList := by decide +kernel
theorem fl0_read : fileRead fl0T.data.toList = (fl0, 0, -1) := by
  rw [← fl0_txt]
  exact file_back fl0_err (by rw [fl0_txt]; decide +kernel)
theorem fl0_text : fileText fl0 = fl0T.data.toList := by
  unfold fileText
  rw [if_pos fl0_err, fl0_txt]
/-- a slice of so many modules -/
theorem modsAt_form {w : World} {v : Value} {l : List Md} (h : ModsAt w v l) : ∃ a c, v = .slice a l.length c := by
  obtain ⟨a, n, c, P, V, rfl, rfl, _⟩ := h
  exact ⟨a, c, by rw [mdF_length]⟩
theorem bytes_toArray (b : ByteArray) : (⟨b.data.toList.toArray⟩ : ByteArray) = b := by
  obtain ⟨⟨l⟩⟩ := b
  rfl

set_option maxRecDepth 100000 in
theorem filed_calls (ks : List Nat) (A : Nat → Addr) (hks : FileKs ks) (w : World) (hE : EnvP ks A w) :
    Calls Tryz.prog 12 #[] w fun e w' => e = .returned (.bool true) ∧ Below w.heap.size w w' := by
  have hrd := fileRead_calls ks A hks fl0T w hE (by decide)
  unfold ReadOut at hrd
  rw [fl0_read] at hrd
  have htx := fun (p : ByteArray) (rv xv : Value) (W : World) (hW : EnvP ks A W) (hp : p.data.toList = fl0.path) (h1 : ModsAt W rv fl0.reqs) (h2 : ModsAt W xv fl0.excl) =>
    fileText_calls ks A hks p rv xv fl0.reqs fl0.excl W hW h1 h2 (by rw [size_eq, hp]; decide) ⟨by decide, by decide⟩ ⟨by decide, by decide⟩
  have htx2 := fun (p : ByteArray) (rv xv : Value) (W : World) (hW : EnvP ks A W) (hp : p.data.toList = fl0.path) (h1 : ModsAt W rv fl0.reqs) (h2 : ModsAt W xv fl0.excl) => by
    have h := htx p rv xv W hW hp h1 h2
    rw [hp, show (⟨fl0.path, fl0.reqs, fl0.excl⟩ : Fl) = fl0 from rfl, fl0_text, bytes_toArray] at h
    exact h
  unfold fl0T at hrd htx2
  replace hrd := Lib.hid hrd
  replace htx2 := Lib.hid htx2
  clear htx
  go_enter Tryz.func12, Tryz.ntmps12
  go_wp2_with fail
  refine hrd.out.mono ?_
  rintro e w1 ⟨⟨p, r, x, ev, rfl, hp, hr, hx, hf⟩, hb⟩
  obtain ⟨a1, c1, rfl⟩ := modsAt_form hr
  obtain ⟨a2, c2, rfl⟩ := modsAt_form hx
  have hev : ev = .nilIface := by
    rcases hf with ⟨_, _, h⟩ | ⟨h, _⟩ | ⟨h, _⟩
    · exact h
    · exact absurd rfl h
    · exact absurd rfl h
  subst hev
  have hb1 := below_alloc w1 (.cells #[.string p, .slice a1 1 c1, .slice a2 1 c2] 24)
  have hz := box3_alloc w1 (.string p) (.slice a1 1 c1) (.slice a2 1 c2) 24
  have hB := below_step hb hb1
  replace hr := hr.below hb1
  replace hx := hx.below hb1
  replace hE := hE.below hB
  have ht := htx2.out p _ _ _ hE hp hr hx
  simp only [show fl0.reqs.length = 1 from rfl, show fl0.excl.length = 1 from rfl] at ht ⊢
  obtain ⟨z0, z1, z2⟩ := hz
  replace ht := Lib.hid ht
  replace hE := Lib.hid hE
  clear hf hr hx hp hrd htx2
  go_wp2_with fail
  refine ht.out.mono ?_
  rintro e w2 ⟨rfl, hb2⟩
  go_wp2_with fail
  go_ret
  exact ⟨rfl, below_step hB hb2⟩
end Go.Proofs.Pw

/- Rows of elements of k cells: copy, clear; slices.Clone at []api.Mod. -/
namespace Go.Proofs.Pw
open Go.RowKit
open Go.Lib hiding intOf

theorem grownBy_setRow (w : World) (g : Nat) (cs : Array Value) : w.grownBy (w.setRow g cs) (some g) :=
  ⟨rfl, rfl, rfl, by simp [World.setRow], fun k _ hk => setRow_other w g k cs (by rintro rfl; exact hk rfl)⟩
theorem grownBy_undrawn {w w1 : World} {r : Option Nat} (h : w.drew.grownBy w1 r) : w.grownBy w1 r := ⟨h.os, h.tape, h.output, h.size, h.block⟩
theorem grownBy_trans {w w1 w2 : World} {r : Option Nat} (h : w.grownBy w1 r) (k : w1.grownBy w2 r) : w.grownBy w2 r :=
  ⟨k.os.trans h.os, k.tape.trans h.tape, k.output.trans h.output, Nat.le_trans h.size k.size, fun i hi hr => (k.block i (Nat.lt_of_lt_of_le hi h.size) hr).trans (h.block i hi hr)⟩
theorem grownBy_below {w w1 : World} (r : Option Nat) (h : Below w.heap.size w w1) : w.grownBy w1 r := ⟨h.os, h.tape, h.output, h.size, fun k hk _ => h.block k hk⟩
/-- a slice of modules in another row stays -/
theorem ModsAt.grownBy {w w' : World} {v : Value} {l : List Md} {r : Option Nat} (h : ModsAt w v l) (hg : w.grownBy w' r) (hr : ∀ q n m, v = .slice (some q) n m → some q.block ≠ r) : ModsAt w' v l := by
  obtain ⟨a, n, cap, P, V, rfl, h2, h3, h4, h5⟩ := h
  refine ⟨a, n, cap, P, V, rfl, h2, h3, h4, fun j hj => ?_⟩
  obtain ⟨b, o, rfl, e1, e2⟩ := h5 j hj
  have hb : some b ≠ r := hr _ _ _ rfl
  exact ⟨b, o, rfl, hg.cell e1 hb, hg.cell e2 hb⟩
theorem run_copy_rowK {P : Program} (w : World) (dT sT ty elem : TypeId) (k g o dLen dCap : Nat) (a : Addr) (sLen sCap : Nat) (cur : Array Value) (t : TypeId) (cs : List Value)
    (hu : P.underlying dT = some (.slice elem)) (hs : (P.info? elem).map (·.size) = some k) (hg : w.heap[g]? = some (.cells cur t (0, 0))) (hn : cs.length = Nat.min sLen dLen * k)
    (hsrc : ∀ j v, cs[j]? = some v → w.cell? (a.add j) = some v) (hfit : o + cs.length ≤ cur.size) (h1 : ∀ v ∈ cs, v.oneCell' = true) :
    (Builtin.copy_ #[dT, sT] ty #[.slice (some ⟨g, o, none⟩) dLen dCap, .slice (some a) sLen sCap]).run P w =
      .ok (goInt (Nat.min sLen dLen)) (w.setRow g (splice cur.toList o cs).toArray) := by
  have hl := run_loadCells_list (P := P) w a cs hsrc
  have hst := run_storeCells_at P g o t cs 0 cur w hg (by simpa using hfit) h1
  cases hq : P.info? elem with
  | none => simp [hq] at hs
  | some i =>
    have hi : i.size = k := by simpa [hq] using hs
    simp [Builtin.copy_, run_underlying hu, Builtin.lenOf, Builtin.firstCells, sizeOf, typeInfo, hq, hi, ← hn, hl, hst, splice]

theorem wp_copyK {P : Program} {w : World} {o : Oper} {a : Act} {K : Act → World → Prop} {Q : Exit → Act → World → Prop} (d s : Operand) (dT sT : TypeId)
    (ho : o.op = .call { callee := .builtin .copy, args := #[d, s], argTypes := #[dT, sT] }) (elem : TypeId) (hu : P.underlying dT = some (.slice elem)) (k : Nat) (hsz : (P.info? elem).map (·.size) = some k)
    (g off dLen dCap : Nat) (ad : Addr) (sLen sCap : Nat) (hd : a.eval d = .slice (some ⟨g, off, none⟩) dLen dCap) (hs : a.eval s = .slice (some ad) sLen sCap)
    (cur : List Value) (t : TypeId) (hg : w.heap[g]? = some (.cells cur.toArray t (0, 0))) (cs : List Value) (hn : cs.length = Nat.min sLen dLen * k)
    (hsrc : ∀ j v, cs[j]? = some v → w.cell? (ad.add j) = some v) (hfit : off + cs.length ≤ cur.length) (h1 : ∀ v ∈ cs, v.oneCell' = true) (B : Nat) (w0 : World) (hb : Below B w0 w) (hBg : B ≤ g)
    (h : ∀ w', Hid (w'.heap[g]? = some (.cells (splice cur off cs).toArray t (0, 0))) → Below B w0 w' → Hid (w.grownBy w' (some g)) → K (a.put o.dst (goInt (Nat.min sLen dLen))) w') : o.wp P a w K Q := by
  have hrun := run_copy_rowK (P := P) w dT sT o.type elem k g off dLen dCap ad sLen sCap cur.toArray t cs hu hsz hg hn hsrc (by simpa using hfit) h1
  unfold Oper.wp
  simp [execOp, ho, resolve, invoke, builtin, hd, hs, hrun, Result.andThen]
  exact h _ (show _ = _ by simpa using setRow_heap w g _ _ t _ hg) (below_setRow hb hBg _) (Lib.hid (grownBy_setRow w g _))

theorem wpList_copyK {P : Program} {w : World} {ops : Array Oper} {rest : List Oper} {o : Oper} {a : Act} {Q : Exit → Act → World → Prop} (hgd : o.guard = none) (d s : Operand) (dT sT : TypeId)
    (ho : o.op = .call { callee := .builtin .copy, args := #[d, s], argTypes := #[dT, sT] }) (elem : TypeId) (hu : P.underlying dT = some (.slice elem)) (k : Nat) (hsz : (P.info? elem).map (·.size) = some k)
    (g off dLen dCap : Nat) (ad : Addr) (sLen sCap : Nat) (hd : a.eval d = .slice (some ⟨g, off, none⟩) dLen dCap) (hs : a.eval s = .slice (some ad) sLen sCap)
    (cur : List Value) (t : TypeId) (hg : w.heap[g]? = some (.cells cur.toArray t (0, 0))) (cs : List Value) (hn : cs.length = Nat.min sLen dLen * k)
    (hsrc : ∀ j v, cs[j]? = some v → w.cell? (ad.add j) = some v) (hfit : off + cs.length ≤ cur.length) (h1 : ∀ v ∈ cs, v.oneCell' = true) (B : Nat) (w0 : World) (hb : Below B w0 w) (hBg : B ≤ g)
    (h : ∀ w', Hid (w'.heap[g]? = some (.cells (splice cur off cs).toArray t (0, 0))) → Below B w0 w' → Hid (w.grownBy w' (some g)) → wpList P ops Q rest (a.put o.dst (goInt (Nat.min sLen dLen))) w') : wpList P ops Q (o :: rest) a w :=
  wpList_plain hgd fun _ hK => wp_copyK d s dT sT ho elem hu k hsz g off dLen dCap ad sLen sCap hd hs cur t hg cs hn hsrc hfit h1 B w0 hb hBg fun w' a b c => hK _ _ (h w' a b c)

theorem step_copyK {P : Program} {ops : Array Oper} {o : Oper} {a : Act} {w : World} {K : Act → World → Prop} {Q : Exit → Act → World → Prop} {E : Prop} (hgd : o.guard = none) (d s : Operand) (dT sT : TypeId)
    (ho : o.op = .call { callee := .builtin .copy, args := #[d, s], argTypes := #[dT, sT] }) (elem : TypeId) (hu : P.underlying dT = some (.slice elem)) (k : Nat) (hsz : (P.info? elem).map (·.size) = some k)
    (g off dLen dCap : Nat) (ad : Addr) (sLen sCap : Nat) (hd : a.eval d = .slice (some ⟨g, off, none⟩) dLen dCap) (hs : a.eval s = .slice (some ad) sLen sCap)
    (cur : List Value) (t : TypeId) (hg : w.heap[g]? = some (.cells cur.toArray t (0, 0))) (cs : List Value) (hn : cs.length = Nat.min sLen dLen * k)
    (hsrc : ∀ j v, cs[j]? = some v → w.cell? (ad.add j) = some v) (hfit : off + cs.length ≤ cur.length) (h1 : ∀ v ∈ cs, v.oneCell' = true) (B : Nat) (w0 : World) (hb : Below B w0 w) (hBg : B ≤ g)
    (h : ∀ w', Hid (w'.heap[g]? = some (.cells (splice cur off cs).toArray t (0, 0))) → Below B w0 w' → Hid (w.grownBy w' (some g)) → K (a.put o.dst (goInt (Nat.min sLen dLen))) w') :
    if Region.wanted o (yielded ops a.tmps) = true then Oper.wp P o a w K Q else E := by
  have hw : Region.wanted o (yielded ops a.tmps) = true := by simp [Region.wanted, hgd]
  rw [if_pos hw]
  exact wp_copyK d s dT sT ho elem hu k hsz g off dLen dCap ad sLen sCap hd hs cur t hg cs hn hsrc hfit h1 B w0 hb hBg h

theorem splice_length {α : Type} {L cs : List α} {o : Nat} (h : o + cs.length ≤ L.length) : (splice L o cs).length = L.length := by
  unfold splice; simp; omega
/-- what is laid at o is there -/
theorem splice_get {α : Type} {L cs : List α} {o : Nat} (h : o + cs.length ≤ L.length) (j : Nat) : (splice L o cs)[j]? = if o ≤ j ∧ j < o + cs.length then cs[j - o]? else L[j]? := by
  unfold splice
  by_cases h1 : j < o
  · rw [List.getElem?_append_left (by simp; omega), List.getElem?_take, if_pos h1, if_neg (by omega)]
  · rw [List.getElem?_append_right (by simp; omega)]
    simp only [List.length_take]
    rw [show j - min o L.length = j - o by omega]
    by_cases h2 : j < o + cs.length
    · rw [List.getElem?_append_left (by omega), if_pos (by omega)]
    · rw [List.getElem?_append_right (by omega), if_neg (by omega), List.getElem?_drop]
      congr 1; omega

/-! ### slices.Clone -/
set_option maxHeartbeats 2000000 in
set_option maxRecDepth 100000 in
theorem cloneM_calls (v : Value) (l : List Md) (w : World) (h : ModsAt w v l) (hl : l.length ≤ 1000000) :
    Calls Tryz.prog 107 #[v] w fun e w' => ∃ v' L, e = .returned v' ∧ l = mdTs L ∧ w'.ownsRow w.heap.size 26 2 v' L.length (mdVs L) ∧ Below w.heap.size w w' := by
  obtain ⟨i0, hi, hz0, hz1, hz2⟩ := info_parts Tryz.infoMod
  obtain ⟨a, n, cap, P, V, rfl, rfl, hnc, hcap, hc⟩ := h
  rw [mdF_length] at hl
  cases a with
  | none =>
    have hn0 : n = 0 := by
      rcases Nat.eq_zero_or_pos n with h | h
      · exact h
      · obtain ⟨b, o, e, _⟩ := hc 0 h
        cases e
    subst hn0
    clear hc
    have hq := fun (w : World) (a : Option Addr) (n c n' c' : Nat) => Lib.run_eql_slice_nil (P := Tryz.prog) w _ _ a n c n' c' Tryz.underlying22
    go_enter Tryz.func107, Tryz.ntmps107
    go_wp2_with fail
    go_ret
    exact ⟨_, [], rfl, rfl, World.ownsRow_nil _ _ _ _, Below.refl _ _⟩
  | some a =>
    have hc2 : ∃ news, news.length = n * 2 ∧ (∀ j u, news[j]? = some u → w.cell? (a.add j) = some u) ∧ news = mdVs (mdL n P V) := by
      refine ⟨_, by rw [mdVs_length, mdL_length], ?_, rfl⟩
      rcases Nat.eq_zero_or_pos n with h | h
      · subst h
        intro j u hu
        simp [mdL, mdVs] at hu
      · obtain ⟨b, o, e, _⟩ := hc 0 h
        injection e with e
        subst e
        exact mods_cells (fun j hj => by
          obtain ⟨b', o', e, h1, h2⟩ := hc j hj
          injection e with e
          injection e with e1 e2 _
          subst e1 e2
          exact ⟨h1, h2⟩)
    obtain ⟨news, hn1, hn2, hn3⟩ := hc2
    have HN := Lib.hid hn3
    have H2 := Lib.hid hn2
    have hq := fun (w : World) (a : Option Addr) (n c n' c' : Nat) => Lib.run_eql_slice_nil (P := Tryz.prog) w _ _ a n c n' c' Tryz.underlying22
    clear hc hn3 hn2
    go_enter Tryz.func107, Tryz.ntmps107
    go_wp2_with (at_builtin; refine wpList_append_own _ rfl _ _ 22 rfl w.heap.size 26 i0 (.agg #[.string ⟨#[]⟩, .string ⟨#[]⟩]) 2 32 Tryz.underlying22 hi hz0 hz1 hz2 rfl (by decide) _ _ _ rfl (World.ownsRow_made w #[] 0 (Nat.le_refl _) (Nat.zero_le _) (by simp)) a n cap news rfl hn1 (fun j u hu => Lib.cell?_alloc_some _ (H2.out j u hu)) (by rw [HN.out]; exact mdVs_one) (by unfold maxLen; omega) (by omega) (by simp) ?_; intro v' w1 hown1 hgrow1 _)
    go_ret
    have ho : w1.ownsRow w.heap.size 26 2 v' (mdL n P V).length (mdVs (mdL n P V)) := by
      rw [mdL_length, ← HN.out]
      simpa using hown1
    exact ⟨v', mdL n P V, rfl, (mdL_ts n P V).symm, ho, ((Below.refl _ w).alloc (Nat.le_refl _) _).grown hgrow1 (by simp) (fun k hk => by cases hk; exact Nat.le_refl _)⟩
end Go.Proofs.Pw

/- file.Copy. -/
namespace Go.Proofs.Pw
open Go.RowKit
open Go.Lib hiding intOf

theorem Box3f.belowd {w w' : World} {b : Nat} {v0 v1 v2 : Value} (h : Box3f w b v0 v1 v2) (hb : Below w.drew.heap.size w.drew w') : Box3f w' b v0 v1 v2 :=
  Box3f.below (w := w.drew) ⟨h.c0, h.c1, h.c2, h.fz⟩ hb

theorem own_base {w : World} {base base' e k n : Nat} {v : Value} {xs : List Value} (h : w.ownsRow base' e k v n xs) (hb : base ≤ base') : w.ownsRow base e k v n xs := by
  refine ⟨h.1, ?_⟩
  rcases h.2 with h2 | ⟨g, c, cur, rfl, h2, h3⟩
  · exact .inl h2
  · exact .inr ⟨g, c, cur, rfl, by omega, h3⟩

/-- what Copy hands back: the same lists in rows of their own -/
def CopyOut (base : Nat) (p : ByteArray) (R X : List Md) (w : World) (e : Ending) (w' : World) : Prop :=
  (∃ v1 v2 L1 L2, e = .returned (.agg #[.string p, v1, v2]) ∧ R = mdTs L1 ∧ X = mdTs L2 ∧ w'.ownsRow base 26 2 v1 L1.length (mdVs L1) ∧ w'.ownsRow base 26 2 v2 L2.length (mdVs L2) ∧ (∀ b, v1.ownBlock = some b → v2.ownBlock ≠ some b)) ∧ Below base w w'

set_option maxHeartbeats 2000000 in
set_option maxRecDepth 100000 in
theorem fileCopy_calls (p : ByteArray) (rv xv : Value) (R X : List Md) (w : World) (hr : ModsAt w rv R) (hx : ModsAt w xv X) (hR : R.length ≤ 1000000) (hX : X.length ≤ 1000000) :
    Calls Tryz.prog 79 #[.agg #[.string p, rv, xv]] w (CopyOut w.heap.size p R X w) := by
  have hb1 := below_alloc w (.cells #[.string p, rv, xv] 24)
  have hb2 := below_alloc (w.alloc (.cells #[.string p, rv, xv] 24)) (.cells #[.string ⟨#[]⟩, .slice none 0 0, .slice none 0 0] 24)
  have hB := below_step hb1 hb2
  have hz := (box3f_alloc w (.string p) rv xv 24).below hb2
  have hy := box3f_alloc (w.alloc (.cells #[.string p, rv, xv] 24)) (.string ⟨#[]⟩) (.slice none 0 0) (.slice none 0 0) 24
  simp only [World.size_alloc] at hy
  have ho1 := fun W hb => cloneM_calls rv R W (hr.below hb) hR
  have ho2 := fun W hb => cloneM_calls xv X W (hx.below hb) hX
  obtain ⟨a1, n1, c1, _, _, rfl, _⟩ := id hr
  obtain ⟨a3, n3, c3, _, _, rfl, _⟩ := id hx
  replace ho1 := Lib.hid ho1
  replace ho2 := Lib.hid ho2
  clear hb1 hb2 hr hx
  obtain ⟨z0, z1, z2, zf⟩ := id hz
  go_enter Tryz.func79, Tryz.ntmps79
  go_wp2_with fail
  generalize hw2 : (w.alloc (.cells #[.string p, .slice a1 n1 c1, .slice a3 n3 c3] 24)).alloc (.cells #[.string ⟨#[]⟩, .slice none 0 0, .slice none 0 0] 24) = w2 at *
  have hsz : w2.heap.size = w.heap.size + 2 := by rw [← hw2]; simp
  clear hw2
  go_region_with (first
    | (go_at_call_of 107 (Value.slice a1 n1 c1); refine (ho1.out _ ?_).mono ?_; exact hB.drew; rintro e w3 ⟨v1, L1, rfl, hL1, hw3, hb⟩; replace hz := hz.belowd hb; replace hy := hy.belowd hb; replace hB := below_step hB.drew hb; obtain ⟨a5, n5, c5, rfl⟩ := own_form hw3; clear z0 z1 z2 zf; obtain ⟨z0, z1, z2, zf⟩ := id hz)
    | (go_at_call_of 107 (Value.slice a3 n3 c3); refine (ho2.out _ ?_).mono ?_; exact hB; rintro e w4 ⟨v2, L2, rfl, hL2, hw4, hb⟩; replace hz := hz.below hb; replace hy := hy.below hb; replace hB := below_step hB hb; obtain ⟨a6, n6, c6, rfl⟩ := own_form hw4; clear z0 z1 z2 zf; obtain ⟨z0, z1, z2, zf⟩ := id hz))
  all_goals
    have hne12 : ∀ b, (Value.slice a5 n5 c5).ownBlock = some b → (Value.slice a6 n6 c6).ownBlock ≠ some b := fun b h1 => own_ne hw4 (hw3.lt b h1).2
    have hb1 : w.heap.size < w2.drew.heap.size := by simp; omega
    have hb2 : w.heap.size + 1 < w2.drew.heap.size := by simp; omega
    have hs3 := hb.size
    have hs2 : w2.drew.heap.size ≤ w3.heap.size := (by assumption : Below w2.drew.heap.size w2.drew w3).size
    have hrow1 := ownsRow_kept hw3 hb
    have hfin : ∀ u0 u1 u2 u3 u4, CopyOut w.heap.size p R X w (.returned (.agg #[.string p, .slice a5 n5 c5, .slice a6 n6 c6])) (((((w4.setCell ⟨w.heap.size, 1, none⟩ u0).setCell ⟨w.heap.size, 2, none⟩ u1).setCell ⟨w.heap.size + 1, 0, none⟩ u2).setCell ⟨w.heap.size + 1, 1, none⟩ u3).setCell ⟨w.heap.size + 1, 2, none⟩ u4) := fun u0 u1 u2 u3 u4 =>
      ⟨⟨_, _, L1, L2, rfl, hL1, hL2, own_base (ownsRow_set (ownsRow_set (ownsRow_set (ownsRow_set (ownsRow_set hrow1 (own_ne hw3 hb1) u0) (own_ne hw3 hb1) u1) (own_ne hw3 hb2) u2) (own_ne hw3 hb2) u3) (own_ne hw3 hb2) u4) (by omega),
        own_base (ownsRow_set (ownsRow_set (ownsRow_set (ownsRow_set (ownsRow_set hw4 (own_ne hw4 (by omega)) u0) (own_ne hw4 (by omega)) u1) (own_ne hw4 (by omega)) u2) (own_ne hw4 (by omega)) u3) (own_ne hw4 (by omega)) u4) (by omega), hne12⟩,
        ((((hB.setCell (p := ⟨w.heap.size, 1, none⟩) (Nat.le_refl _) u0).setCell (p := ⟨w.heap.size, 2, none⟩) (Nat.le_refl _) u1).setCell (p := ⟨w.heap.size + 1, 0, none⟩) (Nat.le_succ _) u2).setCell (p := ⟨w.heap.size + 1, 1, none⟩) (Nat.le_succ _) u3).setCell (p := ⟨w.heap.size + 1, 2, none⟩) (Nat.le_succ _) u4⟩
    obtain ⟨y0, y1, y2, yf⟩ := id hy
    replace hfin := Lib.hid hfin
    clear hne12 hs3 hs2 hb1 hb2 hrow1 hw3 hw4 hy hz ho1 ho2
    go_wp2_with fail
    refine bodyPost_ret (v := .agg #[.string p, .slice a5 n5 c5, .slice a6 n6 c6]) (by simp [results, Tryz.results79, go_sem, *]) rfl ?_
    exact hfin.out _ _ _ _ _
end Go.Proofs.Pw

/- slices.BinarySearchFunc of a module's path, in a slice of modules whose paths rise. -/
namespace Go.Proofs.Pw
open Go.RowKit
open Go.Lib hiding intOf

theorem set1_calls (p v s : ByteArray) (w : World) :
    Calls Tryz.prog 81 #[.agg #[.string p, .string v], .string s] w fun e w' => e = .returned (.int .i64 (compareBytes p.data.toList s.data.toList)) ∧ Below w.heap.size w w' := by
  have hb := below_alloc w (.cells #[.string p, .string v] 26)
  go_enter Tryz.func81, Tryz.ntmps81
  go_wp2_with fail
  refine (Tryz.strings_Compare p s _).mono ?_
  rintro e w' ⟨rfl, rfl⟩
  go_wp2_with fail
  go_ret
  exact ⟨rfl, hb⟩

theorem Tryz.enters_set1 : ∀ args w, (callFunc 81 args).run Tryz.prog w = .ok (.enter 81 args) w := Go.Proofs.enters_of Tryz.func81 (by kernel_rfl) rfl

theorem cmp_mono {a b p : Str} (h : compareBytes a b < 0 ∨ a = b) (hb : compareBytes b p < 0) : compareBytes a p < 0 := by
  rcases h with h | rfl
  · have h1 := compareBytes_ord.tr a b p (by omega) (by omega)
    by_cases e : compareBytes a p = 0
    · have := compareBytes_zero e
      subst this
      have := (compareBytes_ord.anti a b).1 h
      omega
    · omega
  · exact hb
/-- what precedes stands ahead -/
theorem rise_mono {n : Nat} {P V : Nat → ByteArray} (h : RiseP (mdF n P V)) (p : Str) : ∀ i j, i ≤ j → j < n → compareBytes (P j).data.toList p < 0 → compareBytes (P i).data.toList p < 0 := by
  intro i j hij hj hc
  by_cases e : i = j
  · rw [e]; exact hc
  · refine cmp_mono (.inl ?_) hc
    have h1 := List.pairwise_iff_getElem.1 h i j (by rw [mdF_length]; omega) (by rw [mdF_length]; exact hj) (by omega)
    have gi := mdF_get n P V i (by omega)
    have gj := mdF_get n P V j hj
    rw [List.getElem?_eq_getElem (by rw [mdF_length]; omega)] at gi gj
    injection gi with gi
    injection gj with gj
    rw [gi, gj] at h1
    exact h1
theorem lowAt_is {l : List Md} {p : Str} {k : Nat} (hk : k ≤ l.length) (h1 : ∀ j x, j < k → l[j]? = some x → compareBytes x.1 p < 0) (h2 : ∀ x, l[k]? = some x → ¬ compareBytes x.1 p < 0) : lowAt p l = k := by
  rcases Nat.lt_trichotomy (lowAt p l) k with h | h | h
  · have hl : lowAt p l < l.length := by omega
    exact absurd (h1 _ _ h (List.getElem?_eq_getElem hl)) (lowAt_stop p l _ (List.getElem?_eq_getElem hl))
  · exact h
  · have hl : k < l.length := by have := lowAt_le p l; omega
    exact absurd (lowAt_less p l k _ h (List.getElem?_eq_getElem hl)) (h2 _ (List.getElem?_eq_getElem hl))

set_option maxHeartbeats 4000000 in
set_option maxRecDepth 100000 in
theorem binM_calls (v : Value) (l : List Md) (s : ByteArray) (w : World) (h : ModsAt w v l) (hr : RiseP l) (hl : l.length ≤ 1000000) :
    Calls Tryz.prog 80 #[v, .string s, .func (.func 81) #[] #[]] w fun e w' => e = .returned (.tuple #[.int .i64 (lowAt s.data.toList l), .bool (decide (l[lowAt s.data.toList l]?.map (·.1) = some s.data.toList))]) ∧ Below w.heap.size w w' := by
  obtain ⟨a, n, cap, P, V, rfl, rfl, hnc, hcap, hc⟩ := h
  rw [mdF_length] at hl
  have hM := rise_mono hr s.data.toList
  generalize hres : (Value.tuple #[.int .i64 (lowAt s.data.toList (mdF n P V)), .bool (decide ((mdF n P V)[lowAt s.data.toList (mdF n P V)]?.map (·.1) = some s.data.toList))]) = res
  have HRES := Lib.hid hres
  clear hres hr
  replace hc := Lib.hid hc
  replace hM := Lib.hid hM
  go_enter Tryz.func80, Tryz.ntmps80
  go_wp2_with fail
  go_loopw [9, 10] (fun x y wr => ∃ lo hi : Nat, x = .int .i64 lo ∧ y = .int .i64 hi ∧ lo ≤ hi ∧ hi ≤ n ∧ Below w.heap.size w wr ∧ Hid ((∀ j, j < lo → compareBytes (P j).data.toList s.data.toList < 0) ∧ ∀ j, hi ≤ j → j < n → 0 ≤ compareBytes (P j).data.toList s.data.toList)) (fun x y _ => (intOf y).toNat - (intOf x).toNat)
  case atStart => exact ⟨0, n, rfl, rfl, Nat.zero_le _, Nat.le_refl _, Below.refl _ _, Lib.hid ⟨fun j hj => absurd hj (Nat.not_lt_zero _), fun j h1 h2 => by omega⟩⟩
  case round =>
    obtain ⟨lo, hi, rfl, rfl, hlh, hin, hb, HI⟩ := hrel
    by_cases hlt : lo < hi
    · obtain ⟨b1, o1, rfl, c1, c2⟩ := hc.out ((lo + hi) / 2) (by omega)
      replace c1 := Below.cell_some hb c1
      replace c2 := Below.cell_some hb c2
      have hcall := set1_calls (P ((lo + hi) / 2)) (V ((lo + hi) / 2)) s wr
      by_cases hyx : compareBytes (P ((lo + hi) / 2)).data.toList s.data.toList < 0
      · have HN : Hid ((∀ j, j < (lo + hi) / 2 + 1 → compareBytes (P j).data.toList s.data.toList < 0) ∧ ∀ j, hi ≤ j → j < n → 0 ≤ compareBytes (P j).data.toList s.data.toList) := Lib.hid ⟨fun j hj => hM.out j ((lo + hi) / 2) (by omega) (by omega) hyx, HI.out.2⟩
        generalize compareBytes (P ((lo + hi) / 2)).data.toList s.data.toList = c at hcall hyx
        go_wp2_with fail
        refine hcall.mono ?_
        rintro e w' ⟨rfl, hb2⟩
        go_wp2_with fail
        go_roundw
        case rel => exact ⟨(lo + hi) / 2 + 1, hi, by rw [show ((lo : Int) + (hi : Int)) / 2 + 1 = (((lo + hi) / 2 + 1 : Nat) : Int) by omega], rfl, by omega, hin, below_step hb hb2, HN⟩
        case measure => simp [intOf]; omega
      · have HN : Hid ((∀ j, j < lo → compareBytes (P j).data.toList s.data.toList < 0) ∧ ∀ j, (lo + hi) / 2 ≤ j → j < n → 0 ≤ compareBytes (P j).data.toList s.data.toList) := Lib.hid ⟨HI.out.1, fun j h1 h2 => Int.not_lt.1 fun h3 => hyx (hM.out ((lo + hi) / 2) j h1 h2 h3)⟩
        generalize compareBytes (P ((lo + hi) / 2)).data.toList s.data.toList = c at hcall hyx
        go_wp2_with fail
        refine hcall.mono ?_
        rintro e w' ⟨rfl, hb2⟩
        go_wp2_with fail
        go_roundw
        case rel => exact ⟨lo, (lo + hi) / 2, rfl, by rw [show ((lo : Int) + (hi : Int)) / 2 = (((lo + hi) / 2 : Nat) : Int) by omega], by omega, by omega, below_step hb hb2, HN⟩
        case measure => simp [intOf]; omega
    · obtain rfl : hi = lo := by omega
      have HL : lowAt s.data.toList (mdF n P V) = hi := lowAt_is (by rw [mdF_length]; exact hin) (fun j x hj hx => by
          rw [mdF_get n P V j (by omega)] at hx
          cases hx
          exact HI.out.1 j hj) (fun x hx => by
          have hj : hi < n := by have := (List.getElem?_eq_some_iff.1 hx).1; rwa [mdF_length] at this
          rw [mdF_get n P V hi hj] at hx
          cases hx
          exact Int.not_lt.2 (HI.out.2 hi (Nat.le_refl _) hj))
      have hres := HRES.out
      rw [HL] at hres
      by_cases hn : hi < n
      · obtain ⟨b1, o1, rfl, c1, c2⟩ := hc.out hi hn
        replace c1 := Below.cell_some hb c1
        replace c2 := Below.cell_some hb c2
        have hcall := set1_calls (P hi) (V hi) s wr
        rw [mdF_get n P V hi hn] at hres
        simp only [Option.map_some, Option.some.injEq] at hres
        by_cases hyx : (P hi).data.toList = s.data.toList
        · rw [decide_eq_true hyx] at hres
          rw [hyx, compareBytes_ord.self] at hcall
          have HR := Lib.hid hres
          clear hres HL hyx
          go_wp2_with fail
          refine hcall.mono ?_
          rintro e w' ⟨rfl, hb2⟩
          go_wp2_with fail
          go_ret2
          exact ⟨by rw [← HR.out]; rfl, below_step hb hb2⟩
        · rw [decide_eq_false hyx] at hres
          have h0 : compareBytes (P hi).data.toList s.data.toList ≠ 0 := fun h => hyx (compareBytes_zero h)
          generalize compareBytes (P hi).data.toList s.data.toList = c at hcall h0
          have hcz : (c == 0) = false := by simpa using h0
          have HR := Lib.hid hres
          clear hres HL hyx
          go_wp2_with fail
          refine hcall.mono ?_
          rintro e w' ⟨rfl, hb2⟩
          go_wp2_with fail
          go_ret2
          exact ⟨by rw [← HR.out]; rfl, below_step hb hb2⟩
      · rw [List.getElem?_eq_none (by rw [mdF_length]; omega)] at hres
        have HR := Lib.hid hres
        clear hres HL
        go_wp2_with fail
        go_ret2
        exact ⟨by rw [← HR.out]; simp, hb⟩
end Go.Proofs.Pw

/- slices.Insert of one module into a row of the caller's own. -/
namespace Go.Proofs.Pw
open Go.RowKit
open Go.Lib hiding intOf

theorem ins_grow {α : Type} {Z A pq D : List α} {o : Nat} (hA : A.length = o) (hl : o + pq.length + D.length ≤ A.length + Z.length) : (splice (splice (A ++ Z) o pq) (o + pq.length) D).take (o + pq.length + D.length) = A ++ (pq ++ D) := by
  subst hA
  have e1 : splice (A ++ Z) A.length pq = A ++ (pq ++ Z.drop pq.length) := by
    unfold splice
    rw [List.take_left', List.drop_append, List.drop_eq_nil_of_le (by omega)]
    · simp
    · rfl
  rw [e1]
  unfold splice
  have e2 : (A ++ (pq ++ Z.drop pq.length)).take (A.length + pq.length) = A ++ pq := by
    rw [← List.append_assoc]
    exact List.take_left' (by simp)
  rw [e2, ← List.append_assoc (A ++ pq), List.take_left' (by simp; omega), List.append_assoc]
theorem ins_shift {α : Type} {cur X pq : List α} {o n : Nat} (hX : cur.take n = X) (hn : X.length = n) (ho : o ≤ n) (hl : n + pq.length ≤ cur.length) : (splice (splice cur (o + pq.length) (X.drop o)) o pq).take (n + pq.length) = X.take o ++ (pq ++ X.drop o) := by
  have hd : (X.drop o).length = n - o := by rw [List.length_drop, hn]
  apply List.ext_getElem?
  intro j
  rw [List.getElem?_take]
  by_cases hj : j < n + pq.length
  · rw [if_pos hj, splice_get (by rw [splice_length (by omega)]; omega)]
    by_cases h1 : o ≤ j ∧ j < o + pq.length
    · rw [if_pos h1, List.getElem?_append_right (by simp; omega), List.getElem?_append_left (by simp; omega)]
      congr 1
      simp; omega
    · rw [if_neg h1, splice_get (by omega)]
      by_cases h2 : j < o
      · rw [if_neg (by omega), List.getElem?_append_left (by simp; omega), List.getElem?_take, if_pos h2, ← hX, List.getElem?_take, if_pos (by omega)]
      · rw [if_pos (by omega), List.getElem?_append_right (by simp; omega), List.getElem?_append_right (by simp; omega)]
        congr 1
        simp; omega
  · rw [if_neg hj, List.getElem?_eq_none (by simp; omega)]

theorem mdVs_take : ∀ (l : List (ByteArray × ByteArray)) (i : Nat), mdVs (l.take i) = (mdVs l).take (i * 2)
  | [], i => by simp [mdVs]
  | a :: r, 0 => by simp [mdVs]
  | a :: r, i + 1 => by
    have ih := mdVs_take r i
    have e : mdVs (a :: r) = .string a.1 :: .string a.2 :: mdVs r := rfl
    have e2 : mdVs (a :: r.take i) = .string a.1 :: .string a.2 :: mdVs (r.take i) := rfl
    rw [List.take_succ_cons, e, e2, ih, show (i + 1) * 2 = i * 2 + 1 + 1 by omega, List.take_succ_cons, List.take_succ_cons]
theorem mdVs_drop : ∀ (l : List (ByteArray × ByteArray)) (i : Nat), mdVs (l.drop i) = (mdVs l).drop (i * 2)
  | [], i => by simp [mdVs]
  | a :: r, 0 => by simp [mdVs]
  | a :: r, i + 1 => by
    have ih := mdVs_drop r i
    have e : mdVs (a :: r) = .string a.1 :: .string a.2 :: mdVs r := rfl
    rw [List.drop_succ_cons, e, ih, show (i + 1) * 2 = i * 2 + 1 + 1 by omega, List.drop_succ_cons, List.drop_succ_cons]
theorem mdVs_ins (l : List (ByteArray × ByteArray)) (i : Nat) (p q : ByteArray) : mdVs (l.take i ++ (p, q) :: l.drop i) = (mdVs l).take (i * 2) ++ ([.string p, .string q] ++ (mdVs l).drop (i * 2)) := by
  rw [mdVs_append, mdVs_take, ← mdVs_drop]; rfl

/-- what Insert hands back -/
def InsOut (base : Nat) (v : Value) (L : List (ByteArray × ByteArray)) (w : World) (e : Ending) (w' : World) : Prop :=
  ∃ v', e = .returned v' ∧ w'.ownsRow base 26 2 v' L.length (mdVs L) ∧ Below base w w' ∧ w.grownBy w' v.ownBlock

theorem pq_cells {w : World} {vb : Nat} {p q : ByteArray} (hv : w.heap[vb]? = some (.cells #[.string p, .string q] 26 (0, 0))) : ∀ j u, ([.string p, .string q] : List Value)[j]? = some u → w.cell? ((⟨vb, 0, none⟩ : Addr).add j) = some u :=
  World.news_of_block (cs := #[.string p, .string q]) hv

set_option maxHeartbeats 2000000 in
set_option maxRecDepth 100000 in
/-- at the end -/
theorem insertM_end (base : Nat) (v : Value) (L : List (ByteArray × ByteArray)) (vb : Nat) (p q : ByteArray) (w : World) (hown : w.ownsRow base 26 2 v L.length (mdVs L)) (hl : L.length ≤ 1000000) (hb : base ≤ w.heap.size) (hv : w.heap[vb]? = some (.cells #[.string p, .string q] 26 (0, 0))) :
    Calls Tryz.prog 83 #[v, .int .i64 L.length, .slice (some ⟨vb, 0, none⟩) 1 1] w (InsOut base v (L.take L.length ++ (p, q) :: L.drop L.length) w) := by
  obtain ⟨i0, hi, hz0, hz1, hz2⟩ := info_parts Tryz.infoMod
  have hpq := Lib.hid (pq_cells hv)
  have hge : ∀ k, v.ownBlock = some k → base ≤ k := fun k hk => (hown.lt k hk).1
  have ho := Lib.hid hown
  have hfin : L.take L.length ++ (p, q) :: L.drop L.length = L ++ [(p, q)] := by simp
  rw [hfin]
  have HE := Lib.hid (mdVs_append L [(p, q)])
  rcases hown.2 with ⟨rfl, h0⟩ | ⟨g, cap, cur, rfl, hbg, hg, hn, hm, hs, ht⟩
  · have : L = [] := List.eq_nil_of_length_eq_zero h0
    subst this
    clear hown h0
    go_enter Tryz.func83, Tryz.ntmps83
    go_wp2_with (at_builtin; refine wpList_append_own _ rfl _ _ 22 rfl base 26 i0 (.agg #[.string ⟨#[]⟩, .string ⟨#[]⟩]) 2 32 Tryz.underlying22 hi hz0 hz1 hz2 rfl (by decide) _ _ _ rfl ho.out ⟨vb, 0, none⟩ 1 1 [.string p, .string q] rfl rfl hpq.out (by intro u hu; simp at hu; rcases hu with rfl | rfl <;> rfl) (by decide) (by decide) hb ?_; intro v' w1 hown1 hgrow1 _)
    go_ret
    exact ⟨v', rfl, hown1, (Below.refl _ w).grown hgrow1 hb hge, hgrow1⟩
  · clear hown hg hn hm hs ht
    generalize hN : L.length = n at *
    go_enter Tryz.func83, Tryz.ntmps83
    go_wp2_with (at_builtin; refine wpList_append_own _ rfl _ _ 22 rfl base 26 i0 (.agg #[.string ⟨#[]⟩, .string ⟨#[]⟩]) 2 32 Tryz.underlying22 hi hz0 hz1 hz2 rfl (by decide) _ _ _ rfl ho.out ⟨vb, 0, none⟩ 1 1 [.string p, .string q] rfl rfl hpq.out (by intro u hu; simp at hu; rcases hu with rfl | rfl <;> rfl) (by unfold maxLen; omega) (by omega) hb ?_; intro v' w1 hown1 hgrow1 _)
    all_goals
      go_ret
      exact ⟨v', rfl, by rw [HE.out, List.length_append, hN]; exact hown1, (Below.refl _ w).grown hgrow1 hb hge, hgrow1⟩

set_option maxHeartbeats 4000000 in
set_option maxRecDepth 100000 in
/-- ahead of the end, with room -/
theorem insertM_shift (base g cap : Nat) (cur : Array Value) (L : List (ByteArray × ByteArray)) (i vb : Nat) (p q : ByteArray) (w : World) (hbg : base ≤ g) (hg : w.heap[g]? = some (.cells cur 26 (0, 0))) (hroom : L.length + 1 ≤ cap) (hm : cap ≤ maxLen) (hs : cur.size = cap * 2) (ht : cur.toList.take (L.length * 2) = mdVs L) (hi : i < L.length) (hl : L.length ≤ 1000000) (hv : w.heap[vb]? = some (.cells #[.string p, .string q] 26 (0, 0))) (hne : vb ≠ g) :
    Calls Tryz.prog 83 #[.slice (some ⟨g, 0, none⟩) L.length cap, .int .i64 i, .slice (some ⟨vb, 0, none⟩) 1 1] w (InsOut base (.slice (some ⟨g, 0, none⟩) L.length cap) (L.take i ++ (p, q) :: L.drop i) w) := by
  have hsz : (Tryz.prog.info? 26).map (·.size) = some 2 := by
    obtain ⟨i0, hi, hz0, hz1, hz2⟩ := info_parts Tryz.infoMod
    rw [hi]; simp [hz1]
  have mixed : Tryz.prog.follows Departure.mixedOrders = true := by kernel_rfl
  have hpq := Lib.hid (pq_cells hv)
  unfold maxLen at hm
  have hXl : (mdVs L).length = L.length * 2 := mdVs_length L
  have hdl : ((mdVs L).drop (i * 2)).length = (L.length - i) * 2 := by rw [List.length_drop, hXl]; omega
  have hov : ∀ o lb cb, (callFunc 134 #[.slice (some ⟨vb, 0, none⟩) 1 1, .slice (some ⟨g, o, none⟩) lb cb]).run Tryz.prog w = .ok (.value (.bool false)) w := fun o lb cb => by
    rw [run_callFunc_extern Tryz.func134 (by kernel_rfl) (by kernel_rfl) (by kernel_rfl) (e := Extern.SlicesOverlaps.overlaps #[22, 22] #[4]) (by kernel_rfl),
      Lib.run_overlaps_apart w 22 4 26 Tryz.underlying22 2 Tryz.sizeOf26 ⟨vb, 0, none⟩ ⟨g, o, none⟩ 1 1 lb cb hne 26 26 2 (cap * 2) (by simp [World.shape?, hv]) (by simp [World.shape?, hg, hs]) (by omega) (by simp [World.frozen?, hv]) (by simp [World.frozen?, hv])]
    rfl
  have hsrc : Hid (∀ j v, ((mdVs L).drop (i * 2))[j]? = some v → w.cell? ⟨g, i * 2 + j, none⟩ = some v) := Lib.hid fun j v hj => by
    rw [List.getElem?_drop] at hj
    have hjl := (List.getElem?_eq_some_iff.1 hj).1
    rw [cell_of_row w g _ cur _ (0, 0) hg]
    rw [← ht, List.getElem?_take, if_pos (by omega)] at hj
    simpa using hj
  have hfin := Lib.hid (ins_shift (cur := cur.toList) (X := mdVs L) (pq := [.string p, .string q]) (o := i * 2) (n := L.length * 2) ht hXl (by omega) (by simp; omega))
  have hV := Lib.hid (mdVs_ins L i p q)
  have h1D : Hid (∀ v ∈ (mdVs L).drop (i * 2), v.oneCell' = true) := Lib.hid fun v hv => mdVs_one v (List.mem_of_mem_drop hv)
  have hg' : w.heap[g]? = some (.cells cur.toList.toArray 26 (0, 0)) := by rw [Array.toArray_toList]; exact hg
  have HG := Lib.hid hg'
  have hlen2 : (L.take i ++ (p, q) :: L.drop i).length = L.length + 1 := by simp; omega
  have HL2 := Lib.hid hlen2
  have hcl : cur.toList.length = cap * 2 := by simp [hs]
  have hw1 : IntKind.i64.wrap ((i : Int) + 1) = (i : Int) + 1 := by rw [IntKind.wrap_i64]; omega
  have hw2 : IntKind.i64.wrap ((L.length : Int) + 1) = (L.length : Int) + 1 := by rw [IntKind.wrap_i64]; omega
  have hb1 : (0 : Int) ≤ (i : Int) + 1 := by omega
  have htn : ((i : Int) + 1).toNat = i + 1 := by omega
  have htn2 : ((L.length : Int) + 1).toNat = L.length + 1 := by omega
  have hb2 : ¬ (cap = i + 1) := by omega
  have hb4 : ¬ (cap = i) := by omega
  have hb7 : (i : Int) ≤ (L.length : Int) + 1 := by omega
  have hb8 : (i : Int) ≤ (L.length : Int) := by omega
  have hb5 : ¬ ((i : Int) = (L.length : Int)) := by omega
  have hb6 : ¬ ((cap : Int) < (L.length : Int) + 1) := by omega
  generalize hD : (mdVs L).drop (i * 2) = D at *
  generalize hX : mdVs L = X at *
  generalize hNN : L.length = n at *
  have hmin : D.length = Nat.min (n + 1 - i) (n + 1 - (i + 1)) * 2 := by
    rw [hdl]; congr 1; simp only [Nat.min_def]; split <;> omega
  have hmin2 : ([.string p, .string q] : List Value).length = Nat.min 1 (n + 1 - i) * 2 := by
    have : Nat.min 1 (n + 1 - i) = 1 := by simp only [Nat.min_def]; split <;> omega
    rw [this]; rfl
  have hfit : (i + 1) * 2 + D.length ≤ cur.toList.length := by omega
  have hfit2 : i * 2 + ([.string p, .string q] : List Value).length ≤ (splice cur.toList ((i + 1) * 2) D).length := by
    rw [splice_length hfit]; simp; omega
  have HSZ := Lib.hid hcl
  have HM := Lib.hid (And.intro hmin (And.intro hmin2 (And.intro hfit hfit2)))
  clear hlen2 hg hg' hv ht hX hD hs hmin hmin2 hfit hfit2 hdl hcl hXl
  go_enter Tryz.func83, Tryz.ntmps83
  go_wp2_with (simp only [hov])
  go_region_law_o (refine step_copyK rfl (.tmp 73) (.tmp 76) 22 22 rfl 26 Tryz.underlying22 2 hsz g ((i + 1) * 2) (n + 1 - (i + 1)) (cap - (i + 1)) ⟨g, i * 2, none⟩ (n + 1 - i) (cap - i) (by simp [Act.eval, Act.put]) (by simp [Act.eval, Act.put]) cur.toList 26 HG.out D HM.out.1 (fun j v hj => by rw [Addr.add_lit]; exact hsrc.out j v hj) HM.out.2.2.1 h1D.out base w (Below.refl _ _).drew hbg ?_; intro w4 hg4 hb4 hc4)
  go_wp2_with (refine wpList_copyK rfl _ _ 22 22 rfl 26 Tryz.underlying22 2 hsz g (i * 2) _ _ ⟨vb, 0, none⟩ 1 1 rfl rfl _ 26 hg4.out [.string p, .string q] HM.out.2.1 (fun j v hj => hc4.out.cell (hpq.out j v hj) (by rw [Addr.add_lit]; simpa using hne)) HM.out.2.2.2 (by intro u hu; simp at hu; rcases hu with rfl | rfl <;> rfl) base w hb4 hbg ?_; intro w5 hg5 hb5 hc5)

  go_ret
  refine ⟨_, rfl, ⟨by rw [mdVs_length], .inr ⟨g, cap, _, by rw [HL2.out]; rfl, hbg, hg5.out, by rw [HL2.out]; exact hroom, by unfold maxLen; omega, ?_, ?_⟩⟩, hb5, grownBy_trans (w1 := w4) (grownBy_undrawn hc4.out) hc5.out⟩
  · have h1 := splice_length HM.out.2.2.1
    have h2 := splice_length HM.out.2.2.2
    rw [h1, HSZ.out] at h2
    simpa using h2
  · rw [HL2.out, hV.out, ← hfin.out]
    simp only [List.length_cons, List.length_nil]
    rw [show (n + 1) * 2 = n * 2 + 2 by omega, show (i + 1) * 2 = i * 2 + 2 by omega]

theorem zeroCells_len (z : Array Value) (h : z.size = 2) (n : Nat) : (Builtin.zeroCells z n).toList.length = n * 2 := by
  simp [Builtin.zeroCells, h]

set_option maxHeartbeats 4000000 in
set_option maxRecDepth 100000 in
/-- ahead of the end, with no room -/
theorem insertM_grow (base g cap : Nat) (cur : Array Value) (L : List (ByteArray × ByteArray)) (i vb : Nat) (p q : ByteArray) (w : World) (hb : base ≤ w.heap.size) (hg : w.heap[g]? = some (.cells cur 26 (0, 0))) (hnc : L.length ≤ cap) (hroom : cap < L.length + 1) (_hs : cur.size = cap * 2) (ht : cur.toList.take (L.length * 2) = mdVs L) (hi : i < L.length) (hl : L.length ≤ 1000000) (hv : w.heap[vb]? = some (.cells #[.string p, .string q] 26 (0, 0))) :
    Calls Tryz.prog 83 #[.slice (some ⟨g, 0, none⟩) L.length cap, .int .i64 i, .slice (some ⟨vb, 0, none⟩) 1 1] w (InsOut base (.slice (some ⟨g, 0, none⟩) L.length cap) (L.take i ++ (p, q) :: L.drop i) w) := by
  obtain ⟨i0, hi0, hz0, hz1, hz2⟩ := info_parts Tryz.infoMod
  have hsz : (Tryz.prog.info? 26).map (·.size) = some 2 := by rw [hi0]; simp [hz1]
  have mixed : Tryz.prog.follows Departure.mixedOrders = true := by kernel_rfl
  have hXl : (mdVs L).length = L.length * 2 := mdVs_length L
  have hdl : ((mdVs L).drop (i * 2)).length = (L.length - i) * 2 := by rw [List.length_drop, hXl]; omega
  have hal : ((mdVs L).take (i * 2)).length = i * 2 := by rw [List.length_take, hXl]; omega
  have hX : ∀ j v, (mdVs L)[j]? = some v → w.cell? ⟨g, j, none⟩ = some v := fun j v hj => by
    have hjl := (List.getElem?_eq_some_iff.1 hj).1
    rw [cell_of_row w g _ cur _ (0, 0) hg]
    rw [← ht, List.getElem?_take, if_pos (by omega)] at hj
    simpa using hj
  have hold : (Builtin.firstCells i0.size i (.slice (some ⟨g, 0, none⟩) i cap)).run Tryz.prog w.drew = .ok ((mdVs L).take (i * 2)).toArray w.drew := by
    rw [hz1]
    exact run_firstCells_some w.drew 2 i ⟨g, 0, none⟩ i cap _ hal (fun j v hj => by
      rw [Addr.add_lit, Nat.zero_add]
      rw [List.getElem?_take] at hj
      split at hj
      · exact hX j v hj
      · cases hj)
  obtain ⟨G, hG⟩ : ∃ G, G = grownCap w (L.length + 1) cap 26 := ⟨_, rfl⟩
  obtain ⟨Z, hZ⟩ : ∃ Z, Z = (Builtin.zeroCells (Value.agg #[.string ⟨#[]⟩, .string ⟨#[]⟩]).cells (L.length + 1 - i) ++ Builtin.zeroCells (Value.agg #[.string ⟨#[]⟩, .string ⟨#[]⟩]).cells (G - (L.length + 1))).toList := ⟨_, rfl⟩
  have hGn : L.length + 1 ≤ G := by rw [hG]; exact grownCap_ge w _ _ _
  have hG63 : G ≤ maxLen := by
    rw [hG]
    exact grownCap_le_maxLen w (L.length + 1) cap _ (by unfold maxLen; omega)
  have hZl : Z.length = (G - i) * 2 := by
    rw [hZ, Array.toList_append, List.length_append, zeroCells_len _ rfl, zeroCells_len _ rfl]; omega
  obtain ⟨W1, hW1⟩ : ∃ W1, W1 = w.drew.alloc (.cells ((mdVs L).take (i * 2) ++ Z).toArray 26) := ⟨_, rfl⟩
  have hrz : ∀ ty, (Builtin.append_ #[22, 3] ty #[.slice (some ⟨g, 0, none⟩) i cap, .int .i64 ((L.length : Int) + 1 - (i : Int))]).run Tryz.prog w =
      .ok (.slice (some ⟨w.heap.size, 0, none⟩) (L.length + 1) G) W1 := fun ty => by
    have h := Lib.run_append_grow_zeros w 22 3 ty 26 i0 _ .i64 .i64 Tryz.underlying22 Tryz.underlying3 hi0 hz0 (some ⟨g, 0, none⟩) i cap _ hold (L.length + 1 - i) (by omega) (by omega) (by omega) (by omega) (by rw [hz2]; omega) (by rw [hz2, show i + (L.length + 1 - i) = L.length + 1 by omega]; exact growslice_fits hroom (by omega))
    rw [show i + (L.length + 1 - i) = L.length + 1 by omega, ← hG] at h
    rw [show (L.length : Int) + 1 - (i : Int) = ((L.length + 1 - i : Nat) : Int) by omega, h, hW1, hZ]
    congr 4
    simp
  have hgw : g < w.heap.size := (Array.getElem?_eq_some_iff.1 hg).1
  have hvw : vb < w.heap.size := (Array.getElem?_eq_some_iff.1 hv).1
  have hBW : Below w.heap.size w W1 := by rw [hW1]; exact (Below.refl _ w).drew.alloc (Nat.le_refl _) _
  have hHW : W1.heap[w.heap.size]? = some (.cells ((mdVs L).take (i * 2) ++ Z).toArray 26 (0, 0)) := by rw [hW1]; exact Go.Deep.blk_alloc_new w.drew _
  have hpq : ∀ W, Below w.heap.size w W → ∀ j u, ([.string p, .string q] : List Value)[j]? = some u → W.cell? ((⟨vb, 0, none⟩ : Addr).add j) = some u := fun W hW => pq_cells (by rw [hW.block vb hvw]; exact hv)
  have hsrc : ∀ W, Below w.heap.size w W → ∀ j v, ((mdVs L).drop (i * 2))[j]? = some v → W.cell? ((⟨g, i * 2, none⟩ : Addr).add j) = some v := fun W hW j v hj => by
    rw [Addr.add_lit]
    rw [List.getElem?_drop] at hj
    exact Below.cell_some hW (hX _ _ hj)
  have h1D : ∀ v ∈ (mdVs L).drop (i * 2), v.oneCell' = true := fun v hv => mdVs_one v (List.mem_of_mem_drop hv)
  have hfin := ins_grow (A := (mdVs L).take (i * 2)) (Z := Z) (pq := [.string p, .string q]) (D := (mdVs L).drop (i * 2)) (o := i * 2) hal (by simp only [List.length_cons, List.length_nil]; rw [hal, hdl]; omega)
  have hV := mdVs_ins L i p q
  have hlen2 : (L.take i ++ (p, q) :: L.drop i).length = L.length + 1 := by simp; omega
  unfold maxLen at hG63
  have hw1 : IntKind.i64.wrap ((i : Int) + 1) = (i : Int) + 1 := by rw [IntKind.wrap_i64]; omega
  have hw2 : IntKind.i64.wrap ((L.length : Int) + 1) = (L.length : Int) + 1 := by rw [IntKind.wrap_i64]; omega
  have hw3 : IntKind.i64.wrap ((L.length : Int) + 1 - (i : Int)) = (L.length : Int) + 1 - (i : Int) := by rw [IntKind.wrap_i64]; omega
  have hb1 : (0 : Int) ≤ (i : Int) + 1 := by omega
  have htn : ((i : Int) + 1).toNat = i + 1 := by omega
  have hb2 : ¬ (G = i + 1) := by omega
  have hb3 : ¬ (G = i) := by omega
  have hb4 : ¬ (cap = i) := by omega
  have hb5 : ¬ ((i : Int) = (L.length : Int)) := by omega
  have hb6 : (cap : Int) < (L.length : Int) + 1 := by omega
  have hb7 : (i : Int) ≤ (L.length : Int) + 1 := by omega
  have hb8 : (i : Int) ≤ (L.length : Int) := by omega
  generalize hD : (mdVs L).drop (i * 2) = D at *
  generalize hA : (mdVs L).take (i * 2) = A at *
  generalize hXX : mdVs L = X at *
  generalize hNN : L.length = n at *
  have hmin : D.length = Nat.min (n - i) (n + 1 - (i + 1)) * 2 := by
    rw [hdl]; congr 1; simp only [Nat.min_def]; split <;> omega
  have hmin2 : ([.string p, .string q] : List Value).length = Nat.min 1 (n + 1 - i) * 2 := by
    have : Nat.min 1 (n + 1 - i) = 1 := by simp only [Nat.min_def]; split <;> omega
    rw [this]; rfl
  have hAZ : (A ++ Z).length = G * 2 := by rw [List.length_append, hal, hZl]; omega
  have hfit2 : i * 2 + ([.string p, .string q] : List Value).length ≤ (A ++ Z).length := by rw [hAZ]; simp; omega
  have hfit : (i + 1) * 2 + D.length ≤ (splice (A ++ Z) (i * 2) [.string p, .string q]).length := by
    rw [splice_length hfit2, hAZ]; omega
  have HM := Lib.hid (And.intro hmin (And.intro hmin2 (And.intro hfit (And.intro hfit2 hAZ))))
  have HR := Lib.hid (And.intro hrz (And.intro hHW hBW))
  have HS := Lib.hid (And.intro hpq (And.intro hsrc h1D))
  have HF := Lib.hid (And.intro hfin (And.intro hV hlen2))
  clear hmin hmin2 hfit hfit2 hAZ hrz hHW hBW hpq hsrc h1D hfin hV hlen2 hW1 hZ hG hold hX hXl hdl hal ht hg hv hD hA hXX hZl _hs
  go_enter Tryz.func83, Tryz.ntmps83
  go_wp2_with (first
    | (at_builtin; refine Lib.wpList_append_run _ rfl _ _ _ _ rfl _ _ rfl rfl _ _ (HR.out.1 _) ?_)
    | (refine wpList_copyK rfl _ _ 22 22 rfl 26 Tryz.underlying22 2 hsz w.heap.size (i * 2) _ _ ⟨vb, 0, none⟩ 1 1 rfl rfl _ 26 HR.out.2.1 [.string p, .string q] HM.out.2.1 (HS.out.1 W1 HR.out.2.2) HM.out.2.2.2.1 (by intro u hu; simp at hu; rcases hu with rfl | rfl <;> rfl) w.heap.size w HR.out.2.2 (Nat.le_refl _) ?_; intro w2 hg2 hb9 _))
  go_region_law_o (refine step_copyK rfl (.tmp 50) (.tmp 53) 22 22 rfl 26 Tryz.underlying22 2 hsz w.heap.size ((i + 1) * 2) (n + 1 - (i + 1)) (G - (i + 1)) ⟨g, i * 2, none⟩ (n - i) (cap - i) (by simp [Act.eval, Act.put]) (by simp [Act.eval, Act.put]) _ 26 hg2.out D HM.out.1 (HS.out.2.1 w2.drew hb9.drew) HM.out.2.2.1 HS.out.2.2 w.heap.size w hb9.drew (Nat.le_refl _) ?_; intro w4 hg4 hb10 _)
  go_wp2_with fail
  go_ret
  refine ⟨_, rfl, ⟨by rw [mdVs_length], .inr ⟨w.heap.size, G, _, by rw [HF.out.2.2]; rfl, hb, hg4.out, by rw [HF.out.2.2]; exact hGn, by unfold maxLen; omega, ?_, ?_⟩⟩, hb10.mono hb, grownBy_below _ hb10⟩
  · have h1 := splice_length HM.out.2.2.1
    have h2 := splice_length HM.out.2.2.2.1
    rw [h2, HM.out.2.2.2.2] at h1
    simpa using h1
  · rw [HF.out.2.2, HF.out.2.1, ← HF.out.1]
    simp only [List.length_cons, List.length_nil]
    have e := HM.out.1
    have : Nat.min (n - i) (n + 1 - (i + 1)) = n - i := by simp only [Nat.min_def]; split <;> omega
    rw [this] at e
    rw [show (n + 1) * 2 = i * 2 + 2 + D.length by omega, show (i + 1) * 2 = i * 2 + 2 by omega]

/-- slices.Insert of one module, into a row of one's own -/
theorem insertM_calls (base : Nat) (v : Value) (L : List (ByteArray × ByteArray)) (i vb : Nat) (p q : ByteArray) (w : World) (hown : w.ownsRow base 26 2 v L.length (mdVs L)) (hi : i ≤ L.length) (hl : L.length ≤ 1000000) (hb : base ≤ w.heap.size) (hv : w.heap[vb]? = some (.cells #[.string p, .string q] 26 (0, 0))) (hne : v.ownBlock ≠ some vb) :
    Calls Tryz.prog 83 #[v, .int .i64 i, .slice (some ⟨vb, 0, none⟩) 1 1] w (InsOut base v (L.take i ++ (p, q) :: L.drop i) w) := by
  by_cases hi2 : i = L.length
  · subst hi2
    exact insertM_end base v L vb p q w hown hl hb hv
  · rcases hown.2 with ⟨rfl, h0⟩ | ⟨g, cap, cur, rfl, hbg, hg, hn, hm, hs, ht⟩
    · omega
    · by_cases hroom : L.length + 1 ≤ cap
      · exact insertM_shift base g cap cur L i vb p q w hbg hg hroom hm hs ht (by omega) hl hv (fun e => hne (by rw [e]; rfl))
      · exact insertM_grow base g cap cur L i vb p q w hb hg hn (by omega) hs ht (by omega) hl hv
end Go.Proofs.Pw

/- file.Set. -/
namespace Go.Proofs.Pw
open Go.RowKit
open Go.Lib hiding intOf

theorem mdVs_put (l : List (ByteArray × ByteArray)) (k : Nat) (p q : ByteArray) : mdVs (l.take k ++ (p, q) :: l.drop (k + 1)) = (mdVs l).take (k * 2) ++ ([.string p, .string q] ++ (mdVs l).drop ((k + 1) * 2)) := by
  rw [mdVs_append, mdVs_take, ← mdVs_drop]; rfl
theorem put_list {α : Type} (X : List α) (o : Nat) (a b : α) (h : o + 2 ≤ X.length) : (X.set o a).set (o + 1) b = X.take o ++ ([a, b] ++ X.drop (o + 2)) := by
  apply List.ext_getElem?
  intro j
  rw [List.getElem?_set, List.getElem?_set]
  by_cases h1 : j < o
  · rw [if_neg (by omega), if_neg (by omega), List.getElem?_append_left (by simp; omega), List.getElem?_take, if_pos h1]
  · rw [List.getElem?_append_right (by simp; omega)]
    simp only [List.length_take]
    rw [show j - min o X.length = j - o by omega]
    by_cases h2 : j < o + 2
    · rw [List.getElem?_append_left (by simp; omega)]
      by_cases h3 : j = o
      · subst h3
        rw [if_neg (by omega), if_pos rfl, if_pos (by omega)]; simp
      · obtain rfl : j = o + 1 := by omega
        rw [if_pos rfl, if_pos (by simp; omega), show o + 1 - o = 1 by omega]; rfl
    · rw [if_neg (by omega), if_neg (by omega), List.getElem?_append_right (by simp; omega), List.getElem?_drop]
      congr 1; simp; omega
theorem ownsRow_put {w : World} {base e g cap k : Nat} {L : List (ByteArray × ByteArray)} {p q : ByteArray} (h : w.ownsRow base e 2 (.slice (some ⟨g, 0, none⟩) L.length cap) L.length (mdVs L)) (hk : k < L.length) :
    ((w.setCell ⟨g, k * 2, none⟩ (.string p)).setCell ⟨g, k * 2 + 1, none⟩ (.string q)).ownsRow base e 2 (.slice (some ⟨g, 0, none⟩) L.length cap) L.length (mdVs (L.take k ++ (p, q) :: L.drop (k + 1))) := by
  have hl : (L.take k ++ (p, q) :: L.drop (k + 1)).length = L.length := by simp; omega
  refine ⟨by rw [mdVs_length, hl], ?_⟩
  rcases h.2 with ⟨h1, h2⟩ | ⟨g', c, cur, h1, hb, hg, hn, hm, hs, ht⟩
  · omega
  · injection h1 with h1 _ h3
    injection h1 with h1
    injection h1 with h1
    subst h1 h3
    have hX : (mdVs L).length = L.length * 2 := mdVs_length L
    have e1 := setCell_eq_setRow w g (k * 2) cur e (0, 0) (.string p) hg
    have e2 := setRow_heap w g cur (cur.setIfInBounds (k * 2) (.string p)) e (0, 0) hg
    have e3 := setCell_eq_setRow (w.setRow g (cur.setIfInBounds (k * 2) (.string p))) g (k * 2 + 1) _ e (0, 0) (.string q) e2
    have e4 := setRow_heap _ g _ ((cur.setIfInBounds (k * 2) (.string p)).setIfInBounds (k * 2 + 1) (.string q)) e (0, 0) e2
    refine .inr ⟨g, cap, _, rfl, hb, by rw [e1, e3]; exact e4, hn, hm, by simp [hs], ?_⟩
    rw [mdVs_put, show (k + 1) * 2 = k * 2 + 2 by omega, ← put_list _ _ _ _ (by omega), ← ht]
    rw [Array.toList_setIfInBounds, Array.toList_setIfInBounds, List.take_set, List.take_set]

theorem mdTs_put (L : List (ByteArray × ByteArray)) (k j : Nat) (p q : ByteArray) : mdTs (L.take k ++ (p, q) :: L.drop j) = (mdTs L).take k ++ (p.data.toList, q.data.toList) :: (mdTs L).drop j := by
  simp [mdTs, List.map_take, List.map_drop]
theorem mods_of {w : World} {v : Value} {l : List Md} (h : ModsAt w v l) : ∃ L, l = mdTs L := by
  obtain ⟨a, n, cap, P, V, _, rfl, _⟩ := h
  exact ⟨mdL n P V, (mdL_ts n P V).symm⟩

/-- a box of three cells, stored to whole -/
def st3 (w : World) (b : Nat) (u0 u1 u2 : Value) : World := ((w.setCell ⟨b, 0, none⟩ u0).setCell ⟨b, 1, none⟩ u1).setCell ⟨b, 2, none⟩ u2
theorem Box3f.st {w : World} {b : Nat} {v0 v1 v2 : Value} (h : Box3f w b v0 v1 v2) (u0 u1 u2 : Value) : Box3f (st3 w b u0 u1 u2) b u0 u1 u2 := ((h.set0 u0).set1 u1).set2 u2
theorem Box3f.sto {w : World} {b c : Nat} {v0 v1 v2 : Value} (h : Box3f w b v0 v1 v2) (hc : b ≠ c) (u0 u1 u2 : Value) : Box3f (st3 w c u0 u1 u2) b v0 v1 v2 := ((h.other hc u0).other hc u1).other hc u2
theorem cell_sto {w : World} {b c j : Nat} {v : Value} (h : w.cell? ⟨b, j, none⟩ = some v) (hc : b ≠ c) (u0 u1 u2 : Value) : (st3 w c u0 u1 u2).cell? ⟨b, j, none⟩ = some v := by
  unfold st3
  rw [set_blk u2 hc, set_blk u1 hc, set_blk u0 hc]; exact h
theorem ownsRow_sto {w : World} {base e k n b : Nat} {v : Value} {xs : List Value} (h : w.ownsRow base e k v n xs) (hn : v.ownBlock ≠ some b) (u0 u1 u2 : Value) : (st3 w b u0 u1 u2).ownsRow base e k v n xs := ownsRow_set (ownsRow_set (ownsRow_set h hn u0) hn u1) hn u2
theorem below_sto {w w' : World} {B b : Nat} (h : Below B w w') (hb : B ≤ b) (u0 u1 u2 : Value) : Below B w (st3 w' b u0 u1 u2) := ((h.setCell (p := ⟨b, 0, none⟩) hb u0).setCell (p := ⟨b, 1, none⟩) hb u1).setCell (p := ⟨b, 2, none⟩) hb u2
theorem ModsAt.sto {w : World} {v : Value} {l : List Md} {c : Nat} (h : ModsAt w v l) (hc : ∀ q n m, v = .slice (some q) n m → q.block ≠ c) (u0 u1 u2 : Value) : ModsAt (st3 w c u0 u1 u2) v l := ((h.other hc u0).other hc u1).other hc u2
theorem Box3f.grownBy {w w' : World} {b : Nat} {v0 v1 v2 : Value} {r : Option Nat} (h : Box3f w b v0 v1 v2) (hg : w.grownBy w' r) (hr : some b ≠ r) : Box3f w' b v0 v1 v2 :=
  ⟨hg.cell h.c0 hr, hg.cell h.c1 hr, hg.cell h.c2 hr, fun i => (hg.frozen_far ⟨b, i, none⟩ (show b < w.heap.size from lt_of_cell h.c0) hr).trans (h.fz i)⟩
theorem own_some {v : Value} {k : Nat} (h : v.ownBlock = some k) : ∃ q n m, v = .slice (some q) n m ∧ q.block = k := by
  cases v with
  | slice a n m =>
    cases a with
    | none => cases h
    | some q => exact ⟨q, n, m, rfl, Option.some.inj h⟩
  | _ => cases h
theorem ne_own {v : Value} {k : Nat} (h : ∀ q n m, v = .slice (some q) n m → q.block ≠ k) : v.ownBlock ≠ some k := fun e => by
  obtain ⟨q, n, m, e1, e2⟩ := own_some e
  exact h q n m e1 e2

/-- what Set and Drop hand back -/
def SetOut (A : Nat → Addr) (g : Fl × Nat) (w : World) (e : Ending) (w' : World) : Prop :=
  (∃ (p : ByteArray) (r x : Value), e = .returned (.tuple #[.agg #[.string p, r, x], errV A g.2]) ∧ p.data.toList = g.1.path ∧ ModsAt w' r g.1.reqs ∧ ModsAt w' x g.1.excl) ∧ Below w.heap.size w w'
theorem setOut_err {A : Nat → Addr} {w w' : World} {k : Nat} (h : Below w.heap.size w w') : SetOut A (noFl, k) w (.returned (.tuple #[.agg #[.string ⟨#[]⟩, .slice none 0 0, .slice none 0 0], errV A k])) w' :=
  ⟨⟨⟨#[]⟩, _, _, rfl, rfl, ModsAt.nil _, ModsAt.nil _⟩, h⟩
theorem fileSet_err {f : Fl} {m : Md} (h : (fileErr f).1 ≠ 0) : fileSet f m = (noFl, (fileErr f).1) := by unfold fileSet; rw [if_pos h]
theorem fileSet_err2 {f : Fl} {m : Md} (h : (fileErr f).1 = 0) (h2 : (fileErr { f with reqs := setAt f.reqs m }).1 ≠ 0) : fileSet f m = (noFl, (fileErr { f with reqs := setAt f.reqs m }).1) := by unfold fileSet; rw [if_neg (by simp [h]), if_pos h2]
theorem fileSet_ok {f : Fl} {m : Md} (h : (fileErr f).1 = 0) (h2 : (fileErr { f with reqs := setAt f.reqs m }).1 = 0) : fileSet f m = ({ f with reqs := setAt f.reqs m }, 0) := by unfold fileSet; rw [if_neg (by simp [h]), if_neg (by simp [h2])]
theorem setAt_len_le (l : List Md) (m : Md) : (setAt l m).length ≤ l.length + 1 := by
  rcases setAt_cases l m with ⟨x, hx, _, e⟩ | ⟨_, e⟩ <;> (rw [e]; have := lowAt_le m.1 l; simp; omega)
theorem setAt_mem {l : List Md} {m x : Md} (h : x ∈ setAt l m) : x = m ∨ x ∈ l := by
  rcases setAt_cases l m with ⟨y, hy, _, e⟩ | ⟨_, e⟩ <;>
  · rw [e] at h
    rcases List.mem_append.1 h with h | h
    · exact .inr (List.mem_of_mem_take h)
    · rcases List.mem_cons.1 h with h | h
      · exact .inl h
      · exact .inr (List.mem_of_mem_drop h)


set_option maxHeartbeats 8000000 in
set_option maxRecDepth 100000 in
theorem fileSet_calls (ks : List Nat) (A : Nat → Addr) (hks : FileKs ks) (p mp mv : ByteArray) (rv xv : Value) (R X : List Md) (w : World) (hE : EnvP ks A w) (hr : ModsAt w rv R) (hx : ModsAt w xv X) (hp : p.size ≤ 1000000) (hsr : Short R) (hsx : Short X) (hR9 : R.length ≤ 900000) (hmp : mp.size ≤ 1000000) (hmv : mv.size ≤ 1000000) :
    Calls Tryz.prog 23 #[.agg #[.string p, rv, xv], .agg #[.string mp, .string mv]] w (SetOut A (fileSet ⟨p.data.toList, R, X⟩ (mp.data.toList, mv.data.toList)) w) := by
  have hb1 := below_alloc w (.cells #[.string p, rv, xv] 24)
  have hb2 := below_alloc (w.alloc (.cells #[.string p, rv, xv] 24)) (.cells #[.string mp, .string mv] 26)
  have hb3 := below_alloc ((w.alloc (.cells #[.string p, rv, xv] 24)).alloc (.cells #[.string mp, .string mv] 26)) (.cells #[.string ⟨#[]⟩, .slice none 0 0, .slice none 0 0] 24)
  have hB := below_step (below_step hb1 hb2) hb3
  have hz := ((box3f_alloc w (.string p) rv xv 24).below hb2).below hb3
  have hy := box3f_alloc ((w.alloc (.cells #[.string p, rv, xv] 24)).alloc (.cells #[.string mp, .string mv] 26)) (.string ⟨#[]⟩) (.slice none 0 0) (.slice none 0 0) 24
  simp only [World.size_alloc] at hy
  have hm0 := Below.cell_some hb3 (show ((w.alloc (.cells #[.string p, rv, xv] 24)).alloc (.cells #[.string mp, .string mv] 26)).cell? ⟨(w.alloc (.cells #[.string p, rv, xv] 24)).heap.size, 0, none⟩ = some (.string mp) by simp)
  have hm1 := Below.cell_some hb3 (show ((w.alloc (.cells #[.string p, rv, xv] 24)).alloc (.cells #[.string mp, .string mv] 26)).cell? ⟨(w.alloc (.cells #[.string p, rv, xv] 24)).heap.size, 1, none⟩ = some (.string mv) by simp)
  simp only [World.size_alloc] at hm0 hm1
  have hck := fun W hW h1 h2 => fileCheck_calls ks A hks p rv xv R X W hW h1 h2 hp hsr hsx
  have hcp := fun W h1 h2 => fileCopy_calls p rv xv R X W h1 h2 hsr.1 hsx.1
  obtain ⟨a1, n1, c1, _, _, rfl, _⟩ := id hr
  obtain ⟨a3, n3, c3, _, _, rfl, _⟩ := id hx
  replace hck := Lib.hid hck
  replace hcp := Lib.hid hcp
  replace hsr := Lib.hid hsr
  replace hsx := Lib.hid hsx
  clear hb1 hb2 hb3
  obtain ⟨z0, z1, z2, zf⟩ := id hz
  go_enter Tryz.func23, Tryz.ntmps23
  go_wp2_with fail
  generalize hw2 : ((w.alloc (.cells #[.string p, .slice a1 n1 c1, .slice a3 n3 c3] 24)).alloc (.cells #[.string mp, .string mv] 26)).alloc (.cells #[.string ⟨#[]⟩, .slice none 0 0, .slice none 0 0] 24) = w2 at *
  have hsz : w2.heap.size = w.heap.size + 3 := by rw [← hw2]; simp
  clear hw2
  refine (hck.out _ (hE.below hB) (hr.below hB) (hx.below hB)).mono ?_
  rintro e w3 ⟨⟨v, rfl, hv⟩, hb⟩
  have hs3 := hb.size
  replace hz := hz.below hb
  replace hy := hy.below hb
  replace hB := below_step hB hb
  replace hm0 := Below.cell_some hb hm0
  replace hm1 := Below.cell_some hb hm1
  clear hck z0 z1 z2 zf hb
  obtain ⟨z0, z1, z2, zf⟩ := id hz
  rcases fault_form hv with ⟨h0, rfl⟩ | ⟨h0, ty, q, rfl⟩
  · have hrise : Hid (RiseP R) := Lib.hid (right_of h0).rise
    replace h0 := Lib.hid h0
    clear hv
    go_wp2_with fail
    refine (hcp.out _ (hr.below hB) (hx.below hB)).mono ?_
    rintro e w4 ⟨⟨v1, v2, L1, L2, rfl, rfl, rfl, ho1, ho2, hap⟩, hb⟩
    have hs4 := hb.size
    obtain ⟨a5, n5, c5, rfl⟩ := own_form ho1
    obtain ⟨a6, n6, c6, rfl⟩ := own_form ho2
    replace hz := hz.below hb
    replace hy := hy.below hb
    replace hB := below_step hB hb
    replace hm0 := Below.cell_some hb hm0
    replace hm1 := Below.cell_some hb hm1
    clear z0 z1 z2 zf hb hcp
    obtain ⟨z0, z1, z2, zf⟩ := id hz
    have hge1 := own_ge ho1
    have hge2 := own_ge ho2
    replace hz := hz.st (.string p) (.slice a5 n5 c5) (.slice a6 n6 c6)
    replace hy := hy.sto (c := w.heap.size) (by omega) (.string p) (.slice a5 n5 c5) (.slice a6 n6 c6)
    replace hm0 := cell_sto (c := w.heap.size) hm0 (by omega) (.string p) (.slice a5 n5 c5) (.slice a6 n6 c6)
    replace hm1 := cell_sto (c := w.heap.size) hm1 (by omega) (.string p) (.slice a5 n5 c5) (.slice a6 n6 c6)
    replace ho1 := ownsRow_sto (b := w.heap.size) ho1 (own_ne ho1 (by omega)) (.string p) (.slice a5 n5 c5) (.slice a6 n6 c6)
    replace ho2 := ownsRow_sto (b := w.heap.size) ho2 (own_ne ho2 (by omega)) (.string p) (.slice a5 n5 c5) (.slice a6 n6 c6)
    replace hB := below_sto hB (b := w.heap.size) (Nat.le_refl _) (.string p) (.slice a5 n5 c5) (.slice a6 n6 c6)
    unfold st3 at hz hy hm0 hm1 ho1 ho2 hB
    have hbin := fun W h => binM_calls (.slice a5 n5 c5) (mdTs L1) mp W h hrise.out (by rw [mdTs_length] at hR9 ⊢; omega)
    have hM := fun (W : World) (h : World.ownsRow W w3.heap.size 26 2 (.slice a5 n5 c5) L1.length (mdVs L1)) => modsAt_own h
    replace hM := Lib.hid hM
    replace hap := Lib.hid hap
    obtain ⟨kk, hkk⟩ : ∃ kk : Nat, Hid (lowAt mp.data.toList (mdTs L1) = kk) := ⟨_, Lib.hid rfl⟩
    have hkl : kk ≤ L1.length := by have := lowAt_le mp.data.toList (mdTs L1); rw [hkk.out, mdTs_length] at this; exact this
    have hsr2 : Hid (Short (setAt (mdTs L1) (mp.data.toList, mv.data.toList))) := Lib.hid ⟨by
      have := setAt_len_le (mdTs L1) (mp.data.toList, mv.data.toList)
      omega, fun m hm => by
      rcases setAt_mem hm with rfl | hm
      · rw [size_eq] at hmp hmv
        exact ⟨hmp, hmv⟩
      · exact hsr.out.2 m hm⟩
    obtain ⟨u0, u1, u2, uf⟩ := id hz
    go_wp2_with fail
    have hs45 : w4.heap.size ≤ (((w4.setCell ⟨w.heap.size, 0, none⟩ (.string p)).setCell ⟨w.heap.size, 1, none⟩ (.slice a5 n5 c5)).setCell ⟨w.heap.size, 2, none⟩ (.slice a6 n6 c6)).heap.size := by simp
    generalize ((w4.setCell ⟨w.heap.size, 0, none⟩ (.string p)).setCell ⟨w.heap.size, 1, none⟩ (.slice a5 n5 c5)).setCell ⟨w.heap.size, 2, none⟩ (.slice a6 n6 c6) = w5 at *
    have hs5 : w3.heap.size ≤ w5.heap.size := Nat.le_trans hs4 hs45
    clear z0 z1 z2 zf
    by_cases hit : (mdTs L1)[kk]?.map (·.1) = some mp.data.toList
    · have hset : setAt (mdTs L1) (mp.data.toList, mv.data.toList) = mdTs (L1.take kk ++ (mp, mv) :: L1.drop (kk + 1)) := by
        rw [mdTs_put]
        unfold setAt
        rw [hkk.out, if_pos hit]
      have hklt : kk < L1.length := by
        rcases Nat.lt_or_ge kk L1.length with h | h
        · exact h
        · rw [List.getElem?_eq_none (by rw [mdTs_length]; exact h)] at hit
          cases hit
      rw [hkk.out, decide_eq_true hit] at hbin
      refine (hbin w5 (hM.out _ ho1)).mono ?_
      rintro e w6 ⟨rfl, hb⟩
      replace hz := hz.below hb
      replace hy := hy.below hb
      replace hm0 := Below.cell_some hb hm0
      replace hm1 := Below.cell_some hb hm1
      replace ho1 := ownsRow_kept ho1 hb
      replace ho2 := ownsRow_kept ho2 hb
      replace hB := below_step hB hb
      clear hit hbin hb u0 u1 u2 uf
      obtain ⟨g, rfl, rfl, hbg, hcs⟩ : ∃ g, a5 = some ⟨g, 0, none⟩ ∧ n5 = L1.length ∧ w3.heap.size ≤ g ∧ w6.heap[g]? ≠ none := by
        rcases ho1.2 with ⟨h, h2⟩ | ⟨g, c, cur, h, h2, h3, _⟩
        · omega
        · injection h with h4 h5 h6
          exact ⟨g, h4, h5, h2, by rw [h3]; simp⟩
      have hput := ownsRow_put (p := mp) (q := mv) ho1 hklt
      have hgs : w.heap.size ≤ g := by omega
      have hl2 : (L1.take kk ++ (mp, mv) :: L1.drop (kk + 1)).length = L1.length := by simp; omega
      have hM1 : ModsAt ((w6.setCell ⟨g, kk * 2, none⟩ (.string mp)).setCell ⟨g, kk * 2 + 1, none⟩ (.string mv)) (.slice (some ⟨g, 0, none⟩) L1.length c5) (setAt (mdTs L1) (mp.data.toList, mv.data.toList)) := by
        rw [hset]
        exact modsAt_own (base := w3.heap.size) (e := 26) (by rw [hl2]; exact hput)
      have hn1 : (Value.slice (some ⟨g, 0, none⟩) L1.length c5).ownBlock ≠ none := by simp [Value.ownBlock]
      have hM2 := ((modsAt_own ho2).other (c := g) (k := kk * 2) (fun q n m e => fun e2 => hap.out g rfl (by rw [e]; exact congrArg some e2)) (.string mp)).other (c := g) (k := kk * 2 + 1) (fun q n m e => fun e2 => hap.out g rfl (by rw [e]; exact congrArg some e2)) (.string mv)
      obtain ⟨x0, x1, x2⟩ : (∃ v, w6.cell? ⟨g, kk * 2, none⟩ = some v) ∧ (∃ v, w6.cell? ⟨g, kk * 2 + 1, none⟩ = some v) ∧ ∀ i, w6.frozen? ⟨g, i, none⟩ = false := by
        rcases ho1.2 with ⟨h, h2⟩ | ⟨g', c, cur, h, h2, h3, h4, h5, h6, h7⟩
        · omega
        · injection h with h8 h9 h10
          injection h8 with h8
          injection h8 with h8
          subst h8
          have hX := mdVs_length L1
          refine ⟨⟨(mdVs L1)[kk * 2], ?_⟩, ⟨(mdVs L1)[kk * 2 + 1], ?_⟩, fun i => by simp [World.frozen?, h3]⟩
          · rw [cell_of_row w6 g _ cur _ (0, 0) h3]
            have e : (mdVs L1)[kk * 2]? = some (mdVs L1)[kk * 2] := List.getElem?_eq_getElem _
            rw [← e, ← h7, List.getElem?_take, if_pos (by omega)]
            simp
          · rw [cell_of_row w6 g _ cur _ (0, 0) h3]
            have e : (mdVs L1)[kk * 2 + 1]? = some (mdVs L1)[kk * 2 + 1] := List.getElem?_eq_getElem _
            rw [← e, ← h7, List.getElem?_take, if_pos (by omega)]
            simp
      obtain ⟨x0v, x0⟩ := x0
      obtain ⟨x1v, x1⟩ := x1
      obtain ⟨z0, z1, z2, zf⟩ := id hz
      replace hz := (hz.other (c := g) (k := kk * 2) (by omega) (.string mp)).other (c := g) (k := kk * 2 + 1) (by omega) (.string mv)
      replace hy := (hy.other (c := g) (k := kk * 2) (by omega) (.string mp)).other (c := g) (k := kk * 2 + 1) (by omega) (.string mv)
      replace hB := (hB.setCell (p := ⟨g, kk * 2, none⟩) hgs (.string mp)).setCell (p := ⟨g, kk * 2 + 1, none⟩) hgs (.string mv)
      have hnn1 : ∀ q n m, Value.slice (some ⟨g, 0, none⟩) L1.length c5 = .slice (some q) n m → q.block ≠ w.heap.size + 2 := fun q n m e => by
        injection e with e _ _
        injection e with e
        rw [← e]
        show g ≠ _
        omega
      have hnn2 : ∀ q n m, Value.slice a6 n6 c6 = .slice (some q) n m → q.block ≠ w.heap.size + 2 := fun q n m e => by have := hge2 q n m e; omega
      have HN := Lib.hid (And.intro hnn1 hnn2)
      have hk1 : (kk : Int) < (L1.length : Int) := by omega
      replace hput := Lib.hid hput
      clear ho1 ho2 hge1 hge2 hn1 hnn1 hnn2 hap hcs hset hl2
      obtain ⟨u0, u1, u2, uf⟩ := id hz
      go_wp2_with fail
      generalize (w6.setCell ⟨g, kk * 2, none⟩ (.string mp)).setCell ⟨g, kk * 2 + 1, none⟩ (.string mv) = w7 at *
      clear z0 z1 z2 zf x0 x1 x2 hm0 hm1
      obtain ⟨z0, z1, z2, zf⟩ := id hz
      have hck2 := fileCheck_calls ks A hks p _ _ (setAt (mdTs L1) (mp.data.toList, mv.data.toList)) (mdTs L2) _ (hE.below hB) hM1 hM2 hp hsr2.out hsx.out
      replace hck2 := Lib.hid hck2
      go_wp2_with fail
      refine hck2.out.mono ?_
      rintro e w8 ⟨⟨v, rfl, hv⟩, hb⟩
      replace hz := hz.below hb
      replace hy := hy.below hb
      replace hM1 := hM1.below hb
      replace hM2 := hM2.below hb
      replace hB := below_step hB hb
      clear hck2 hb z0 z1 z2 zf
      obtain ⟨z0, z1, z2, zf⟩ := id hz
      rcases fault_form hv with ⟨h1, rfl⟩ | ⟨h1, ty, q, rfl⟩
      · have HF := Lib.hid (fileSet_ok (m := (mp.data.toList, mv.data.toList)) h0.out h1)
        have hB4 := below_sto hB (b := w.heap.size + 2) (by omega) (.string p) (.slice (some ⟨g, 0, none⟩) L1.length c5) (.slice a6 n6 c6)
        have hM14 := hM1.sto (c := w.heap.size + 2) HN.out.1 (.string p) (.slice (some ⟨g, 0, none⟩) L1.length c5) (.slice a6 n6 c6)
        have hM24 := hM2.sto (c := w.heap.size + 2) HN.out.2 (.string p) (.slice (some ⟨g, 0, none⟩) L1.length c5) (.slice a6 n6 c6)
        have hfin : SetOut A (fileSet ⟨p.data.toList, mdTs L1, mdTs L2⟩ (mp.data.toList, mv.data.toList)) w (.returned (.tuple #[.agg #[.string p, (.slice (some ⟨g, 0, none⟩) L1.length c5), .slice a6 n6 c6], .nilIface])) (st3 w8 (w.heap.size + 2) (.string p) (.slice (some ⟨g, 0, none⟩) L1.length c5) (.slice a6 n6 c6)) := by
          rw [HF.out]
          exact ⟨⟨p, _, _, rfl, rfl, hM14, hM24⟩, hB4⟩
        replace hfin := Lib.hid hfin
        clear hv h1 hB4 hM14 hM24 hM1 hM2
        obtain ⟨y0, y1, y2, yf⟩ := id hy
        go_wp2_with fail
        refine bodyPost_ret (v := .tuple #[.agg #[.string p, (.slice (some ⟨g, 0, none⟩) L1.length c5), .slice a6 n6 c6], .nilIface]) (by simp [results, Tryz.results23, go_sem, *]) rfl ?_
        exact hfin.out
      ·
        have HV := Lib.hid (bare_calls A _ _ w8 hv)
        have HF := Lib.hid (fileSet_err2 h0.out h1)
        have h0' := Lib.hid h1
        clear hv h1
        go_wp2_with fail
        refine HV.out.mono ?_
        rintro e w9 ⟨rfl, hb⟩
        replace hy := hy.below hb
        replace hB := below_step hB hb
        clear HV
        obtain ⟨y0, y1, y2, yf⟩ := id hy
        rw [errV_pos A h0'.out]
        have hB4 := below_sto hB (b := w.heap.size + 2) (by omega) (.string ⟨#[]⟩) (.slice none 0 0) (.slice none 0 0)
        unfold st3 at hB4
        go_wp2_with fail
        refine bodyPost_ret (v := .tuple #[.agg #[.string ⟨#[]⟩, .slice none 0 0, .slice none 0 0], .iface 283 (.pointer (some (A (fileErr ⟨p.data.toList, setAt (mdTs L1) (mp.data.toList, mv.data.toList), mdTs L2⟩).1)))]) (by simp [results, Tryz.results23, go_sem, *]) rfl ?_
        rw [HF.out, ← errV_pos A h0'.out]
        first
        | exact setOut_err hB
        | exact setOut_err hB4
    · have hset : setAt (mdTs L1) (mp.data.toList, mv.data.toList) = mdTs (L1.take kk ++ (mp, mv) :: L1.drop kk) := by
        rw [mdTs_put]
        unfold setAt
        rw [hkk.out, if_neg hit]
      rw [hkk.out, decide_eq_false hit] at hbin
      refine (hbin w5 (hM.out _ ho1)).mono ?_
      rintro e w6 ⟨rfl, hb⟩
      have hs6 : w3.heap.size ≤ w6.heap.size := Nat.le_trans hs5 hb.size
      replace hz := hz.below hb
      replace hy := hy.below hb
      replace hm0 := Below.cell_some hb hm0
      replace hm1 := Below.cell_some hb hm1
      replace ho1 := ownsRow_kept ho1 hb
      replace ho2 := ownsRow_kept ho2 hb
      replace hB := below_step hB hb
      clear hit hbin hb u0 u1 u2 uf
      have hBw := below_alloc w6 (.cells #[.string mp, .string mv] 26)
      have hne : (Value.slice a5 n5 c5).ownBlock ≠ some w6.heap.size := fun e => by have := (ho1.lt _ e).2; omega
      have hL9 : L1.length ≤ 1000000 := by rw [mdTs_length] at hR9; omega
      have hins := insertM_calls w3.heap.size (.slice a5 n5 c5) L1 kk w6.heap.size mp mv (w6.alloc (.cells #[.string mp, .string mv] 26)) (ownsRow_kept ho1 hBw) hkl hL9 (by simp; omega) (Go.Deep.blk_alloc_new w6 _) hne
      obtain ⟨u0, u1, u2, uf⟩ := id hz
      replace hz := hz.below hBw
      replace hy := hy.below hBw
      replace ho2 := ownsRow_kept ho2 hBw
      replace hB := below_step hB hBw
      have hn1 := own_ne (b := w.heap.size) ho1 (by omega)
      have hn2 := own_ne (b := w.heap.size + 2) ho1 (by omega)
      replace hins := Lib.hid hins
      clear ho1
      go_wp2_with fail
      refine hins.out.mono ?_
      rintro e w7 ⟨v', rfl, ho', hb', hg'⟩
      obtain ⟨a7, n7, c7, rfl⟩ := own_form ho'
      clear u0 u1 u2 uf hm0 hm1 hBw hins
      replace hz := hz.grownBy hg' (fun e => hn1 e.symm)
      replace hy := hy.grownBy hg' (fun e => hn2 e.symm)
      replace ho2 := ho2.kept hg' (apart_row (fun b hb h2 => hap.out b hb h2))
      replace hB := hB.trans (hb'.mono (by omega))
      have hge7 := own_ge ho'
      have hM1 : ModsAt w7 (.slice a7 n7 c7) (setAt (mdTs L1) (mp.data.toList, mv.data.toList)) := by
        rw [hset]
        exact modsAt_own ho'
      have hM2 := modsAt_own ho2
      have hnn1 : ∀ q n m, Value.slice a7 n7 c7 = .slice (some q) n m → q.block ≠ w.heap.size + 2 := fun q n m e => by have := hge7 q n m e; omega
      have hnn2 : ∀ q n m, Value.slice a6 n6 c6 = .slice (some q) n m → q.block ≠ w.heap.size + 2 := fun q n m e => by have := hge2 q n m e; omega
      have hnm1 : ∀ q n m, Value.slice a7 n7 c7 = .slice (some q) n m → q.block ≠ w.heap.size := fun q n m e => by have := hge7 q n m e; omega
      have hnm2 : ∀ q n m, Value.slice a6 n6 c6 = .slice (some q) n m → q.block ≠ w.heap.size := fun q n m e => by have := hge2 q n m e; omega
      have HN := Lib.hid (And.intro hnn1 hnn2)
      obtain ⟨z0, z1, z2, zf⟩ := id hz
      replace hz := hz.set1 (.slice a7 n7 c7)
      replace hy := hy.other (c := w.heap.size) (k := 1) (by omega) (.slice a7 n7 c7)
      replace hB := hB.setCell (p := ⟨w.heap.size, 1, none⟩) (Nat.le_refl _) (.slice a7 n7 c7)
      replace hM1 := hM1.other (c := w.heap.size) (k := 1) hnm1 (.slice a7 n7 c7)
      replace hM2 := hM2.other (c := w.heap.size) (k := 1) hnm2 (.slice a7 n7 c7)
      clear ho' hb' hg' hge7 hge1 hge2 ho2 hnn1 hnn2 hnm1 hnm2 hset hap hn1 hn2 hne
      obtain ⟨u0, u1, u2, uf⟩ := id hz
      go_wp2_with fail
      generalize w7.setCell ⟨w.heap.size, 1, none⟩ (.slice a7 n7 c7) = w8 at *
      clear z0 z1 z2 zf
      obtain ⟨z0, z1, z2, zf⟩ := id hz
      have hck2 := fileCheck_calls ks A hks p _ _ (setAt (mdTs L1) (mp.data.toList, mv.data.toList)) (mdTs L2) _ (hE.below hB) hM1 hM2 hp hsr2.out hsx.out
      replace hck2 := Lib.hid hck2
      go_wp2_with fail
      refine hck2.out.mono ?_
      rintro e w8 ⟨⟨v, rfl, hv⟩, hb⟩
      replace hz := hz.below hb
      replace hy := hy.below hb
      replace hM1 := hM1.below hb
      replace hM2 := hM2.below hb
      replace hB := below_step hB hb
      clear hck2 hb z0 z1 z2 zf
      obtain ⟨z0, z1, z2, zf⟩ := id hz
      rcases fault_form hv with ⟨h1, rfl⟩ | ⟨h1, ty, q, rfl⟩
      · have HF := Lib.hid (fileSet_ok (m := (mp.data.toList, mv.data.toList)) h0.out h1)
        have hB4 := below_sto hB (b := w.heap.size + 2) (by omega) (.string p) (.slice a7 n7 c7) (.slice a6 n6 c6)
        have hM14 := hM1.sto (c := w.heap.size + 2) HN.out.1 (.string p) (.slice a7 n7 c7) (.slice a6 n6 c6)
        have hM24 := hM2.sto (c := w.heap.size + 2) HN.out.2 (.string p) (.slice a7 n7 c7) (.slice a6 n6 c6)
        have hfin : SetOut A (fileSet ⟨p.data.toList, mdTs L1, mdTs L2⟩ (mp.data.toList, mv.data.toList)) w (.returned (.tuple #[.agg #[.string p, (.slice a7 n7 c7), .slice a6 n6 c6], .nilIface])) (st3 w8 (w.heap.size + 2) (.string p) (.slice a7 n7 c7) (.slice a6 n6 c6)) := by
          rw [HF.out]
          exact ⟨⟨p, _, _, rfl, rfl, hM14, hM24⟩, hB4⟩
        replace hfin := Lib.hid hfin
        clear hv h1 hB4 hM14 hM24 hM1 hM2
        obtain ⟨y0, y1, y2, yf⟩ := id hy
        go_wp2_with fail
        refine bodyPost_ret (v := .tuple #[.agg #[.string p, (.slice a7 n7 c7), .slice a6 n6 c6], .nilIface]) (by simp [results, Tryz.results23, go_sem, *]) rfl ?_
        exact hfin.out
      ·
        have HV := Lib.hid (bare_calls A _ _ w8 hv)
        have HF := Lib.hid (fileSet_err2 h0.out h1)
        have h0' := Lib.hid h1
        clear hv h1
        go_wp2_with fail
        refine HV.out.mono ?_
        rintro e w9 ⟨rfl, hb⟩
        replace hy := hy.below hb
        replace hB := below_step hB hb
        clear HV
        obtain ⟨y0, y1, y2, yf⟩ := id hy
        rw [errV_pos A h0'.out]
        have hB4 := below_sto hB (b := w.heap.size + 2) (by omega) (.string ⟨#[]⟩) (.slice none 0 0) (.slice none 0 0)
        unfold st3 at hB4
        go_wp2_with fail
        refine bodyPost_ret (v := .tuple #[.agg #[.string ⟨#[]⟩, .slice none 0 0, .slice none 0 0], .iface 283 (.pointer (some (A (fileErr ⟨p.data.toList, setAt (mdTs L1) (mp.data.toList, mv.data.toList), mdTs L2⟩).1)))]) (by simp [results, Tryz.results23, go_sem, *]) rfl ?_
        rw [HF.out, ← errV_pos A h0'.out]
        first
        | exact setOut_err hB
        | exact setOut_err hB4
  ·
    have HV := Lib.hid (bare_calls A _ _ w3 hv)
    have HF := Lib.hid (fileSet_err (m := (mp.data.toList, mv.data.toList)) h0)
    have h0' := Lib.hid h0
    clear hv h0
    go_wp2_with fail
    refine HV.out.mono ?_
    rintro e w9 ⟨rfl, hb⟩
    replace hy := hy.below hb
    replace hB := below_step hB hb
    clear HV
    obtain ⟨y0, y1, y2, yf⟩ := id hy
    rw [errV_pos A h0'.out]
    have hB4 := below_sto hB (b := w.heap.size + 2) (by omega) (.string ⟨#[]⟩) (.slice none 0 0) (.slice none 0 0)
    unfold st3 at hB4
    go_wp2_with fail
    refine bodyPost_ret (v := .tuple #[.agg #[.string ⟨#[]⟩, .slice none 0 0, .slice none 0 0], .iface 283 (.pointer (some (A (fileErr ⟨p.data.toList, R, X⟩).1)))]) (by simp [results, Tryz.results23, go_sem, *]) rfl ?_
    rw [HF.out, ← errV_pos A h0'.out]
    first
    | exact setOut_err hB
    | exact setOut_err hB4
end Go.Proofs.Pw

/- slices.Delete of one module out of a row of the caller's own. -/
namespace Go.Proofs.Pw
open Go.RowKit
open Go.Lib hiding intOf

theorem run_clear_rowK {P : Program} (w : World) (t e ty : TypeId) (z : Value) (k : Nat) (ht : P.underlying t = some (.slice e)) (hv : ∀ w, (zeroValue e).run P w = .ok z w) (hz : (Builtin.zeroCells z.cells k).toList.length = k * 2) (h1 : ∀ u ∈ (Builtin.zeroCells z.cells k).toList, u.oneCell' = true) (g o c : Nat) (hk : 0 < k) (cur : Array Value) (et : TypeId) (hg : w.heap[g]? = some (.cells cur et (0, 0))) (hfit : o + k * 2 ≤ cur.size) :
    (Builtin.clear_ #[t] ty #[.slice (some ⟨g, o, none⟩) k c]).run P w = .ok (.tuple #[]) (w.setRow g (splice cur.toList o (Builtin.zeroCells z.cells k).toList).toArray) := by
  have hst := run_storeCells_at P g o et (Builtin.zeroCells z.cells k).toList 0 cur w hg (by rw [hz]; simpa using hfit) h1
  simp only [Nat.add_zero] at hst
  obtain ⟨m, rfl⟩ : ∃ m, k = m + 1 := ⟨k - 1, by omega⟩
  simp [Builtin.clear_, run_underlying ht, hv, hst, splice]

theorem wpList_clearK {P : Program} {w : World} {ops : Array Oper} {rest : List Oper} {o : Oper} {a : Act} {Q : Exit → Act → World → Prop} (hgd : o.guard = none) (d : Operand) (t : TypeId)
    (ho : o.op = .call { callee := .builtin .clear, args := #[d], argTypes := #[t] }) (e : TypeId) (z : Value) (k : Nat) (ht : P.underlying t = some (.slice e)) (hv : ∀ w, (zeroValue e).run P w = .ok z w) (hz : (Builtin.zeroCells z.cells k).toList.length = k * 2) (h1 : ∀ u ∈ (Builtin.zeroCells z.cells k).toList, u.oneCell' = true) (g off c : Nat) (hk : 0 < k) (hd : a.eval d = .slice (some ⟨g, off, none⟩) k c)
    (cur : List Value) (et : TypeId) (hg : w.heap[g]? = some (.cells cur.toArray et (0, 0))) (hfit : off + k * 2 ≤ cur.length) (B : Nat) (w0 : World) (hb : Below B w0 w) (hBg : B ≤ g)
    (h : ∀ w', Hid (w'.heap[g]? = some (.cells (splice cur off (Builtin.zeroCells z.cells k).toList).toArray et (0, 0))) → Below B w0 w' → Hid (w.grownBy w' (some g)) → wpList P ops Q rest (a.put o.dst (.tuple #[])) w') : wpList P ops Q (o :: rest) a w := by
  refine wpList_plain hgd fun K hK => ?_
  have hrun := run_clear_rowK (P := P) w t e o.type z k ht hv hz h1 g off c hk cur.toArray et hg (by simpa using hfit)
  unfold Oper.wp
  simp [execOp, ho, resolve, invoke, builtin, hd, hrun, Result.andThen]
  exact hK _ _ (h _ (show _ = _ by simpa using setRow_heap w g _ _ et _ hg) (below_setRow hb hBg _) (Lib.hid (grownBy_setRow w g _)))

theorem step_appendK {P : Program} {ops : Array Oper} {o : Oper} {a : Act} {w : World} {K : Act → World → Prop} {Q : Exit → Act → World → Prop} {E : Prop} (hgd : o.guard = none) (d s : Operand) (t : TypeId)
    (ho : o.op = .call { callee := .builtin .append, args := #[d, s], argTypes := #[t, t] }) (e : TypeId) (i : TypeInfo) (k : Nat) (ht : P.underlying t = some (.slice e)) (hi : P.info? e = some i) (hk : i.size = k)
    (g n cap : Nat) (ad : Addr) (m c : Nat) (hd : a.eval d = .slice (some ⟨g, 0, none⟩) n cap) (hs : a.eval s = .slice (some ad) m c)
    (cur : List Value) (hg : w.heap[g]? = some (.cells cur.toArray e (0, 0))) (cs : List Value) (hn : cs.length = m * k)
    (hsrc : ∀ j v, cs[j]? = some v → w.cell? (ad.add j) = some v) (hroom : n + m ≤ cap) (hfit : n * k + cs.length ≤ cur.length) (h1 : ∀ v ∈ cs, v.oneCell' = true) (B : Nat) (w0 : World) (hb : Below B w0 w) (hBg : B ≤ g)
    (h : ∀ w', Hid (w'.heap[g]? = some (.cells (splice cur (n * k) cs).toArray e (0, 0))) → Below B w0 w' → Hid (w.grownBy w' (some g)) → K (a.put o.dst (.slice (some ⟨g, 0, none⟩) (n + m) cap)) w') :
    if Region.wanted o (yielded ops a.tmps) = true then Oper.wp P o a w K Q else E := by
  have hw : Region.wanted o (yielded ops a.tmps) = true := by simp [Region.wanted, hgd]
  rw [if_pos hw]
  subst hk
  have hrun := run_append_room (P := P) w t o.type e i ht hi g n cap cur.toArray hg ad m c cs hn hsrc h1 hroom (by simpa using hfit)
  unfold Oper.wp
  simp [execOp, ho, resolve, invoke, builtin, hd, hs, hrun, Result.andThen]
  exact h _ (show _ = _ by simpa [splice] using setRow_heap w g _ _ e _ hg) (below_setRow hb hBg _) (Lib.hid (grownBy_setRow w g _))

theorem del_take {α : Type} {cur X Y : List α} {o n d : Nat} (hX : cur.take n = X) (hn : X.length = n) (ho : o + d ≤ n) (hl : n ≤ cur.length) (hY : Y.length = d) : (splice (splice cur o (X.drop (o + d))) (n - d) Y).take (n - d) = X.take o ++ X.drop (o + d) := by
  have hd : (X.drop (o + d)).length = n - (o + d) := by rw [List.length_drop, hn]
  apply List.ext_getElem?
  intro j
  rw [List.getElem?_take]
  by_cases hj : j < n - d
  · rw [if_pos hj, splice_get (by rw [splice_length (by omega)]; omega), if_neg (by omega), splice_get (by omega)]
    by_cases h2 : j < o
    · rw [if_neg (by omega), List.getElem?_append_left (by simp; omega), List.getElem?_take, if_pos h2, ← hX, List.getElem?_take, if_pos (by omega)]
    · rw [if_pos (by omega), List.getElem?_append_right (by simp; omega)]
      congr 1
      simp; omega
  · rw [if_neg hj, List.getElem?_eq_none (by simp; omega)]
theorem mdVs_del (l : List (ByteArray × ByteArray)) (i : Nat) : mdVs (l.take i ++ l.drop (i + 1)) = (mdVs l).take (i * 2) ++ (mdVs l).drop (i * 2 + 2) := by
  rw [mdVs_append, mdVs_take, mdVs_drop, show (i + 1) * 2 = i * 2 + 2 by omega]

set_option maxHeartbeats 4000000 in
set_option maxRecDepth 100000 in
theorem deleteM_calls (base : Nat) (v : Value) (L : List (ByteArray × ByteArray)) (i : Nat) (w : World) (hown : w.ownsRow base 26 2 v L.length (mdVs L)) (hi : i < L.length) (hl : L.length ≤ 1000000) :
    Calls Tryz.prog 85 #[v, .int .i64 i, .int .i64 ((i + 1 : Nat) : Int)] w (InsOut base v (L.take i ++ L.drop (i + 1)) w) := by
  rcases hown.2 with ⟨rfl, h0⟩ | ⟨g, cap, cur, rfl, hbg, hg, hn, hm, hs, ht⟩
  · omega
  · obtain ⟨i0, hi0, hz0, hz1, hz2⟩ := info_parts Tryz.infoMod
    have mixed : Tryz.prog.follows Departure.mixedOrders = true := by kernel_rfl
    unfold maxLen at hm
    have hXl : (mdVs L).length = L.length * 2 := mdVs_length L
    have hdl : ((mdVs L).drop (i * 2 + 2)).length = (L.length - (i + 1)) * 2 := by rw [List.length_drop, hXl]; omega
    obtain ⟨A, hA, hsrc⟩ : ∃ A : Addr, (if cap = i + 1 then some (⟨g, 0, none⟩ : Addr) else some ⟨g, (i + 1) * 2, none⟩) = some A ∧ ∀ j v, ((mdVs L).drop (i * 2 + 2))[j]? = some v → w.cell? (A.add j) = some v := by
      by_cases h : cap = i + 1
      · refine ⟨⟨g, 0, none⟩, by simp [h], fun j v hj => ?_⟩
        have := (List.getElem?_eq_some_iff.1 hj).1
        omega
      · refine ⟨⟨g, (i + 1) * 2, none⟩, by simp [h], fun j v hj => ?_⟩
        rw [List.getElem?_drop] at hj
        have hjl := (List.getElem?_eq_some_iff.1 hj).1
        rw [Addr.add_lit, cell_of_row w g _ cur _ (0, 0) hg]
        rw [← ht, List.getElem?_take, if_pos (by omega)] at hj
        rw [show (i + 1) * 2 + j = i * 2 + 2 + j by omega]
        simpa using hj
    have hg' : w.heap[g]? = some (.cells cur.toList.toArray 26 (0, 0)) := by rw [Array.toArray_toList]; exact hg
    have hcl : cur.toList.length = cap * 2 := by simp [hs]
    have hzl := zeroCells_len (Value.agg #[.string ⟨#[]⟩, .string ⟨#[]⟩]).cells rfl 1
    have hz1c : ∀ u ∈ (Builtin.zeroCells (Value.agg #[.string ⟨#[]⟩, .string ⟨#[]⟩]).cells 1).toList, u.oneCell' = true := by
      intro u hu
      have e : (Builtin.zeroCells (Value.agg #[.string ⟨#[]⟩, .string ⟨#[]⟩]).cells 1).toList = [.string ⟨#[]⟩, .string ⟨#[]⟩] := by kernel_rfl
      rw [e] at hu
      simp at hu
      rw [hu]; rfl
    have hfit1 : i * 2 + ((mdVs L).drop (i * 2 + 2)).length ≤ cur.toList.length := by omega
    have hfit2 : (L.length - 1) * 2 + 1 * 2 ≤ (splice cur.toList (i * 2) ((mdVs L).drop (i * 2 + 2))).length := by rw [splice_length hfit1]; omega
    have hfin := del_take (cur := cur.toList) (X := mdVs L) (Y := (Builtin.zeroCells (Value.agg #[.string ⟨#[]⟩, .string ⟨#[]⟩]).cells 1).toList) (o := i * 2) (n := L.length * 2) (d := 2) ht hXl (by omega) (by omega) hzl
    have hV := mdVs_del L i
    have hlen2 : (L.take i ++ L.drop (i + 1)).length = L.length - 1 := by simp; omega
    have h1D : ∀ v ∈ (mdVs L).drop (i * 2 + 2), v.oneCell' = true := fun v hv => mdVs_one v (List.mem_of_mem_drop hv)
    generalize hY : (Builtin.zeroCells (Value.agg #[.string ⟨#[]⟩, .string ⟨#[]⟩]).cells 1).toList = Y at hfin hzl
    have HY := Lib.hid hY
    have hzv : ∀ w, (zeroValue 26).run Tryz.prog w = .ok (.agg #[.string ⟨#[]⟩, .string ⟨#[]⟩]) w := Tryz.zeroValue26
    have hb1 : ¬ ((i : Int) = (i : Int) + 1) := by omega
    have hb2 : (i : Int) + 1 ≤ (L.length : Int) := by omega
    have hb3 : (0 : Int) ≤ (i : Int) + 1 := by omega
    have hb4 : ((i : Int) + 1).toNat = i + 1 := by omega
    have hb5 : ¬ (cap = L.length - 1) := by omega
    have hb6 : i + (L.length - (i + 1)) = L.length - 1 := by omega
    have hb7 : (L.length : Int) ≤ (cap : Int) := by omega
    have hb8 : ((L.length - 1 : Nat) : Int) ≤ (L.length : Int) := by omega
    have hb9 : L.length - (L.length - 1) = 1 := by omega
    have hb10 : i ≤ cap := by omega
    have hb11 : i + 1 ≤ cap := by omega
    have hb12 : (i : Int) + 1 ≤ (cap : Int) := by omega
    have HG := Lib.hid hg'
    have HM := Lib.hid (And.intro hfit1 (And.intro hfit2 (And.intro hsrc (And.intro hdl h1D))))
    have HF := Lib.hid (And.intro hfin (And.intro hV (And.intro hlen2 (And.intro hcl hzl))))
    have HZ := Lib.hid hz1c
    generalize hD : (mdVs L).drop (i * 2 + 2) = D at *
    generalize hX : mdVs L = X at *
    generalize hNN : L.length = n at *
    clear hown hg hg' hfit1 hfit2 hsrc hdl h1D hfin hV hlen2 hcl hzl hY hz1c hX hD hs ht hXl
    go_enter Tryz.func85, Tryz.ntmps85
    go_wp2_with fail
    go_region_law_o (refine step_appendK rfl (.tmp 22) (.tmp 25) 22 rfl 26 i0 2 Tryz.underlying22 hi0 hz1 g i cap A (n - (i + 1)) (cap - (i + 1)) (by simp [Act.eval, Act.put]) (by simp [Act.eval, Act.put]) cur.toList HG.out D HM.out.2.2.2.1 HM.out.2.2.1 (by omega) HM.out.1 HM.out.2.2.2.2 base w (Below.refl _ _).drew hbg ?_; intro w4 hg4 hb14 hc14; rw [hb6])
    go_wp2_with (refine wpList_clearK rfl _ 22 rfl 26 (.agg #[.string ⟨#[]⟩, .string ⟨#[]⟩]) 1 Tryz.underlying22 hzv (zeroCells_len _ rfl 1) HZ.out g ((n - 1) * 2) _ (by decide) rfl _ 26 hg4.out HM.out.2.1 base w hb14 hbg ?_; intro w5 hg5 hb15 hc15)
    go_ret
    have hg5 := hg5.out
    rw [HY.out] at hg5
    refine ⟨_, rfl, ⟨by rw [mdVs_length], .inr ⟨g, cap, _, by rw [HF.out.2.2.1]; rfl, hbg, hg5, by rw [HF.out.2.2.1]; omega, by unfold maxLen; omega, ?_, ?_⟩⟩, hb15, grownBy_trans (w1 := w4) (grownBy_undrawn hc14.out) hc15.out⟩
    · have h1 := splice_length HM.out.1
      have h2 := splice_length (L := splice cur.toList (i * 2) D) (cs := Y) (o := (n - 1) * 2) (by have := HM.out.2.1; rw [HF.out.2.2.2.2]; exact this)
      rw [h1, HF.out.2.2.2.1] at h2
      simpa using h2
    · rw [HF.out.2.2.1, HF.out.2.1, ← HF.out.1]
      simp only []
      rw [show (n - 1) * 2 = n * 2 - 2 by omega]
end Go.Proofs.Pw

/- file.Drop. -/
namespace Go.Proofs.Pw
open Go.RowKit
open Go.Lib hiding intOf

theorem filter_at {l : List Md} (h : RiseP l) {p : Str} {k : Nat} (hk : findI (fun m : Md => decide (m.1 = p)) l = k) : l.filter (fun m : Md => !decide (m.1 = p)) = l.take k ++ l.drop (k + 1) := by
  obtain ⟨x, hx, hp⟩ := findI_spec hk
  have hl := (List.getElem?_eq_some_iff.1 hx).1
  have ex : l[k] = x := by rw [List.getElem?_eq_getElem hl] at hx; exact Option.some.inj hx
  have hs : l = l.take k ++ x :: l.drop (k + 1) := by rw [← ex, ← List.drop_eq_getElem_cons hl, List.take_append_drop]
  have hp := of_decide_eq_true hp
  have h2 : RiseP (l.take k ++ x :: l.drop (k + 1)) := by rw [← hs]; exact h
  unfold RiseP at h2
  rw [List.pairwise_append, List.pairwise_cons] at h2
  have e1 : l.filter (fun m : Md => !decide (m.1 = p)) = (l.take k ++ x :: l.drop (k + 1)).filter (fun m : Md => !decide (m.1 = p)) := by rw [← hs]
  rw [e1, List.filter_append, List.filter_cons, if_neg (by simp [hp])]
  congr 1
  · rw [List.filter_eq_self]
    intro y hy
    have := h2.2.2 y hy x (by simp)
    have hne : ¬ y.1 = p := fun e => by rw [e, hp, compareBytes_self] at this; omega
    simp [hne]
  · rw [List.filter_eq_self]
    intro y hy
    have := h2.2.1.1 y hy
    have hne : ¬ y.1 = p := fun e => by rw [e, hp, compareBytes_self] at this; omega
    simp [hne]
theorem mdTs_del (L : List (ByteArray × ByteArray)) (k : Nat) : mdTs (L.take k ++ L.drop (k + 1)) = (mdTs L).take k ++ (mdTs L).drop (k + 1) := by
  simp [mdTs, List.map_take, List.map_drop]
theorem fileDrop_err {f : Fl} {p : Str} (h : (fileErr f).1 ≠ 0) : fileDrop f p = (noFl, (fileErr f).1) := by unfold fileDrop; rw [if_pos h]
theorem fileDrop_none {f : Fl} {p : Str} (h : (fileErr f).1 = 0) (h2 : findI (fun m : Md => decide (m.1 = p)) f.reqs < 0) : fileDrop f p = (noFl, 5) := by unfold fileDrop; rw [if_neg (by simp [h]), if_pos h2]
theorem fileDrop_ok {f : Fl} {p : Str} (h : (fileErr f).1 = 0) {k : Nat} (h2 : findI (fun m : Md => decide (m.1 = p)) f.reqs = k) : fileDrop f p = ({ f with reqs := f.reqs.take k ++ f.reqs.drop (k + 1) }, 0) := by
  unfold fileDrop
  rw [if_neg (by simp [h]), if_neg (by rw [h2]; omega), filter_at (right_of h).rise h2]


set_option maxHeartbeats 8000000 in
set_option maxRecDepth 100000 in
theorem fileDrop_calls (ks : List Nat) (A : Nat → Addr) (hks : FileKs ks) (p s : ByteArray) (rv xv : Value) (R X : List Md) (w : World) (hE : EnvP ks A w) (hr : ModsAt w rv R) (hx : ModsAt w xv X) (hp : p.size ≤ 1000000) (hsr : Short R) (hsx : Short X) (hR9 : R.length ≤ 900000) :
    Calls Tryz.prog 26 #[.agg #[.string p, rv, xv], .string s] w (SetOut A (fileDrop ⟨p.data.toList, R, X⟩ s.data.toList) w) := by
  have hb1 := below_alloc w (.cells #[.string p, rv, xv] 24)
  have hb2 := below_alloc (w.alloc (.cells #[.string p, rv, xv] 24)) (.cells #[.string ⟨#[]⟩, .slice none 0 0, .slice none 0 0] 24)
  have hB := below_step hb1 hb2
  have hz := (box3f_alloc w (.string p) rv xv 24).below hb2
  have hy := box3f_alloc (w.alloc (.cells #[.string p, rv, xv] 24)) (.string ⟨#[]⟩) (.slice none 0 0) (.slice none 0 0) 24
  simp only [World.size_alloc] at hy
  have hck := fun W hW h1 h2 => fileCheck_calls ks A hks p rv xv R X W hW h1 h2 hp hsr hsx
  have hcp := fun W h1 h2 => fileCopy_calls p rv xv R X W h1 h2 hsr.1 hsx.1
  have hfi := fun W h1 => modFind_calls rv R s W h1 hsr.1
  obtain ⟨a1, n1, c1, _, _, rfl, _⟩ := id hr
  obtain ⟨a3, n3, c3, _, _, rfl, _⟩ := id hx
  replace hck := Lib.hid hck
  replace hcp := Lib.hid hcp
  replace hfi := Lib.hid hfi
  replace hsr := Lib.hid hsr
  replace hsx := Lib.hid hsx
  clear hb1 hb2
  obtain ⟨z0, z1, z2, zf⟩ := id hz
  go_enter Tryz.func26, Tryz.ntmps26
  go_wp2_with fail
  generalize hw2 : (w.alloc (.cells #[.string p, .slice a1 n1 c1, .slice a3 n3 c3] 24)).alloc (.cells #[.string ⟨#[]⟩, .slice none 0 0, .slice none 0 0] 24) = w2 at *
  have hsz : w2.heap.size = w.heap.size + 2 := by rw [← hw2]; simp
  clear hw2
  refine (hck.out _ (hE.below hB) (hr.below hB) (hx.below hB)).mono ?_
  rintro e w3 ⟨⟨v, rfl, hv⟩, hb⟩
  have hs3 := hb.size
  replace hz := hz.below hb
  replace hy := hy.below hb
  replace hB := below_step hB hb
  clear hck z0 z1 z2 zf hb
  obtain ⟨z0, z1, z2, zf⟩ := id hz
  rcases fault_form hv with ⟨h0, rfl⟩ | ⟨h0, ty, q, rfl⟩
  · replace h0 := Lib.hid h0
    clear hv
    go_wp2_with fail
    refine (hfi.out _ (hr.below hB)).mono ?_
    rintro e w4 ⟨rfl, hb⟩
    have hs4 := hb.size
    replace hz := hz.below hb
    replace hy := hy.below hb
    replace hB := below_step hB hb
    clear z0 z1 z2 zf hb hfi
    obtain ⟨z0, z1, z2, zf⟩ := id hz
    by_cases hneg : findI (fun m : Md => decide (m.1 = s.data.toList)) R < 0
    · have HF := Lib.hid (fileDrop_none h0.out hneg)
      have hE4 := hE.below hB
      have g5 := hE4.errs.var 5 hks.2.2.1
      simp only [errG] at g5
      generalize findI (fun m : Md => decide (m.1 = s.data.toList)) R = fi at *
      have hgl : 6 < w.heap.size := by
        have g := hE.errs.var 5 hks.2.2.1
        simp only [errG] at g
        exact lt_of_cell g
      have hn1 : 6 ≠ w.heap.size + 1 := by omega
      have hn2 : w.heap.size + 1 ≠ 6 := by omega
      obtain ⟨y0, y1, y2, yf⟩ := id hy
      have hB4 := below_sto hB.drew (b := w.heap.size + 1) (by omega) (.string ⟨#[]⟩) (.slice none 0 0) (.slice none 0 0)
      unfold st3 at hB4
      replace hB4 := Lib.hid hB4
      have hbx : w.heap.size + 1 < w4.heap.size := lt_of_cell y0
      go_wp2_with fail
      go_region
      all_goals
        go_wp2_with fail
        refine bodyPost_ret (v := .tuple #[.agg #[.string ⟨#[]⟩, .slice none 0 0, .slice none 0 0], .iface 283 (.pointer (some (A 5)))]) (by simp [results, Tryz.results26, go_sem, *]) rfl ?_
        rw [HF.out, ← errV_pos A (by decide : (5 : Nat) ≠ 0)]
        first
        | exact setOut_err hB4.out
        | exact setOut_err hB.drew
    · obtain ⟨kk, hkk⟩ : ∃ kk : Nat, findI (fun m : Md => decide (m.1 = s.data.toList)) R = kk := ⟨(findI (fun m : Md => decide (m.1 = s.data.toList)) R).toNat, by omega⟩
      have hfo := fileDrop_ok (f := ⟨p.data.toList, R, X⟩) h0.out hkk
      have hkl : kk < R.length := by
        obtain ⟨x, hx, _⟩ := findI_spec hkk
        exact (List.getElem?_eq_some_iff.1 hx).1
      have hwk := wrap_nat (kk + 1) (by omega)
      have hwk2 : ((kk : Int) + 1) = ((kk + 1 : Nat) : Int) := by omega
      rw [← hwk2] at hwk
      simp only at hfo
      replace hfo := Lib.hid hfo
      rw [hkk]
      clear hneg hkk
      go_wp2_with fail
      refine (hcp.out _ (hr.below hB) (hx.below hB)).mono ?_
      rintro e w5 ⟨⟨v1, v2, L1, L2, rfl, rfl, rfl, ho1, ho2, hap⟩, hb⟩
      have hs5 := hb.size
      obtain ⟨a5, n5, c5, rfl⟩ := own_form ho1
      obtain ⟨a6, n6, c6, rfl⟩ := own_form ho2
      replace hz := hz.below hb
      replace hy := hy.below hb
      replace hB := below_step hB hb
      clear z0 z1 z2 zf hb hcp
      have hge2 := own_ge ho2
      have hn0 := own_ne (b := w.heap.size) ho1 (by omega)
      have hn1 := own_ne (b := w.heap.size + 1) ho1 (by omega)
      obtain ⟨z0, z1, z2, zf⟩ := id hz
      replace hz := hz.st (.string p) (.slice a5 n5 c5) (.slice a6 n6 c6)
      replace hy := hy.sto (c := w.heap.size) (by omega) (.string p) (.slice a5 n5 c5) (.slice a6 n6 c6)
      replace ho1 := ownsRow_sto (b := w.heap.size) ho1 hn0 (.string p) (.slice a5 n5 c5) (.slice a6 n6 c6)
      replace ho2 := ownsRow_sto (b := w.heap.size) ho2 (own_ne ho2 (by omega)) (.string p) (.slice a5 n5 c5) (.slice a6 n6 c6)
      replace hB := below_sto hB (b := w.heap.size) (Nat.le_refl _) (.string p) (.slice a5 n5 c5) (.slice a6 n6 c6)
      unfold st3 at hz hy ho1 ho2 hB
      have hdel := fun (W : World) (h : World.ownsRow W w4.heap.size 26 2 (.slice a5 n5 c5) L1.length (mdVs L1)) => deleteM_calls w4.heap.size (.slice a5 n5 c5) L1 kk W h (by rw [mdTs_length] at hkl; exact hkl) (by rw [mdTs_length] at hR9; omega)
      rw [← hwk2] at hdel
      clear hwk2
      replace hdel := Lib.hid hdel
      replace hap := Lib.hid hap
      obtain ⟨u0, u1, u2, uf⟩ := id hz
      go_wp2_with fail
      generalize ((w5.setCell ⟨w.heap.size, 0, none⟩ (.string p)).setCell ⟨w.heap.size, 1, none⟩ (.slice a5 n5 c5)).setCell ⟨w.heap.size, 2, none⟩ (.slice a6 n6 c6) = w6 at *
      refine (hdel.out w6 ho1).mono ?_
      rintro e w7 ⟨v', rfl, ho', hb', hg'⟩
      obtain ⟨a7, n7, c7, rfl⟩ := own_form ho'
      clear u0 u1 u2 uf z0 z1 z2 zf hdel
      replace hz := hz.grownBy hg' (fun e => hn0 e.symm)
      replace hy := hy.grownBy hg' (fun e => hn1 e.symm)
      replace ho2 := ho2.kept hg' (apart_row (fun b hb h2 => hap.out b hb h2))
      replace hB := hB.trans (hb'.mono (by omega))
      have hge7 := own_ge ho'
      have hM1 : ModsAt w7 (.slice a7 n7 c7) ((mdTs L1).take kk ++ (mdTs L1).drop (kk + 1)) := by
        rw [← mdTs_del]
        exact modsAt_own ho'
      have hM2 := modsAt_own ho2
      have hnn1 : ∀ q n m, Value.slice a7 n7 c7 = .slice (some q) n m → q.block ≠ w.heap.size + 1 := fun q n m e => by have := hge7 q n m e; omega
      have hnn2 : ∀ q n m, Value.slice a6 n6 c6 = .slice (some q) n m → q.block ≠ w.heap.size + 1 := fun q n m e => by have := hge2 q n m e; omega
      have hnm1 : ∀ q n m, Value.slice a7 n7 c7 = .slice (some q) n m → q.block ≠ w.heap.size := fun q n m e => by have := hge7 q n m e; omega
      have hnm2 : ∀ q n m, Value.slice a6 n6 c6 = .slice (some q) n m → q.block ≠ w.heap.size := fun q n m e => by have := hge2 q n m e; omega
      obtain ⟨z0, z1, z2, zf⟩ := id hz
      replace hz := hz.set1 (.slice a7 n7 c7)
      replace hy := hy.other (c := w.heap.size) (k := 1) (by omega) (.slice a7 n7 c7)
      replace hB := hB.setCell (p := ⟨w.heap.size, 1, none⟩) (Nat.le_refl _) (.slice a7 n7 c7)
      replace hM1 := hM1.other (c := w.heap.size) (k := 1) hnm1 (.slice a7 n7 c7)
      replace hM2 := hM2.other (c := w.heap.size) (k := 1) hnm2 (.slice a7 n7 c7)
      have hB4 := below_sto hB (b := w.heap.size + 1) (by omega) (.string p) (.slice a7 n7 c7) (.slice a6 n6 c6)
      have hM14 := hM1.sto (c := w.heap.size + 1) hnn1 (.string p) (.slice a7 n7 c7) (.slice a6 n6 c6)
      have hM24 := hM2.sto (c := w.heap.size + 1) hnn2 (.string p) (.slice a7 n7 c7) (.slice a6 n6 c6)
      have hfin : SetOut A (fileDrop ⟨p.data.toList, mdTs L1, mdTs L2⟩ s.data.toList) w (.returned (.tuple #[.agg #[.string p, .slice a7 n7 c7, .slice a6 n6 c6], .nilIface])) (st3 (w7.setCell ⟨w.heap.size, 1, none⟩ (.slice a7 n7 c7)) (w.heap.size + 1) (.string p) (.slice a7 n7 c7) (.slice a6 n6 c6)) := by
        rw [hfo.out]
        exact ⟨⟨p, _, _, rfl, rfl, hM14, hM24⟩, hB4⟩
      replace hfin := Lib.hid hfin
      obtain ⟨y0, y1, y2, yf⟩ := id hy
      obtain ⟨u0, u1, u2, uf⟩ := id hz
      clear ho' hb' hg' hge7 hge2 ho2 hnn1 hnn2 hnm1 hnm2 hap hn0 hn1 hB4 hM14 hM24 hM1 hM2 hB hz hy hfo
      go_wp2_with fail
      refine bodyPost_ret (v := .tuple #[.agg #[.string p, .slice a7 n7 c7, .slice a6 n6 c6], .nilIface]) (by simp [results, Tryz.results26, go_sem, *]) rfl ?_
      exact hfin.out
  ·
    have HV := Lib.hid (bare_calls A _ _ w3 hv)
    have HF := Lib.hid (fileDrop_err (p := s.data.toList) h0)
    have h0' := Lib.hid h0
    clear hv h0
    go_wp2_with fail
    refine HV.out.mono ?_
    rintro e w9 ⟨rfl, hb⟩
    replace hy := hy.below hb
    replace hB := below_step hB hb
    clear HV
    obtain ⟨y0, y1, y2, yf⟩ := id hy
    rw [errV_pos A h0'.out]
    have hB4 := below_sto hB (b := w.heap.size + 1) (by omega) (.string ⟨#[]⟩) (.slice none 0 0) (.slice none 0 0)
    unfold st3 at hB4
    go_wp2_with fail
    refine bodyPost_ret (v := .tuple #[.agg #[.string ⟨#[]⟩, .slice none 0 0, .slice none 0 0], .iface 283 (.pointer (some (A (fileErr ⟨p.data.toList, R, X⟩).1)))]) (by simp [results, Tryz.results26, go_sem, *]) rfl ?_
    rw [HF.out, ← errV_pos A h0'.out]
    first
    | exact setOut_err hB
    | exact setOut_err hB4
end Go.Proofs.Pw

/- What is shared by the walks of FileBack and FileTells. -/
namespace Go.Proofs.Pw
open Go.RowKit
open Go.Lib hiding intOf

/-! ### no program in sight -/
theorem longMods_no {l : List Md} {k : Nat} (h : longMods l k = false) : l.length ≤ k ∧ ∀ m ∈ l, m.1.length ≤ 70 ∧ m.2.length ≤ 60 := by
  unfold longMods at h
  rw [Bool.or_eq_false_iff] at h
  refine ⟨by have := of_decide_eq_false h.1; omega, fun m hm => ?_⟩
  have h2 := List.any_eq_false.1 h.2 m hm
  simp only [Bool.or_eq_true, decide_eq_true_eq] at h2
  omega
theorem mlines_le (w : Str) : ∀ (l : List Md), (∀ m ∈ l, m.1.length ≤ 70 ∧ m.2.length ≤ 60) → (mlines w l).length ≤ l.length * (w.length + 133)
  | [], _ => by simp [mlines_nil]
  | m :: l, h => by
    have h1 := h m (by simp)
    have h2 := mlines_le w l (fun x hx => h x (by simp [hx]))
    rw [mlines_cons, List.length_append, List.length_cons, Nat.add_mul, Nat.one_mul]
    have : (mline w m ++ [10]).length = w.length + 1 + m.1.length + 1 + m.2.length + 1 := by simp [mline]; omega
    omega
theorem fileTxt_le {f : Fl} (h : (fileErr f).1 = 0) (hp : f.path.length ≤ 90) (h1 : ∀ m ∈ f.reqs, m.1.length ≤ 70 ∧ m.2.length ≤ 60) (h2 : ∀ m ∈ f.excl, m.1.length ≤ 70 ∧ m.2.length ≤ 60) : (fileTxt f).length ≤ 8000 := by
  have hr := right_of h
  have l1 := mlines_le reqW _ h1
  have l2 := mlines_le excW _ h2
  have h3 := hr.reqs
  have h4 := hr.excl
  unfold fileTxt
  simp only [List.length_append]
  simp only [reqW, excW, modW, List.length_cons, List.length_nil] at l1 l2 ⊢
  have : (mlines reqW f.reqs).length ≤ 20 * 140 := Nat.le_trans l1 (Nat.mul_le_mul h3 (by decide))
  have : (mlines excW f.excl).length ≤ 20 * 140 := Nat.le_trans l2 (Nat.mul_le_mul h4 (by decide))
  simp only [reqW, excW] at *
  omega

/-- what Set and Drop leave, of a right file -/
structure Backed (p : Str) (R X S Y : List Md) (m : Md) (k : Nat) : Prop where
  at_ : findI (fun x : Md => decide (x.1 = m.1)) S = (k : Int)
  get : S[k]? = some m
  more : findI (fun x : Md => decide (x.1 = m.1)) R < 0 → S.length = R.length + 1
  same : 0 ≤ findI (fun x : Md => decide (x.1 = m.1)) R → S.length = R.length
  drop : fileDrop ⟨p, S, X⟩ m.1 = (⟨p, Y, X⟩, 0)
  none : findI (fun x : Md => decide (x.1 = m.1)) Y < 0
  less : Y.length + 1 = S.length
  stay : ∀ x ∈ R, (findI (fun y : Md => decide (y.1 = x.1)) Y < 0 ↔ x.1 = m.1) ∧ ∀ j : Nat, findI (fun y : Md => decide (y.1 = x.1)) Y = j → Y[j]? = some x
theorem backed {p : Str} {R X : List Md} {m : Md} (h0 : (fileErr ⟨p, R, X⟩).1 = 0) (h1 : (fileErr ⟨p, setAt R m, X⟩).1 = 0) :
    Backed p R X (setAt R m) (R.filter fun y => !hasP m.1 y) m (lowAt m.1 R) := by
  have r0 := (right_of h0).rise
  have r1 := (right_of h1).rise
  have hf := setAt_find R m
  have hl := setAt_len r0 m
  have hm : m ∈ setAt R m := List.mem_of_getElem? hf.2
  have hfl := filter_less r1 hm
  have hsf := setAt_filter R m
  rw [hsf] at hfl
  refine ⟨hf.1, hf.2, hl.1, hl.2, ?_, ?_, hfl, fun x hx => stays r0 m.1 hx⟩
  · unfold fileDrop
    rw [if_neg (by simp [h1]), if_neg (by
      show ¬ findI (hasP m.1) (setAt R m) < 0
      rw [hf.1]; omega)]
    show (({ path := p, reqs := (setAt R m).filter (fun x => !hasP m.1 x), excl := X } : Fl), 0) = _
    rw [hsf]
  · show findI (hasP m.1) _ < 0
    rw [findI_eq_none]
    intro x hx
    have := (List.mem_filter.1 hx).2
    simpa using this

/-! ### memory -/
theorem cell_st_away {w : World} {b c j : Nat} {v : Value} (h : w.cell? ⟨b, j, none⟩ = some v) (hc : b ≠ c ∨ 3 ≤ j) (u0 u1 u2 : Value) : (st3 w c u0 u1 u2).cell? ⟨b, j, none⟩ = some v := by
  by_cases e : b = c
  · subst e
    have hj : 3 ≤ j := hc.resolve_left (fun h => h rfl)
    unfold st3
    rw [set_off u2 (by omega), set_off u1 (by omega), set_off u0 (by omega)]; exact h
  · exact cell_sto h e u0 u1 u2
theorem ModsAt.st_away {w : World} {b : Nat} {p : ByteArray} {a1 a2 : Option Addr} {n1 c1 n2 c2 : Nat} {v : Value} {l : List Md} (hz : Box3f w b (.string p) (.slice a1 n1 c1) (.slice a2 n2 c2)) (h : ModsAt w v l) (u0 u1 u2 : Value) : ModsAt (st3 w b u0 u1 u2) v l := by
  obtain ⟨a, n, cap, P, V, rfl, h2, h3, h4, h5⟩ := h
  refine ⟨a, n, cap, P, V, rfl, h2, h3, h4, fun j hj => ?_⟩
  obtain ⟨b', o, rfl, e1, e2⟩ := h5 j hj
  have key : b' ≠ b ∨ 3 ≤ o + j * 2 := by
    by_cases e : b' = b
    · subst e
      refine .inr ?_
      rcases Nat.lt_or_ge (o + j * 2) 3 with h | h
      · exfalso
        generalize o + j * 2 = q at e1 e2 h
        match q, h with
        | 0, _ => rw [hz.c1] at e2; cases e2
        | 1, _ => rw [hz.c1] at e1; cases e1
        | 2, _ => rw [hz.c2] at e1; cases e1
      · exact h
    · exact .inl e
  exact ⟨b', o, rfl, cell_st_away e1 key _ _ _, cell_st_away e2 (key.imp id (by omega)) _ _ _⟩
theorem short_ofB {l : List Md} (h : l.length ≤ 26 ∧ ∀ m ∈ l, m.1.length ≤ 90 ∧ m.2.length ≤ 60) : Short l := ⟨by omega, fun m hm => by have := h.2 m hm; omega⟩
end Go.Proofs.Pw

/- FileTells: the numbers of errors are small. -/
namespace Go.Proofs.Pw
open Go.RowKit
open Go.Lib hiding intOf

theorem firstE_le {g : Nat → Nat} (h : ∀ j, g j ≤ 10) : ∀ n, (firstE g n).1 ≤ 10
  | 0 => Nat.zero_le _
  | n + 1 => by
    rw [firstE]
    split
    · exact firstE_le h n
    · split
      · exact h n
      · exact Nat.zero_le _
theorem orE_le {a b : Nat × Int} (ha : a.1 ≤ 10) (hb : b.1 ≤ 10) : (orE a b).1 ≤ 10 := by
  unfold orE
  split
  · exact ha
  · exact hb
theorem mdErr_le (m : Md) : mdErr m ≤ 4 := modErr_le _ _
theorem fileErr_le (f : Fl) : (fileErr f).1 ≤ 10 := by
  unfold fileErr
  split
  · exact Nat.le_trans (pathErr_le _) (by decide)
  · split
    · exact by decide
    · refine orE_le (firstE_le (fun j => ?_) _) (orE_le (firstE_le (fun j => ?_) _) (firstE_le (fun j => ?_) _))
      · unfold reqE
        have := mdErr_le (mdAt f.reqs j)
        split
        · omega
        · split
          · decide
          · split <;> decide
      · unfold excE
        have := mdErr_le (mdAt f.excl j)
        split
        · omega
        · split <;> decide
      · unfold claE
        split <;> decide
theorem fileRead_le (s : Str) : (fileRead s).2.1 ≤ 10 := by
  unfold fileRead
  split
  · exact by decide
  · split
    · exact (by decide : 1 ≤ 10)
    · split
      · exact fileErr_le _
      · exact Nat.zero_le _
theorem fileSet_le (f : Fl) (m : Md) : (fileSet f m).2 ≤ 10 := by
  unfold fileSet
  split
  · exact fileErr_le _
  · split
    · exact fileErr_le _
    · exact Nat.zero_le _
theorem fileDrop_le (f : Fl) (p : Str) : (fileDrop f p).2 ≤ 10 := by
  unfold fileDrop
  split
  · exact fileErr_le _
  · split
    · exact by decide
    · exact Nat.zero_le _
end Go.Proofs.Pw

/- FileTells: its walk, of what is too long. -/
namespace Go.Proofs.Pw
open Go.RowKit
open Go.Lib hiding intOf

set_option maxHeartbeats 4000000 in
set_option maxRecDepth 100000 in
theorem fileTells_long (ks : List Nat) (A : Nat → Addr) (hks : FileKs ks) (p s mp mv : ByteArray) (rv xv : Value) (R X : List Md) (w : World) (hE : EnvP ks A w) (hr : ModsAt w rv R) (hx : ModsAt w xv X)
    (hl : ¬ (p.size ≤ 90 ∧ longMods R 25 = false ∧ longMods X 25 = false ∧ (s.size ≤ 600 ∨ s.size = 8001) ∧ mp.size ≤ 90 ∧ mv.size ≤ 60)) :
    Calls Tryz.prog 3 #[.agg #[.string p, rv, xv], .string s, .agg #[.string mp, .string mv]] w fun e w' => e = .returned (.bool true) ∧ Below w.heap.size w w' := by
  replace hl := Lib.hid hl
  obtain ⟨a1, n1, c1, _, _, rfl, -⟩ := id hr
  obtain ⟨a3, n3, c3, _, _, rfl, -⟩ := id hx
  have hb1 := below_alloc w (.cells #[.string p, .slice a1 n1 c1, .slice a3 n3 c3] 24)
  have hb2 := below_alloc (w.alloc (.cells #[.string p, .slice a1 n1 c1, .slice a3 n3 c3] 24)) (.cells #[.string mp, .string mv] 26)
  have hB := below_step hb1 hb2
  have hz := (box3f_alloc w (.string p) (.slice a1 n1 c1) (.slice a3 n3 c3) 24).below hb2
  have cm0 : ((w.alloc (.cells #[.string p, .slice a1 n1 c1, .slice a3 n3 c3] 24)).alloc (.cells #[.string mp, .string mv] 26)).cell? ⟨(w.alloc (.cells #[.string p, .slice a1 n1 c1, .slice a3 n3 c3] 24)).heap.size, 0, none⟩ = some (.string mp) := by simp
  have cm1 : ((w.alloc (.cells #[.string p, .slice a1 n1 c1, .slice a3 n3 c3] 24)).alloc (.cells #[.string mp, .string mv] 26)).cell? ⟨(w.alloc (.cells #[.string p, .slice a1 n1 c1, .slice a3 n3 c3] 24)).heap.size, 1, none⟩ = some (.string mv) := by simp
  simp only [World.size_alloc] at cm0 cm1
  have hfd := filed_calls ks A hks _ (hE.below hB)
  have hl1 : ∀ W, ModsAt W (.slice a1 n1 c1) R → Calls Tryz.prog 13 #[.slice a1 n1 c1, .int .i64 25] W fun e w' => e = .returned (.int .i64 (longI R 25)) ∧ Below W.heap.size W w' := fun W h => (longMods_calls _ R 25 W h).mono fun _ _ ⟨h1, h2⟩ => ⟨h1, h2 ▸ Below.refl _ _⟩
  have hl2 : ∀ W, ModsAt W (.slice a3 n3 c3) X → Calls Tryz.prog 13 #[.slice a3 n3 c3, .int .i64 25] W fun e w' => e = .returned (.int .i64 (longI X 25)) ∧ Below W.heap.size W w' := fun W h => (longMods_calls _ X 25 W h).mono fun _ _ ⟨h1, h2⟩ => ⟨h1, h2 ▸ Below.refl _ _⟩
  replace hfd := Lib.hid hfd
  clear hb1 hb2
  obtain ⟨z0, z1, z2, zf⟩ := id hz
  go_enter Tryz.func3, Tryz.ntmps3
  go_wp2_with fail
  refine hfd.out.mono ?_
  generalize hw2 : (w.alloc (.cells #[.string p, .slice a1 n1 c1, .slice a3 n3 c3] 24)).alloc (.cells #[.string mp, .string mv] 26) = w2 at *
  clear hw2 hfd
  rintro e w3 ⟨rfl, hb⟩
  replace hz := hz.below hb
  replace cm0 := Below.cell_some hb cm0
  replace cm1 := Below.cell_some hb cm1
  replace hB := below_step hB hb
  clear hb z0 z1 z2 zf
  obtain ⟨z0, z1, z2, zf⟩ := id hz
  by_cases h1 : p.size ≤ 90
  · have hq1 := Lib.hid (decide_eq_false (p := (90 : Int) < (p.size : Int)) (by omega))
    cases h2 : longMods R 25 <;> cases h3 : longMods X 25
    · rw [longI_no h2] at hl1
      rw [longI_no h3] at hl2
      replace hl1 := Lib.hid hl1
      replace hl2 := Lib.hid hl2
      by_cases h4 : s.size ≤ 600
      · have hq2 := Lib.hid (decide_eq_false (p := (600 : Int) < (s.size : Int)) (by omega))
        by_cases h6 : mp.size ≤ 90
        · have hq4 := Lib.hid (decide_eq_false (p := (90 : Int) < (mp.size : Int)) (by omega))
          have hq5 := Lib.hid (decide_eq_true (p := (60 : Int) < (mv.size : Int)) (by have h7 : ¬ mv.size ≤ 60 := fun h7 => hl.out ⟨h1, h2, h3, .inl h4, h6, h7⟩; omega))
          clear hl h1 h2 h3 h4 h6
          go_wp2_with fail
          have q1 := hq1.out
          try have q2 := hq2.out
          try have q3 := hq3.out
          try have q4 := hq4.out
          try have q5 := hq5.out
          have kR := Lib.hid (fun d os => hr.below (below_step hB (below_patch w3 d os)))
          have kX := Lib.hid (fun d os => hx.below (below_step hB (below_patch w3 d os)))
          have kqz0 := fun d os => cell_patch (d := d) (os := os) z0
          have kqz1 := fun d os => cell_patch (d := d) (os := os) z1
          have kqz2 := fun d os => cell_patch (d := d) (os := os) z2
          have kqcm0 := fun d os => cell_patch (d := d) (os := os) cm0
          have kqcm1 := fun d os => cell_patch (d := d) (os := os) cm1
          refine wp_region_quiet_patch (by kernel_rfl) (by kernel_rfl) ?_
          repeat (go_big_quiet_step (first | (go_at_call_of 13 (Value.slice a1 n1 c1); exact Calls.patch_of (hl1.out _ (kR.out _ _))) | (go_at_call_of 13 (Value.slice a3 n3 c3); exact Calls.patch_of (hl2.out _ (kX.out _ _)))))
          refine wpQuiet_nil ?_
          intro _ hw'
          obtain ⟨⟨dq, osq⟩, hw''⟩ := hw'
          subst hw''
          clear kqz0 kqz1 kqz2 kqcm0 kqcm1
          have hb := below_patch w3 dq osq
          replace hz := hz.below hb
          replace cm0 := Below.cell_some hb cm0
          replace cm1 := Below.cell_some hb cm1
          replace hB := below_step hB hb
          clear hb
          generalize patch w3 dq osq = w4 at hz cm0 cm1 hB ⊢
          go_wp2_with fail
          go_ret
          exact ⟨rfl, hB⟩
        · have hq4 := Lib.hid (decide_eq_true (p := (90 : Int) < (mp.size : Int)) (by omega))
          clear hl h1 h2 h3 h4 h6
          go_wp2_with fail
          have q1 := hq1.out
          try have q2 := hq2.out
          try have q3 := hq3.out
          try have q4 := hq4.out
          try have q5 := hq5.out
          have kR := Lib.hid (fun d os => hr.below (below_step hB (below_patch w3 d os)))
          have kX := Lib.hid (fun d os => hx.below (below_step hB (below_patch w3 d os)))
          have kqz0 := fun d os => cell_patch (d := d) (os := os) z0
          have kqz1 := fun d os => cell_patch (d := d) (os := os) z1
          have kqz2 := fun d os => cell_patch (d := d) (os := os) z2
          have kqcm0 := fun d os => cell_patch (d := d) (os := os) cm0
          have kqcm1 := fun d os => cell_patch (d := d) (os := os) cm1
          refine wp_region_quiet_patch (by kernel_rfl) (by kernel_rfl) ?_
          repeat (go_big_quiet_step (first | (go_at_call_of 13 (Value.slice a1 n1 c1); exact Calls.patch_of (hl1.out _ (kR.out _ _))) | (go_at_call_of 13 (Value.slice a3 n3 c3); exact Calls.patch_of (hl2.out _ (kX.out _ _)))))
          refine wpQuiet_nil ?_
          intro _ hw'
          obtain ⟨⟨dq, osq⟩, hw''⟩ := hw'
          subst hw''
          clear kqz0 kqz1 kqz2 kqcm0 kqcm1
          have hb := below_patch w3 dq osq
          replace hz := hz.below hb
          replace cm0 := Below.cell_some hb cm0
          replace cm1 := Below.cell_some hb cm1
          replace hB := below_step hB hb
          clear hb
          generalize patch w3 dq osq = w4 at hz cm0 cm1 hB ⊢
          go_wp2_with fail
          go_ret
          exact ⟨rfl, hB⟩
      · have hq2 := Lib.hid (decide_eq_true (p := (600 : Int) < (s.size : Int)) (by omega))
        by_cases h5 : s.size = 8001
        · have hq3 := Lib.hid (show ((s.size : Int) != 8001) = false by rw [show (s.size : Int) = 8001 by omega]; rfl)
          by_cases h6 : mp.size ≤ 90
          · have hq4 := Lib.hid (decide_eq_false (p := (90 : Int) < (mp.size : Int)) (by omega))
            have hq5 := Lib.hid (decide_eq_true (p := (60 : Int) < (mv.size : Int)) (by have h7 : ¬ mv.size ≤ 60 := fun h7 => hl.out ⟨h1, h2, h3, .inr h5, h6, h7⟩; omega))
            clear hl h1 h2 h3 h4 h5 h6
            go_wp2_with fail
            have q1 := hq1.out
            try have q2 := hq2.out
            try have q3 := hq3.out
            try have q4 := hq4.out
            try have q5 := hq5.out
            have kR := Lib.hid (fun d os => hr.below (below_step hB (below_patch w3 d os)))
            have kX := Lib.hid (fun d os => hx.below (below_step hB (below_patch w3 d os)))
            have kqz0 := fun d os => cell_patch (d := d) (os := os) z0
            have kqz1 := fun d os => cell_patch (d := d) (os := os) z1
            have kqz2 := fun d os => cell_patch (d := d) (os := os) z2
            have kqcm0 := fun d os => cell_patch (d := d) (os := os) cm0
            have kqcm1 := fun d os => cell_patch (d := d) (os := os) cm1
            refine wp_region_quiet_patch (by kernel_rfl) (by kernel_rfl) ?_
            repeat (go_big_quiet_step (first | (go_at_call_of 13 (Value.slice a1 n1 c1); exact Calls.patch_of (hl1.out _ (kR.out _ _))) | (go_at_call_of 13 (Value.slice a3 n3 c3); exact Calls.patch_of (hl2.out _ (kX.out _ _)))))
            refine wpQuiet_nil ?_
            intro _ hw'
            obtain ⟨⟨dq, osq⟩, hw''⟩ := hw'
            subst hw''
            clear kqz0 kqz1 kqz2 kqcm0 kqcm1
            have hb := below_patch w3 dq osq
            replace hz := hz.below hb
            replace cm0 := Below.cell_some hb cm0
            replace cm1 := Below.cell_some hb cm1
            replace hB := below_step hB hb
            clear hb
            generalize patch w3 dq osq = w4 at hz cm0 cm1 hB ⊢
            go_wp2_with fail
            go_ret
            exact ⟨rfl, hB⟩
          · have hq4 := Lib.hid (decide_eq_true (p := (90 : Int) < (mp.size : Int)) (by omega))
            clear hl h1 h2 h3 h4 h5 h6
            go_wp2_with fail
            have q1 := hq1.out
            try have q2 := hq2.out
            try have q3 := hq3.out
            try have q4 := hq4.out
            try have q5 := hq5.out
            have kR := Lib.hid (fun d os => hr.below (below_step hB (below_patch w3 d os)))
            have kX := Lib.hid (fun d os => hx.below (below_step hB (below_patch w3 d os)))
            have kqz0 := fun d os => cell_patch (d := d) (os := os) z0
            have kqz1 := fun d os => cell_patch (d := d) (os := os) z1
            have kqz2 := fun d os => cell_patch (d := d) (os := os) z2
            have kqcm0 := fun d os => cell_patch (d := d) (os := os) cm0
            have kqcm1 := fun d os => cell_patch (d := d) (os := os) cm1
            refine wp_region_quiet_patch (by kernel_rfl) (by kernel_rfl) ?_
            repeat (go_big_quiet_step (first | (go_at_call_of 13 (Value.slice a1 n1 c1); exact Calls.patch_of (hl1.out _ (kR.out _ _))) | (go_at_call_of 13 (Value.slice a3 n3 c3); exact Calls.patch_of (hl2.out _ (kX.out _ _)))))
            refine wpQuiet_nil ?_
            intro _ hw'
            obtain ⟨⟨dq, osq⟩, hw''⟩ := hw'
            subst hw''
            clear kqz0 kqz1 kqz2 kqcm0 kqcm1
            have hb := below_patch w3 dq osq
            replace hz := hz.below hb
            replace cm0 := Below.cell_some hb cm0
            replace cm1 := Below.cell_some hb cm1
            replace hB := below_step hB hb
            clear hb
            generalize patch w3 dq osq = w4 at hz cm0 cm1 hB ⊢
            go_wp2_with fail
            go_ret
            exact ⟨rfl, hB⟩
        · have hq3 := Lib.hid (show ((s.size : Int) != 8001) = true from bne_iff_ne.2 (by omega))
          clear hl h1 h2 h3 h4 h5
          go_wp2_with fail
          have q1 := hq1.out
          try have q2 := hq2.out
          try have q3 := hq3.out
          try have q4 := hq4.out
          try have q5 := hq5.out
          have kR := Lib.hid (fun d os => hr.below (below_step hB (below_patch w3 d os)))
          have kX := Lib.hid (fun d os => hx.below (below_step hB (below_patch w3 d os)))
          have kqz0 := fun d os => cell_patch (d := d) (os := os) z0
          have kqz1 := fun d os => cell_patch (d := d) (os := os) z1
          have kqz2 := fun d os => cell_patch (d := d) (os := os) z2
          have kqcm0 := fun d os => cell_patch (d := d) (os := os) cm0
          have kqcm1 := fun d os => cell_patch (d := d) (os := os) cm1
          refine wp_region_quiet_patch (by kernel_rfl) (by kernel_rfl) ?_
          repeat (go_big_quiet_step (first | (go_at_call_of 13 (Value.slice a1 n1 c1); exact Calls.patch_of (hl1.out _ (kR.out _ _))) | (go_at_call_of 13 (Value.slice a3 n3 c3); exact Calls.patch_of (hl2.out _ (kX.out _ _)))))
          refine wpQuiet_nil ?_
          intro _ hw'
          obtain ⟨⟨dq, osq⟩, hw''⟩ := hw'
          subst hw''
          clear kqz0 kqz1 kqz2 kqcm0 kqcm1
          have hb := below_patch w3 dq osq
          replace hz := hz.below hb
          replace cm0 := Below.cell_some hb cm0
          replace cm1 := Below.cell_some hb cm1
          replace hB := below_step hB hb
          clear hb
          generalize patch w3 dq osq = w4 at hz cm0 cm1 hB ⊢
          go_wp2_with fail
          go_ret
          exact ⟨rfl, hB⟩
    · rw [longI_no h2] at hl1
      rw [longI_yes h3] at hl2
      replace hl1 := Lib.hid hl1
      replace hl2 := Lib.hid hl2
      clear hl h1 h2 h3
      go_wp2_with fail
      have q1 := hq1.out
      try have q2 := hq2.out
      try have q3 := hq3.out
      try have q4 := hq4.out
      try have q5 := hq5.out
      have kR := Lib.hid (fun d os => hr.below (below_step hB (below_patch w3 d os)))
      have kX := Lib.hid (fun d os => hx.below (below_step hB (below_patch w3 d os)))
      have kqz0 := fun d os => cell_patch (d := d) (os := os) z0
      have kqz1 := fun d os => cell_patch (d := d) (os := os) z1
      have kqz2 := fun d os => cell_patch (d := d) (os := os) z2
      have kqcm0 := fun d os => cell_patch (d := d) (os := os) cm0
      have kqcm1 := fun d os => cell_patch (d := d) (os := os) cm1
      refine wp_region_quiet_patch (by kernel_rfl) (by kernel_rfl) ?_
      repeat (go_big_quiet_step (first | (go_at_call_of 13 (Value.slice a1 n1 c1); exact Calls.patch_of (hl1.out _ (kR.out _ _))) | (go_at_call_of 13 (Value.slice a3 n3 c3); exact Calls.patch_of (hl2.out _ (kX.out _ _)))))
      refine wpQuiet_nil ?_
      intro _ hw'
      obtain ⟨⟨dq, osq⟩, hw''⟩ := hw'
      subst hw''
      clear kqz0 kqz1 kqz2 kqcm0 kqcm1
      have hb := below_patch w3 dq osq
      replace hz := hz.below hb
      replace cm0 := Below.cell_some hb cm0
      replace cm1 := Below.cell_some hb cm1
      replace hB := below_step hB hb
      clear hb
      generalize patch w3 dq osq = w4 at hz cm0 cm1 hB ⊢
      go_wp2_with fail
      go_ret
      exact ⟨rfl, hB⟩
    · rw [longI_yes h2] at hl1
      rw [longI_no h3] at hl2
      replace hl1 := Lib.hid hl1
      replace hl2 := Lib.hid hl2
      clear hl h1 h2 h3
      go_wp2_with fail
      have q1 := hq1.out
      try have q2 := hq2.out
      try have q3 := hq3.out
      try have q4 := hq4.out
      try have q5 := hq5.out
      have kR := Lib.hid (fun d os => hr.below (below_step hB (below_patch w3 d os)))
      have kX := Lib.hid (fun d os => hx.below (below_step hB (below_patch w3 d os)))
      have kqz0 := fun d os => cell_patch (d := d) (os := os) z0
      have kqz1 := fun d os => cell_patch (d := d) (os := os) z1
      have kqz2 := fun d os => cell_patch (d := d) (os := os) z2
      have kqcm0 := fun d os => cell_patch (d := d) (os := os) cm0
      have kqcm1 := fun d os => cell_patch (d := d) (os := os) cm1
      refine wp_region_quiet_patch (by kernel_rfl) (by kernel_rfl) ?_
      repeat (go_big_quiet_step (first | (go_at_call_of 13 (Value.slice a1 n1 c1); exact Calls.patch_of (hl1.out _ (kR.out _ _))) | (go_at_call_of 13 (Value.slice a3 n3 c3); exact Calls.patch_of (hl2.out _ (kX.out _ _)))))
      refine wpQuiet_nil ?_
      intro _ hw'
      obtain ⟨⟨dq, osq⟩, hw''⟩ := hw'
      subst hw''
      clear kqz0 kqz1 kqz2 kqcm0 kqcm1
      have hb := below_patch w3 dq osq
      replace hz := hz.below hb
      replace cm0 := Below.cell_some hb cm0
      replace cm1 := Below.cell_some hb cm1
      replace hB := below_step hB hb
      clear hb
      generalize patch w3 dq osq = w4 at hz cm0 cm1 hB ⊢
      go_wp2_with fail
      go_ret
      exact ⟨rfl, hB⟩
    · rw [longI_yes h2] at hl1
      rw [longI_yes h3] at hl2
      replace hl1 := Lib.hid hl1
      replace hl2 := Lib.hid hl2
      clear hl h1 h2 h3
      go_wp2_with fail
      have q1 := hq1.out
      try have q2 := hq2.out
      try have q3 := hq3.out
      try have q4 := hq4.out
      try have q5 := hq5.out
      have kR := Lib.hid (fun d os => hr.below (below_step hB (below_patch w3 d os)))
      have kX := Lib.hid (fun d os => hx.below (below_step hB (below_patch w3 d os)))
      have kqz0 := fun d os => cell_patch (d := d) (os := os) z0
      have kqz1 := fun d os => cell_patch (d := d) (os := os) z1
      have kqz2 := fun d os => cell_patch (d := d) (os := os) z2
      have kqcm0 := fun d os => cell_patch (d := d) (os := os) cm0
      have kqcm1 := fun d os => cell_patch (d := d) (os := os) cm1
      refine wp_region_quiet_patch (by kernel_rfl) (by kernel_rfl) ?_
      repeat (go_big_quiet_step (first | (go_at_call_of 13 (Value.slice a1 n1 c1); exact Calls.patch_of (hl1.out _ (kR.out _ _))) | (go_at_call_of 13 (Value.slice a3 n3 c3); exact Calls.patch_of (hl2.out _ (kX.out _ _)))))
      refine wpQuiet_nil ?_
      intro _ hw'
      obtain ⟨⟨dq, osq⟩, hw''⟩ := hw'
      subst hw''
      clear kqz0 kqz1 kqz2 kqcm0 kqcm1
      have hb := below_patch w3 dq osq
      replace hz := hz.below hb
      replace cm0 := Below.cell_some hb cm0
      replace cm1 := Below.cell_some hb cm1
      replace hB := below_step hB hb
      clear hb
      generalize patch w3 dq osq = w4 at hz cm0 cm1 hB ⊢
      go_wp2_with fail
      go_ret
      exact ⟨rfl, hB⟩
  · have hq1 := Lib.hid (decide_eq_true (p := (90 : Int) < (p.size : Int)) (by omega))
    replace hl1 := Lib.hid hl1
    replace hl2 := Lib.hid hl2
    clear hl h1
    go_wp2_with fail
    have q1 := hq1.out
    try have q2 := hq2.out
    try have q3 := hq3.out
    try have q4 := hq4.out
    try have q5 := hq5.out
    have kR := Lib.hid (fun d os => hr.below (below_step hB (below_patch w3 d os)))
    have kX := Lib.hid (fun d os => hx.below (below_step hB (below_patch w3 d os)))
    have kqz0 := fun d os => cell_patch (d := d) (os := os) z0
    have kqz1 := fun d os => cell_patch (d := d) (os := os) z1
    have kqz2 := fun d os => cell_patch (d := d) (os := os) z2
    have kqcm0 := fun d os => cell_patch (d := d) (os := os) cm0
    have kqcm1 := fun d os => cell_patch (d := d) (os := os) cm1
    refine wp_region_quiet_patch (by kernel_rfl) (by kernel_rfl) ?_
    repeat (go_big_quiet_step (first | (go_at_call_of 13 (Value.slice a1 n1 c1); exact Calls.patch_of (hl1.out _ (kR.out _ _))) | (go_at_call_of 13 (Value.slice a3 n3 c3); exact Calls.patch_of (hl2.out _ (kX.out _ _)))))
    refine wpQuiet_nil ?_
    intro _ hw'
    obtain ⟨⟨dq, osq⟩, hw''⟩ := hw'
    subst hw''
    clear kqz0 kqz1 kqz2 kqcm0 kqcm1
    have hb := below_patch w3 dq osq
    replace hz := hz.below hb
    replace cm0 := Below.cell_some hb cm0
    replace cm1 := Below.cell_some hb cm1
    replace hB := below_step hB hb
    clear hb
    generalize patch w3 dq osq = w4 at hz cm0 cm1 hB ⊢
    go_wp2_with fail
    go_ret
    exact ⟨rfl, hB⟩
end Go.Proofs.Pw

/- The references' small functions: AreDigits, NumberOf, Cut, SameTexts. Conditions: texts of at most 4000000000 bytes. -/
namespace Go.Proofs.Pw
open Go.RowKit
open Go.Lib hiding intOf

theorem take_snoc (s : ByteArray) (k : Nat) (h : k < s.size) : s.data.toList.take (k + 1) = s.data.toList.take k ++ [s[k]] := by
  rw [List.take_succ_eq_append_getElem (by simpa using h)]; rfl
theorem drop_cons (s : ByteArray) (k : Nat) (h : k < s.size) : s.data.toList.drop k = s[k] :: s.data.toList.drop (k + 1) := by
  rw [List.drop_eq_getElem_cons (by simpa using h)]; rfl
theorem byte_mem (s : ByteArray) (k : Nat) (h : k < s.size) : s[k] ∈ s.data.toList := by
  have : s[k] = s.data.toList[k]'(by simpa using h) := rfl
  rw [this]; exact List.getElem_mem _
theorem take_size (s : ByteArray) : s.data.toList.take s.size = s.data.toList := by rw [size_eq, List.take_length]
theorem drop_size (s : ByteArray) : s.data.toList.drop s.size = [] := by rw [size_eq, List.drop_length]
theorem isDig_no {c : UInt8} (h : (c.toNat : Int) < 48 ∨ 57 < (c.toNat : Int)) : isDig c = false := by unfold isDig; apply decide_eq_false; omega
theorem isDig_yes {c : UInt8} (h1 : ¬ (c.toNat : Int) < 48) (h2 : ¬ 57 < (c.toNat : Int)) : isDig c = true := by unfold isDig; apply decide_eq_true; omega
theorem areDigits_no {s : ByteArray} {k : Nat} (h : k < s.size) (hd : isDig s[k] = false) : areDigits s.data.toList = false := by
  unfold areDigits
  have : s.data.toList.all isDig = false := by
    rw [Bool.eq_false_iff]
    intro e
    have := List.all_eq_true.1 e _ (byte_mem s k h)
    rw [hd] at this
    cases this
  rw [this, Bool.and_false]
theorem areDigits_yes {s : ByteArray} (h : 0 < s.size) (ha : (s.data.toList.take s.size).all isDig = true) : areDigits s.data.toList = true := by
  rw [take_size] at ha
  unfold areDigits
  rw [ha]
  cases e : s.data.toList with
  | nil => rw [size_eq, e] at h; simp at h
  | cons => rfl
theorem areDigits_none {s : ByteArray} (h : s.size = 0) : areDigits s.data.toList = false := by
  have : s.data.toList = [] := List.length_eq_zero_iff.1 (by rw [← size_eq]; exact h)
  rw [this]; rfl

/-- R.AreDigits -/
theorem refDigits_calls (s : ByteArray) (w : World) (hs : s.size ≤ 4000000000) :
    Calls Tryz.prog 146 #[.string s] w fun e w' => e = .returned (.bool (areDigits s.data.toList)) ∧ w = w' := by
  go_enter Tryz.func146, Tryz.ntmps146
  go_wp2_with fail
  go_loop [3] (fun i => ∃ k : Nat, k ≤ s.size ∧ i = .int .i64 k ∧ Hid ((s.data.toList.take k).all isDig = true)) (fun i => s.size - (intOf i).toNat)
  case atStart => exact ⟨0, Nat.zero_le _, rfl, Lib.hid rfl⟩
  case round =>
    obtain ⟨k, hk, rfl, HA⟩ := hrel
    by_cases hlt : k < s.size
    · by_cases h1 : (s[k].toNat : Int) < 48
      · have HF := Lib.hid (areDigits_no hlt (isDig_no (.inl h1)))
        go_wp2_with fail
        go_ret
        rw [HF.out]
        exact ⟨rfl, rfl⟩
      · by_cases h2 : 57 < (s[k].toNat : Int)
        · have HF := Lib.hid (areDigits_no hlt (isDig_no (.inr h2)))
          go_wp2_with fail
          go_ret
          rw [HF.out]
          exact ⟨rfl, rfl⟩
        · have HN : Hid ((s.data.toList.take (k + 1)).all isDig = true) := Lib.hid (by rw [take_snoc s k hlt, List.all_append, HA.out]; simp [isDig_yes h1 h2])
          go_wp2_with fail
          go_round
          case rel => exact ⟨k + 1, by omega, by go_num, HN⟩
          case measure => simp [intOf]; omega
    · obtain rfl : k = s.size := by omega
      by_cases h0 : 0 < s.size
      · have HF := Lib.hid (areDigits_yes h0 HA.out)
        go_wp2_with fail
        go_ret
        rw [HF.out]
        exact ⟨rfl, rfl⟩
      · have HF := Lib.hid (areDigits_none (s := s) (by omega))
        go_wp2_with fail
        go_ret
        rw [HF.out]
        exact ⟨rfl, rfl⟩

theorem decVal_bound {l : Str} (h : l.all isDig = true) (h6 : l.length ≤ 6) : decVal l ≤ 999999 := by
  have h1 := decVal_lt l h
  have := Nat.pow_le_pow_right (n := 10) (by decide) h6
  omega

set_option maxHeartbeats 400000 in
/-- R.NumberOf -/
theorem refNumber_calls (s : ByteArray) (w : World) (hs : s.size ≤ 4000000000) :
    Calls Tryz.prog 145 #[.string s] w fun e w' => e = .returned (.tuple #[.int .i64 ((numberOf s.data.toList).1 : Nat), .int .i64 ((numberOf s.data.toList).2 : Nat)]) ∧ w = w' := by
  cases hd : areDigits s.data.toList with
  | false =>
    have HF := Lib.hid (numberOf_text (s := s.data.toList) (.inl hd))
    have HD := Lib.hid hd
    clear hd
    go_enter Tryz.func145, Tryz.ntmps145
    go_wp2_with fail
    refine (refDigits_calls s w hs).mono ?_
    rintro e w' ⟨rfl, rfl⟩
    rw [HD.out]
    go_wp2_with fail
    go_ret2
    rw [HF.out]
    exact ⟨rfl, rfl⟩
  | true =>
    have HD := Lib.hid hd
    have hall : s.data.toList.all isDig = true := by
      unfold areDigits at hd; simp only [Bool.and_eq_true] at hd; exact hd.2
    have hne : 0 < s.size := by
      rw [size_eq]
      cases hsd : s.data.toList with
      | nil => rw [hsd] at hd; simp [areDigits] at hd
      | cons c r => simp
    have h0 : s.data.toList.head? = some (s[0]'hne) := by
      rw [List.head?_eq_getElem?, List.getElem?_eq_getElem (by rw [← size_eq]; omega)]; rfl
    have HA := Lib.hid hall
    by_cases hz : 1 < s.size ∧ s[0]'hne = 48
    · have HF := Lib.hid (numberOf_text (s := s.data.toList) (.inr ⟨by rw [← size_eq]; exact hz.1, by rw [h0, hz.2]⟩))
      have h1 := hz.1
      have h2 : ((s[0]'hne).toNat : Int) = 48 := by rw [hz.2]; rfl
      clear hd hall h0 hz
      go_enter Tryz.func145, Tryz.ntmps145
      go_wp2_with fail
      refine (refDigits_calls s w hs).mono ?_
      rintro e w' ⟨rfl, rfl⟩
      rw [HD.out]
      go_wp2_with fail
      go_ret2
      rw [HF.out]
      exact ⟨rfl, rfl⟩
    · have hz2 : ¬ (1 < s.data.toList.length ∧ s.data.toList.head? = some 48) := by
        rw [← size_eq, h0]
        rintro ⟨h1, h2⟩
        exact hz ⟨h1, Option.some.inj h2⟩
      have hnot : ¬ (areDigits s.data.toList = false ∨ (1 < s.data.toList.length ∧ s.data.toList.head? = some 48)) := by
        rintro (h | h)
        · rw [hd] at h; cases h
        · exact hz2 h
      have h01 : (1 < s.size ∧ (((s[0]'hne).toNat : Int) == 48) = false) ∨ ¬ 1 < s.size := by
        by_cases h1 : 1 < s.size
        · refine .inl ⟨h1, ?_⟩
          rw [beq_eq_false_iff_ne]
          intro e
          refine hz ⟨h1, ?_⟩
          have : (s[0]'hne).toNat = 48 := by exact_mod_cast e
          rw [show (48 : UInt8) = UInt8.ofNat 48 from rfl, ← this, UInt8.ofNat_toNat]
        · exact .inr h1
      by_cases h6 : 6 < s.size
      · have HF := Lib.hid (numberOf_long hnot (by rw [← size_eq]; exact h6))
        obtain ⟨h1, h2⟩ := h01.resolve_right (by omega)
        clear hd hall h0 hz hz2 hnot
        go_enter Tryz.func145, Tryz.ntmps145
        go_wp2_with fail
        refine (refDigits_calls s w hs).mono ?_
        rintro e w' ⟨rfl, rfl⟩
        rw [HD.out]
        go_wp2_with fail
        go_ret2
        rw [HF.out]
        exact ⟨rfl, rfl⟩
      · have HF := Lib.hid (numberOf_ok hnot (by rw [← size_eq]; exact h6))
        clear hd hall h0 hz hz2 hnot
        rcases h01 with ⟨h1, h2⟩ | h1
        all_goals
          go_enter Tryz.func145, Tryz.ntmps145
          go_wp2_with fail
          refine (refDigits_calls s w hs).mono ?_
          rintro e w' ⟨rfl, rfl⟩
          rw [HD.out]
          go_wp2_with fail
          go_loop [5, 6] (fun n i => ∃ k : Nat, k ≤ s.size ∧ i = .int .i64 k ∧ n = .int .i64 (decVal (s.data.toList.take k) : Nat)) (fun _ i => s.size - (intOf i).toNat)
          case atStart => exact ⟨0, Nat.zero_le _, rfl, rfl⟩
          case' round =>
            obtain ⟨k, hk, rfl, rfl⟩ := hrel
            by_cases hlt : k < s.size
            case' pos =>
              have hc := dig_lt (List.all_eq_true.1 HA.out _ (byte_mem s k hlt))
              have hall : (s.data.toList.take k).all isDig = true := List.all_eq_true.2 fun c hc => List.all_eq_true.1 HA.out c (List.mem_of_mem_take hc)
              have hb := decVal_bound hall (by rw [List.length_take]; omega)
              have HN : Hid (decVal (s.data.toList.take (k + 1)) = 10 * decVal (s.data.toList.take k) + (s[k].toNat - 48)) := Lib.hid (by rw [take_snoc s k hlt, decVal_snoc])
              have hc1 : (s[k].toNat : Int) - 48 ≤ 9 := by omega
              have hc2 : 48 ≤ (s[k].toNat : Int) := by omega
              generalize decVal (s.data.toList.take k) = v at hb HN ⊢
              clear hc hall
              go_wp2_with fail
              go_round
              case rel => exact ⟨k + 1, by omega, by go_num, by rw [HN.out]; go_num⟩
              case measure => simp [intOf]; omega
            case' neg =>
              obtain rfl : k = s.size := by omega
              have HT := Lib.hid (take_size s)
              go_wp2_with fail
              go_ret2
              rw [HF.out, HT.out]
              exact ⟨rfl, rfl⟩
end Go.Proofs.Pw

/- The references' small functions: Cut, SameTexts. Conditions: texts of at most 1000000000 bytes. -/
namespace Go.Proofs.Pw
open Go.RowKit
open Go.Lib hiding intOf

theorem Tryz.infoString : (Tryz.prog.info? 9).map (fun i => (i.zero, i.size, i.bytes)) = some (some (.string ⟨#[]⟩), 1, 16) := by kernel_rfl

/-- texts as values -/
def strVs (l : List ByteArray) : List Value := l.map Value.string
def strTs (l : List ByteArray) : List Str := l.map (·.data.toList)
theorem strTs_length (l) : (strTs l).length = l.length := List.length_map ..
theorem strVs_length (l) : (strVs l).length = l.length := List.length_map ..
theorem strVs_snoc (l : List ByteArray) (x : ByteArray) : strVs l ++ [.string x] = strVs (l ++ [x]) := by simp [strVs]
theorem strTs_snoc (l : List ByteArray) (x : ByteArray) : strTs (l ++ [x]) = strTs l ++ [x.data.toList] := by simp [strTs]
theorem lstF_list (l : List ByteArray) : lstF l.length (fun j => l.getD j ByteArray.empty) = strTs l := by
  apply List.ext_getElem
  · simp [lstF_length, strTs]
  · intro i h1 h2
    simp only [strTs, List.length_map] at h2
    simp [lstF, strTs, List.getD_eq_getElem?_getD, List.getElem?_eq_getElem h2]

/-- a row of the call's own, of texts, as it is read -/
theorem strsAt_own {w : World} {base e : Nat} {v : Value} {l : List ByteArray} (h : w.ownsRow base e 1 v l.length (strVs l)) : StrsAt w v (strTs l) := by
  rcases h.2 with ⟨rfl, h0⟩ | ⟨g, cap, cur, rfl, hb, hg, hn, hm, hs, ht⟩
  · have : l = [] := List.eq_nil_of_length_eq_zero h0
    subst this
    exact StrsAt.nil w
  · refine ⟨_, l.length, cap, fun j => l.getD j ByteArray.empty, rfl, (lstF_list l).symm, hn, by unfold maxLen at hm; exact hm, fun j hj => ⟨g, 0, rfl, ?_⟩⟩
    rw [Nat.zero_add, cell_of_row w g j cur e (0, 0) hg]
    have h1 : (strVs l)[j]? = some (.string (l.getD j ByteArray.empty)) := by
      simp [strVs, List.getD_eq_getElem?_getD, List.getElem?_eq_getElem hj]
    rw [← ht, List.getElem?_take, if_pos (by omega)] at h1
    simpa using h1

/-- a slice whose row was not there -/
def NewRow (w : World) (v : Value) : Prop := ∀ q n c, v = .slice (some q) n c → w.heap.size ≤ q.block
theorem newRow_own {w w' : World} {e k n : Nat} {v : Value} {xs : List Value} (h : w'.ownsRow w.heap.size e k v n xs) : NewRow w v := by
  rintro q m c rfl
  exact (h.lt q.block rfl).1

theorem extract_take_drop (s : ByteArray) (g k : Nat) (_hk : k ≤ s.size) : (s.extract g k).data.toList = (s.data.toList.take k).drop g := by
  rw [extract_data, List.drop_take]

theorem cutAt_step (c : UInt8) (s : ByteArray) (k g : Nat) (hlt : k < s.size) (hg : g ≤ k) :
    cutAt c ((s.data.toList.take k).drop g) (s.data.toList.drop k) = if s[k] = c then (s.extract g k).data.toList :: cutAt c ((s.data.toList.take (k + 1)).drop (k + 1)) (s.data.toList.drop (k + 1)) else cutAt c ((s.data.toList.take (k + 1)).drop g) (s.data.toList.drop (k + 1)) := by
  have e1 : (s.data.toList.take (k + 1)).drop (k + 1) = [] := List.drop_eq_nil_of_le (by rw [List.length_take]; omega)
  have e2 : (s.data.toList.take (k + 1)).drop g = (s.data.toList.take k).drop g ++ [s[k]] := by
    rw [take_snoc s k hlt, List.drop_append_of_le_length (by rw [List.length_take, ← size_eq]; omega)]
  rw [drop_cons s k hlt, cutAt, extract_take_drop s g k (by omega), e1, e2]

set_option maxHeartbeats 400000 in
/-- R.Cut -/
theorem refCut_calls (s : ByteArray) (c : UInt8) (w : World) (hs : s.size ≤ 1000000000) :
    Calls Tryz.prog 78 #[.string s, .int .u8 c.toNat] w fun e w' => (∃ v, e = .returned v ∧ StrsAt w' v (split s.data.toList [c]) ∧ NewRow w v) ∧ Below w.heap.size w w' := by
  obtain ⟨i0, hi, hz0, hz1, hz2⟩ := info_parts Tryz.infoString
  go_enter Tryz.func78, Tryz.ntmps78
  go_wp2_with fail
  go_loopw [5, 6, 7] (fun v f i wr => ∃ (k g : Nat) (P : List ByteArray), k ≤ s.size ∧ g ≤ k ∧ P.length ≤ k ∧ i = .int .i64 k ∧ f = .int .i64 g ∧ wr.ownsRow w.heap.size 9 1 v P.length (strVs P) ∧ Below w.heap.size w wr ∧ Hid (split s.data.toList [c] = strTs P ++ cutAt c ((s.data.toList.take k).drop g) (s.data.toList.drop k))) (fun _ _ i _ => s.size - (intOf i).toNat)
  case atStart => exact ⟨0, 0, [], Nat.zero_le _, Nat.le_refl _, Nat.le_refl _, rfl, rfl, World.ownsRow_nil _ _ _ _, Below.refl _ _, Lib.hid (split_eq c s.data.toList)⟩
  case round =>
    obtain ⟨k, g, P, hk, hg, hP, rfl, rfl, hown, hb, HC⟩ := hrel
    by_cases hlt : k < s.size
    · have hst := cutAt_step c s k g hlt hg
      by_cases hc : s[k] = c
      · rw [if_pos hc] at hst
        have hq : ((s[k].toNat : Int) == (c.toNat : Int)) = true := by rw [hc]; simp
        have HN : Hid (split s.data.toList [c] = strTs (P ++ [s.extract g k]) ++ cutAt c ((s.data.toList.take (k + 1)).drop (k + 1)) (s.data.toList.drop (k + 1))) := Lib.hid (by rw [HC.out, hst, strTs_snoc]; simp)
        have hc2 : (s[k].toNat : Int) = c.toNat := by rw [hc]
        clear hst hc
        go_wp2_with (at_builtin; refine wpList_append_own _ rfl _ _ 61 rfl w.heap.size 9 i0 (.string ⟨#[]⟩) 1 16 Tryz.underlying61 hi hz0 hz1 hz2 rfl (by decide) _ _ _ rfl (hown.alloc _) ⟨wr.heap.size, 0, none⟩ 1 1 [.string (s.extract g k)] rfl rfl (cell_one_new _ _ _) (fun x hx => by simp at hx; subst hx; rfl) (by unfold maxLen; omega) (by omega) (by have := hb.size; simp; omega) ?_; intro v' w1 hown1 hgrow1 _)
        go_roundw
        case rel =>
          refine ⟨k + 1, k + 1, P ++ [s.extract g k], by omega, Nat.le_refl _, by simp; omega, by go_num, by go_num, ?_, ?_, HN⟩
          · rw [← strVs_snoc, List.length_append]; exact hown1
          · exact (hb.alloc hb.size _).grown hgrow1 (by have := hb.size; simp; omega) (fun q hq => (hown.lt q hq).1)
        case measure => simp [intOf]; omega
      · rw [if_neg hc] at hst
        have hq : ((s[k].toNat : Int) == (c.toNat : Int)) = false := beq_eq_false_iff_ne.2 (fun e => hc (UInt8.toNat_inj.1 (by exact_mod_cast e)))
        have HN := Lib.hid (HC.out.trans (congrArg (strTs P ++ ·) hst))
        clear hst hc
        go_wp2_with fail
        go_roundw
        case rel => exact ⟨k + 1, g, P, by omega, by omega, by omega, by go_num, rfl, hown, hb, HN⟩
        case measure => simp [intOf]; omega
    · obtain rfl : k = s.size := by omega
      have HN : Hid (split s.data.toList [c] = strTs (P ++ [s.extract g s.size])) := Lib.hid (by
        rw [HC.out, drop_size, cutAt, strTs_snoc, take_size, extract_to_end])
      go_wp2_with (at_builtin; refine wpList_append_own _ rfl _ _ 61 rfl w.heap.size 9 i0 (.string ⟨#[]⟩) 1 16 Tryz.underlying61 hi hz0 hz1 hz2 rfl (by decide) _ _ _ rfl (hown.alloc _) ⟨wr.heap.size, 0, none⟩ 1 1 [.string (s.extract g s.size)] rfl rfl (cell_one_new _ _ _) (fun x hx => by simp at hx; subst hx; rfl) (by unfold maxLen; omega) (by omega) (by have := hb.size; simp; omega) ?_; intro v' w1 hown1 hgrow1 _)
      go_ret
      rw [HN.out]
      refine ⟨⟨v', rfl, strsAt_own (base := w.heap.size) (e := 9) ?_, newRow_own hown1⟩, (hb.alloc hb.size _).grown hgrow1 (by have := hb.size; simp; omega) (fun q hq => (hown.lt q hq).1)⟩
      rw [← strVs_snoc, List.length_append]; exact hown1

theorem lstF_ext {n : Nat} {L M : Nat → ByteArray} : lstF n L = lstF n M ↔ ∀ j, j < n → (L j).data.toList = (M j).data.toList := by
  simp [lstF]
theorem bytes_ext {a b : ByteArray} : a.data.toList = b.data.toList ↔ a = b := ⟨fun h => by
  apply ByteArray.ext; apply Array.ext'; exact h, fun h => by rw [h]⟩

end Go.Proofs.Pw

/- The references' small functions: Byte, below, Decimal. -/
namespace Go.Proofs.Pw
open Go.RowKit
open Go.Lib hiding intOf
open Go.Sort (grow grow_grow grow_empty)

/-- some draws on, some blocks laid -/
def GrownW (w w' : World) : Prop := ∃ q os, w' = grow (w.drewN q) os
theorem GrownW.below {w w' : World} (h : GrownW w w') : Below w.heap.size w w' := by
  obtain ⟨q, os, rfl⟩ := h
  exact below_grow _ _ (Nat.le_refl _) _ _
theorem GrownW.trans {a b c : World} (h : GrownW a b) (k : GrownW b c) : GrownW a c := by
  obtain ⟨q, os, rfl⟩ := h
  obtain ⟨q', os', rfl⟩ := k
  refine ⟨q + q', os ++ os', ?_⟩
  show grow (grow ((a.drewN q).drewN q') os) os' = _
  rw [grow_grow, World.drewN_drewN]
theorem grownW_alloc (w : World) (o : Obj) : GrownW w (w.alloc o) := ⟨0, #[o], Go.Sort.alloc_eq_grow w o⟩
theorem GrownW.refl (w : World) : GrownW w w := ⟨0, #[], (grow_empty _).symm⟩


theorem decDigits_small {m : Nat} (h : m < 10) : decDigits m = [UInt8.ofNat (48 + m)] := by rw [decDigits, dif_pos h]
theorem decDigits_large {m : Nat} (h : ¬ m < 10) : decDigits m = decDigits (m / 10) ++ [UInt8.ofNat (48 + m % 10)] := by rw [decDigits, dif_neg h]
theorem byte_of_digit {d : Nat} (h : d < 10) {x : Int} (hx : x = 48 + d) : ((UInt8.ofNat (48 + d)).toNat : Int) = x := by
  rw [(isDig_ofNat h).2, hx]; omega

theorem decDigits_len_le (u : Nat) : (decDigits u).length ≤ u + 1 := by
  induction u using Nat.strongRecOn with
  | _ u ih =>
    rw [decDigits]
    split
    · simp
    · rename_i h
      have := ih (u / 10) (by omega)
      simp only [List.length_append, List.length_singleton]
      omega


end Go.Proofs.Pw

/- R.VerOf: its walk. Conditions: a text of at most 1000000000 bytes. -/
namespace Go.Proofs.Pw
open Go.RowKit
open Go.Lib hiding intOf

theorem worseN_one_left (b : Nat) : worseN 1 b = 1 := by unfold worseN; rw [if_pos (.inl rfl)]
theorem worseN_one_right (a : Nat) : worseN a 1 = 1 := by unfold worseN; split <;> omega
theorem numErrs_one : ∀ (l : List Str) (b : Nat), (b = 1 ∨ ∃ w ∈ l, (numberOf w).2 = 1) → numErrs l b = 1
  | [], b, h => by
    rcases h with h | ⟨w, hw, _⟩
    · exact h
    · cases hw
  | w :: r, b, h => by
    show numErrs r (worseN b (numberOf w).2) = 1
    apply numErrs_one r
    rcases h with rfl | ⟨x, hx, h1⟩
    · exact .inl (worseN_one_left _)
    · rcases List.mem_cons.1 hx with rfl | hx
      · rw [h1]; exact .inl (worseN_one_right _)
      · exact .inr ⟨x, hx, h1⟩
theorem partErrs_one : ∀ (l : List Str) (b : Nat), (b = 1 ∨ ∃ w ∈ l, partErr w = 1) → partErrs l b = 1
  | [], b, h => by
    rcases h with h | ⟨w, hw, _⟩
    · exact h
    · cases hw
  | w :: r, b, h => by
    show partErrs r (worseN b (partErr w)) = 1
    apply partErrs_one r
    rcases h with rfl | ⟨x, hx, h1⟩
    · exact .inl (worseN_one_left _)
    · rcases List.mem_cons.1 hx with rfl | hx
      · rw [h1]; exact .inl (worseN_one_right _)
      · exact .inr ⟨x, hx, h1⟩
theorem verErr_is {s : Str} (h1 : hasPrefix s [118] = true) (h2 : (verWords s).length = 3) : verErr s = verErrs s := by
  unfold verErr; rw [if_neg]; rw [h1, h2]; simp
theorem verErrs_one {s : Str} (h : partErrs (verPres s) (numErrs (verWords s) 0) = 1) : verErrs s = 1 := by
  unfold verErrs
  simp only
  rw [h]
  split
  · exact worseN_one_left _
  · rfl
theorem verErrs_num {s w : Str} (h : w ∈ verWords s) (h1 : (numberOf w).2 = 1) : verErrs s = 1 :=
  verErrs_one (partErrs_one _ _ (.inl (numErrs_one _ _ (.inr ⟨w, h, h1⟩))))
theorem verErrs_part {s w : Str} (h : w ∈ verPres s) (h1 : partErr w = 1) : verErrs s = 1 :=
  verErrs_one (partErrs_one _ _ (.inr ⟨w, h, h1⟩))
/-- the bound seen so far, as an error's number -/
def bndN (b : Bool) : Nat := if b then 2 else 0
theorem bndN_step (b : Bool) {e : Nat} (h1 : e ≠ 1) (h2 : e ≤ 2) : worseN (bndN b) e = bndN (b || decide (0 < e)) := by
  obtain rfl | rfl : e = 0 ∨ e = 2 := by omega
  all_goals cases b <;> rfl
theorem verErrs_bnd {s : Str} {b : Bool} (h : partErrs (verPres s) (numErrs (verWords s) 0) = bndN b) : verErrs s = if b = true ∨ 5 < (verPres s).length then 2 else 0 := by
  unfold verErrs
  simp only
  rw [h]
  by_cases h5 : 5 < (verPres s).length
  · rw [if_pos h5, if_pos (.inr h5)]
    cases b <;> rfl
  · rw [if_neg h5]
    cases b
    · rw [if_neg (by simp [h5])]; rfl
    · rw [if_pos (.inl rfl)]; rfl

structure NBox (w : World) (b : Nat) (L : Nat → ByteArray) (k : Nat) (v3 : Value) : Prop where
  c : ∀ j, j < 3 → w.cell? ⟨b, j, none⟩ = some (.int .i64 (numAt L k j))
  c3 : w.cell? ⟨b, 3, none⟩ = some v3
  fr : ∀ j, w.frozen? ⟨b, j, none⟩ = false
theorem NBox.below {w w' : World} {b : Nat} {L : Nat → ByteArray} {k : Nat} {v3 : Value} (h : NBox w b L k v3) (hb : Below w.heap.size w w') : NBox w' b L k v3 :=
  ⟨fun j hj => Below.cell_some hb (h.c j hj), Below.cell_some hb h.c3, fun j => (hb.frozen (p := ⟨b, j, none⟩) (show b < w.heap.size from lt_of_cell h.c3)).trans (h.fr j)⟩
theorem nbox_alloc (w : World) (t : TypeId) (L : Nat → ByteArray) : NBox (w.alloc (.cells #[.int .i64 0, .int .i64 0, .int .i64 0, .slice none 0 0] t)) w.heap.size L 0 (.slice none 0 0) :=
  ⟨fun j hj => by rw [numAt_zero]; obtain rfl | rfl | rfl : j = 0 ∨ j = 1 ∨ j = 2 := by omega
                  all_goals simp, by simp, fun j => by simp⟩
theorem NBox.step {w : World} {b : Nat} {L : Nat → ByteArray} {k : Nat} {v3 : Value} (h : NBox w b L k v3) (hk : k < 3) : NBox (w.setCell ⟨b, k, none⟩ (.int .i64 ((numberOf (L k).data.toList).1 : Nat))) b L (k + 1) v3 := by
  refine ⟨fun j hj => ?_, ?_, fun j => by simp [h.fr]⟩
  · by_cases e : j = k
    · subst e
      rw [numAt_new]
      exact World.cell?_setCell_same _ _ _ (h.c j hj)
    · rw [numAt_old _ _ _ e, World.cell?_setCell_other _ _ _ _ (fun h2 => e (by injection h2 with _ h3 _; exact h3.symm))]
      exact h.c j hj
  · rw [World.cell?_setCell_other _ _ _ _ (fun h2 => by injection h2 with _ h3 _; omega)]
    exact h.c3
theorem NBox.set3 {w : World} {b : Nat} {L : Nat → ByteArray} {k : Nat} {v3 : Value} (h : NBox w b L k v3) (v : Value) : NBox (w.setCell ⟨b, 3, none⟩ v) b L k v := by
  refine ⟨fun j hj => ?_, World.cell?_setCell_same _ _ _ h.c3, fun j => by simp [h.fr]⟩
  rw [World.cell?_setCell_other _ _ _ _ (by intro e; injection e with _ e2 _; omega)]
  exact h.c j hj

theorem hasPrefix_byte (s : ByteArray) (h : 0 < s.size) : hasPrefix s.data.toList [118] = decide (s[0] = 118) := by
  have e : s.data.toList = s[0] :: s.data.toList.drop 1 := by
    have := drop_cons s 0 h
    simpa using this
  rw [e]
  unfold hasPrefix
  rw [Bool.eq_iff_iff]
  simp only [List.isPrefixOf, Bool.and_true, decide_eq_true_eq, beq_iff_eq]
  exact eq_comm
theorem trimPrefix_byte (s : ByteArray) (h : hasPrefix s.data.toList [118] = true) : trimPrefix s.data.toList [118] = s.data.toList.drop 1 := by
  unfold trimPrefix; rw [if_pos h]; rfl

set_option maxRecDepth 100000 in
set_option maxHeartbeats 400000 in
/-- R.VerOf at what does not begin with v -/
theorem refVerOf_none (s : ByteArray) (w : World) (hs : s.size ≤ 1000000000) (hp : hasPrefix s.data.toList [118] = false) :
    Calls Tryz.prog 97 #[.string s] w fun e w' => e = .returned (.tuple #[.agg #[.int .i64 0, .int .i64 0, .int .i64 0, .slice none 0 0], .int .i64 1]) ∧ Below w.heap.size w w' := by
  have hbA := below_alloc w (.cells #[.int .i64 0, .int .i64 0, .int .i64 0, .slice none 0 0] 130)
  obtain ⟨z0, z1, z2, z3, zf⟩ := box4_alloc w (.int .i64 0) (.int .i64 0) (.int .i64 0) (.slice none 0 0) 130
  have zf0 := zf 0
  have zf1 := zf 1
  have zf2 := zf 2
  have zf3 := zf 3
  clear zf
  by_cases h0 : s.size = 0
  · have h0' : ((s.size : Nat) : Int) = 0 := by omega
    clear hp
    go_enter Tryz.func97, Tryz.ntmps97
    go_wp2_with fail
    refine bodyPost_ret (v := .tuple #[.agg #[.int .i64 0, .int .i64 0, .int .i64 0, .slice none 0 0], .int .i64 1]) (by simp [results, Tryz.results97, go_sem, *]) rfl ⟨rfl, ?_⟩
    exact below_alloc _ _
  · have hlt : 0 < s.size := by omega
    rw [hasPrefix_byte s hlt] at hp
    have hp1 : ((s[0].toNat : Int) == 118) = false := beq_eq_false_iff_ne.2 (fun e => by
      have : s[0] = 118 := UInt8.toNat_inj.1 (by have : s[0].toNat = 118 := by exact_mod_cast e
                                                 rw [this]; rfl)
      simp [this] at hp)
    have h00 : ((s.size : Int) == 0) = false := beq_eq_false_iff_ne.2 (by omega)
    clear hp h0
    go_enter Tryz.func97, Tryz.ntmps97
    go_wp2_with fail
    refine bodyPost_ret (v := .tuple #[.agg #[.int .i64 0, .int .i64 0, .int .i64 0, .slice none 0 0], .int .i64 1]) (by simp [results, Tryz.results97, go_sem, *]) rfl ⟨rfl, ?_⟩
    exact below_alloc _ _
end Go.Proofs.Pw
