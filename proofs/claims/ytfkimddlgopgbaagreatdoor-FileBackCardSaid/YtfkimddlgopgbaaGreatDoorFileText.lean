/- file.Text. Conditions: texts of at most 1000000 bytes, lists of at most 1000000. -/
import Derived.Test.YtfkimddlgopgbaaGreatDoorFile2
import Derived.Test.YtfkimddlgopgbaaGreatDoorBuild
namespace Go.Proofs.Pw
open Go.RowKit
open Go.Lib hiding intOf

/-! ### a builder -/
def BAt (B b : Nat) (l : Str) (w : World) : Prop := IsBuilder 82 5 B b (byteCells l) w
theorem ownsRow_kept {w w' : World} {base e size n : Nat} {v : Value} {xs : List Value} (h : w.ownsRow base e size v n xs) (hb : Below w.heap.size w w') : w'.ownsRow base e size v n xs := by
  refine ⟨h.1, ?_⟩
  rcases h.2 with h2 | ⟨g, c, cur, h1, h2, h3, h4⟩
  · exact .inl h2
  · exact .inr ⟨g, c, cur, h1, h2, (hb.block g (Array.getElem?_eq_some_iff.1 h3).1).trans h3, h4⟩
theorem builderAt_below {B b : Nat} {p : Value} {bs : List Value} {w w' : World} (h : BuilderAt 82 5 B b p bs w) (hb : Below w.heap.size w w') : BuilderAt 82 5 B b p bs w' := by
  obtain ⟨h1, v, h2, h3, h4⟩ := h
  exact ⟨h1, v, (hb.block b (Array.getElem?_eq_some_iff.1 h2).1).trans h2, ownsRow_kept h3 hb, h4⟩
theorem BAt.below {B b : Nat} {l : Str} {w w' : World} (h : BAt B b l w) (hb : Below w.heap.size w w') : BAt B b l w' := by
  rcases h with h | h
  · exact .inl (builderAt_below h hb)
  · exact .inr (builderAt_below h hb)
theorem bAt_new (w : World) : BAt w.heap.size w.heap.size [] (w.alloc (.cells #[.pointer none, .slice none 0 0] 82)) := by
  refine .inl ⟨Nat.le_refl _, .slice none 0 0, Go.Deep.blk_alloc_new w _, World.ownsRow_nil _ _ _ _, ?_⟩
  intro h; cases h
theorem writeS_calls (B b : Nat) (l : Str) (s : ByteArray) (w : World) (h : BAt B b l w) (hl : l.length + s.size ≤ 100000000000) (hB : B ≤ w.heap.size) :
    Calls Tryz.prog 46 #[.pointer (some ⟨b, 0, none⟩), .string s] w fun e w' => e = .returned (.tuple #[.int .i64 s.size, .nilIface]) ∧ BAt B b (l ++ s.data.toList) w' ∧ Below B w w' := by
  refine (Any.Builder_WriteString laysWS extraB B b (byteCells l) s w h (by rw [byteCells_length]; omega) hB).mono ?_
  rintro e w' ⟨rfl, h1, h2⟩
  refine ⟨rfl, .inr ?_, h2⟩
  rw [strCells_eq, ← byteCells_append] at h1
  exact h1
theorem stringB_calls (B b : Nat) (l : Str) (w : World) (h : BAt B b l w) (h0 : l ≠ []) :
    Calls Tryz.prog 47 #[.pointer (some ⟨b, 0, none⟩)] w fun e w' => e = .returned (.string ⟨l.toArray⟩) ∧ Below B w w' := Tryz.Builder_String B b l w h h0

theorem mlines_len_le (c : Nat) (w : Str) : ∀ l : List Md, (∀ m ∈ l, m.1.length ≤ c ∧ m.2.length ≤ c) → (mlines w l).length ≤ l.length * (w.length + 2 * c + 3)
  | [], _ => Nat.zero_le _
  | m :: r, h => by
    have ih := mlines_len_le c w r (fun x hx => h x (by simp [hx]))
    have hm := h m (by simp)
    have e : (mlines w (m :: r)).length = (w.length + m.1.length + m.2.length + 2) + 1 + (mlines w r).length := by rw [mlines_cons]; simp [mline]; omega
    have e2 : (m :: r).length * (w.length + 2 * c + 3) = r.length * (w.length + 2 * c + 3) + (w.length + 2 * c + 3) := by rw [List.length_cons, Nat.add_mul, Nat.one_mul]
    omega
theorem app_by (a b : ByteArray) : (a ++ b).data.toList = a.data.toList ++ b.data.toList := by rw [ByteArray.data_append, Array.toList_append]
theorem app_size (a b : ByteArray) : (a ++ b).size = a.size + b.size := ByteArray.size_append


set_option maxHeartbeats 600000 in
set_option maxRecDepth 100000 in
theorem fileText_calls (ks : List Nat) (A : Nat → Addr) (hks : FileKs ks) (path : ByteArray) (rv xv : Value) (reqs excl : List Md) (w : World) (hE : EnvP ks A w) (hr : ModsAt w rv reqs) (hx : ModsAt w xv excl) (hp : path.size ≤ 1000000) (hsr : Short reqs) (hsx : Short excl) :
    Calls Tryz.prog 12 #[.agg #[.string path, rv, xv]] w fun e w' => e = .returned (.string ⟨(fileText ⟨path.data.toList, reqs, excl⟩).toArray⟩) ∧ Below w.heap.size w w' := by
  have hck := fun W hW h1 h2 => fileCheck_calls ks A hks path rv xv reqs excl W hW h1 h2 hp hsr hsx
  obtain ⟨a, n, cap, P, V, rfl, rfl, hnc, hcap, hc⟩ := id hr
  obtain ⟨a2, m, cap2, Q, U, rfl, rfl, hmc, hcap2, hc2⟩ := id hx
  obtain ⟨hn, hPV⟩ := short_F hsr
  obtain ⟨hm, hQU⟩ := short_F hsx
  have hB := below_alloc w (.cells #[.string path, .slice a n cap, .slice a2 m cap2] 24)
  have hz := box3_alloc w (.string path) (.slice a n cap) (.slice a2 m cap2) 24
  replace hE := hE.below hB
  replace hr := hr.below hB
  replace hx := hx.below hB
  have HC1 := Lib.hid hc
  have HC2 := Lib.hid hc2
  have HP1 := Lib.hid hPV
  have HP2 := Lib.hid hQU
  replace hck := Lib.hid hck
  clear hc hc2 hPV hQU hsr hsx
  by_cases h0 : (fileErr ⟨path.data.toList, mdF n P V, mdF m Q U⟩).1 = 0
  · have HF : Hid (fileText ⟨path.data.toList, mdF n P V, mdF m Q U⟩ = fileTxt ⟨path.data.toList, mdF n P V, mdF m Q U⟩) := Lib.hid (if_pos h0)
    have hr20 := (right_of h0).reqs
    have hx20 := (right_of h0).excl
    simp only [mdF_length] at hr20 hx20
    have H0 := Lib.hid h0
    clear h0
    go_enter Tryz.func12, Tryz.ntmps12
    obtain ⟨z0, z1, z2⟩ := id hz
    go_wp2_with fail
    refine (hck.out _ hE hr hx).mono ?_
    rintro e w1 ⟨⟨v, rfl, hF⟩, hb⟩
    replace hB := below_step hB hb
    replace hz := hz.below hb
    clear hb
    obtain rfl : v = .nilIface := by
      rcases hF with h | h | h
      · exact h.2.2
      · exact absurd H0.out h.1
      · exact absurd H0.out h.1
    clear hF hE hr hx hck
    obtain ⟨z0, z1, z2⟩ := id hz
    have hba0 := bAt_new w1
    have hBw1 := hB
    have hBb := below_alloc w1 (.cells #[.pointer none, .slice none 0 0] 82)
    have hws := fun W (h : BAt w1.heap.size w1.heap.size [] W) (hB : w1.heap.size ≤ W.heap.size) => writeS_calls w1.heap.size w1.heap.size [] (⟨#[109, 111, 100, 117, 108, 101, 32]⟩ ++ path ++ ⟨#[10]⟩) W h (by rw [app_size, app_size]; show 0 + (7 + path.size + 1) ≤ _; omega) hB
    replace hws := Lib.hid hws
    obtain ⟨y0, y1, y2⟩ := hz.below hBb
    go_wp2_with fail
    refine (hws.out _ hba0 hBb.size).mono ?_
    rintro e w2 ⟨rfl, hba, hb2⟩
    have hB1 := hBb.trans hb2
    have hz2 := hz.below hB1
    clear hba0 hBb hb2 y0 y1 y2 z0 z1 z2 hws
    obtain ⟨pre, hpre⟩ : ∃ pre : Str, Hid (pre = modW ++ [32] ++ path.data.toList ++ [10]) := ⟨_, Lib.hid rfl⟩
    have hpe : [] ++ ((⟨#[109, 111, 100, 117, 108, 101, 32]⟩ : ByteArray) ++ path ++ ⟨#[10]⟩).data.toList = pre := by
      rw [app_by, app_by, hpre.out]; simp [modW]
    rw [hpe] at hba
    have hpl : pre.length ≤ 2000000 := by
      rw [hpre.out]; simp [modW]
      omega
    clear hpe
    obtain ⟨z0, z1, z2⟩ := id hz2
    go_wp2_with fail
    go_loopw [19] (fun i wr => ∃ k : Nat, k ≤ n ∧ i = .int .i64 k ∧ BAt w1.heap.size w1.heap.size (pre ++ mlines reqW ((mdF n P V).take k)) wr ∧ Below w1.heap.size w1 wr) (fun i _ => n - (intOf i).toNat)
    case atStart => exact ⟨0, Nat.zero_le _, rfl, by simpa [mlines_nil] using hba, hB1⟩
    case round =>
      obtain ⟨k, hk, rfl, hba, hB1⟩ := hrel
      have hB2 := hB1
      by_cases hlt : k < n
      · obtain ⟨b1, o1, rfl, c1, c2⟩ := HC1.out k hlt
        replace c1 := Below.cell_some hB2 (Below.cell_some hBw1 c1)
        replace c2 := Below.cell_some hB2 (Below.cell_some hBw1 c2)
        have hps := HP1.out k hlt
        have hml := mlines_len_le 1000000 reqW ((mdF n P V).take k) (fun m hm => by
          have hm' := List.mem_of_mem_take hm
          simp only [mdF, List.mem_map, List.mem_range] at hm'
          obtain ⟨j, hj, rfl⟩ := hm'
          have := HP1.out j hj
          rw [← size_eq, ← size_eq]
          exact this)
        rw [List.length_take, mdF_length, Nat.min_eq_left hk, show (reqW : Str).length = 7 from rfl] at hml
        have hmul := Nat.mul_le_mul_right (7 + 2 * 1000000 + 3) hk
        have hmul2 := Nat.mul_le_mul_right (7 + 2 * 1000000 + 3) hr20
        have hws := fun W (h : BAt w1.heap.size w1.heap.size (pre ++ mlines reqW ((mdF n P V).take k)) W) (hB : w1.heap.size ≤ W.heap.size) => writeS_calls w1.heap.size w1.heap.size _ (⟨#[114, 101, 113, 117, 105, 114, 101, 32]⟩ ++ P k ++ ⟨#[32]⟩ ++ V k ++ ⟨#[10]⟩) W h (by rw [app_size, app_size, app_size, app_size, List.length_append]; show _ + (8 + (P k).size + 1 + (V k).size + 1) ≤ _; omega) hB
        have htx : pre ++ mlines reqW ((mdF n P V).take k) ++ ((⟨#[114, 101, 113, 117, 105, 114, 101, 32]⟩ : ByteArray) ++ P k ++ ⟨#[32]⟩ ++ V k ++ ⟨#[10]⟩).data.toList = pre ++ mlines reqW ((mdF n P V).take (k + 1)) := by
          rw [mdF_take_succ _ _ _ k hlt, mlines_snoc, app_by, app_by, app_by, app_by]
          simp [mline, reqW]
        have HTX := Lib.hid htx
        have hBa := hB1.alloc (w := wr) (by have := hB1.size; omega) (.cells #[.string (P k), .string (V k)] 26)
        have hbaa := hba.below (below_alloc wr (.cells #[.string (P k), .string (V k)] 26))
        replace hws := Lib.hid hws
        clear htx hml hmul hmul2 hba
        go_wp2_with fail
        refine (hws.out _ hbaa (by have := hBa.size; omega)).mono ?_
        rintro e w3 ⟨rfl, hba, hb3⟩
        rw [HTX.out] at hba
        go_wp2_with fail
        go_roundw
        case rel => exact ⟨k + 1, by omega, by go_num, hba, hBa.trans hb3⟩
        case measure => simp [intOf]; omega
      · obtain rfl : k = n := by omega
        rw [List.take_of_length_le (by rw [mdF_length]; exact Nat.le_refl _)] at hba
        obtain ⟨pre2, hpre2⟩ : ∃ q : Str, Hid (q = pre ++ mlines reqW (mdF k P V)) := ⟨_, Lib.hid rfl⟩
        have hml := mlines_len_le 1000000 reqW (mdF k P V) (fun m hm => by
          simp only [mdF, List.mem_map, List.mem_range] at hm
          obtain ⟨j, hj, rfl⟩ := hm
          have := HP1.out j hj
          rw [← size_eq, ← size_eq]
          exact this)
        rw [mdF_length, show (reqW : Str).length = 7 from rfl] at hml
        have hmul2 := Nat.mul_le_mul_right (7 + 2 * 1000000 + 3) hr20
        have hpl2 : pre2.length ≤ 50000000 := by rw [hpre2.out, List.length_append]; omega
        rw [← hpre2.out] at hba
        clear hml hmul2 hlt
        obtain ⟨z0, z1, z2⟩ := hz.below hB1
        generalize wr = w2 at hba hB1 hB2 z0 z1 z2 ⊢
        go_wp2_with fail
        go_loopw [36] (fun i wr => ∃ k : Nat, k ≤ m ∧ i = .int .i64 k ∧ BAt w1.heap.size w1.heap.size (pre2 ++ mlines excW ((mdF m Q U).take k)) wr ∧ Below w1.heap.size w1 wr) (fun i _ => m - (intOf i).toNat)
        case atStart => exact ⟨0, Nat.zero_le _, rfl, by simpa [mlines_nil] using hba, hB1⟩
        case round =>
          obtain ⟨k, hk, rfl, hba, hB1⟩ := hrel
          have hB2 := hB1
          by_cases hlt : k < m
          · obtain ⟨b1, o1, rfl, c1, c2⟩ := HC2.out k hlt
            replace c1 := Below.cell_some hB2 (Below.cell_some hBw1 c1)
            replace c2 := Below.cell_some hB2 (Below.cell_some hBw1 c2)
            have hps := HP2.out k hlt
            have hml := mlines_len_le 1000000 excW ((mdF m Q U).take k) (fun m hm => by
              have hm' := List.mem_of_mem_take hm
              simp only [mdF, List.mem_map, List.mem_range] at hm'
              obtain ⟨j, hj, rfl⟩ := hm'
              have := HP2.out j hj
              rw [← size_eq, ← size_eq]
              exact this)
            rw [List.length_take, mdF_length, Nat.min_eq_left hk, show (excW : Str).length = 7 from rfl] at hml
            have hmul := Nat.mul_le_mul_right (7 + 2 * 1000000 + 3) hk
            have hmul2 := Nat.mul_le_mul_right (7 + 2 * 1000000 + 3) hx20
            have hws := fun W (h : BAt w1.heap.size w1.heap.size (pre2 ++ mlines excW ((mdF m Q U).take k)) W) (hB : w1.heap.size ≤ W.heap.size) => writeS_calls w1.heap.size w1.heap.size _ (⟨#[101, 120, 99, 108, 117, 100, 101, 32]⟩ ++ Q k ++ ⟨#[32]⟩ ++ U k ++ ⟨#[10]⟩) W h (by rw [app_size, app_size, app_size, app_size, List.length_append]; show _ + (8 + (Q k).size + 1 + (U k).size + 1) ≤ _; omega) hB
            have htx : pre2 ++ mlines excW ((mdF m Q U).take k) ++ ((⟨#[101, 120, 99, 108, 117, 100, 101, 32]⟩ : ByteArray) ++ Q k ++ ⟨#[32]⟩ ++ U k ++ ⟨#[10]⟩).data.toList = pre2 ++ mlines excW ((mdF m Q U).take (k + 1)) := by
              rw [mdF_take_succ _ _ _ k hlt, mlines_snoc, app_by, app_by, app_by, app_by]
              simp [mline, excW]
            have HTX := Lib.hid htx
            have hBa := hB1.alloc (w := wr) (by have := hB1.size; omega) (.cells #[.string (Q k), .string (U k)] 26)
            have hbaa := hba.below (below_alloc wr (.cells #[.string (Q k), .string (U k)] 26))
            replace hws := Lib.hid hws
            clear htx hml hmul hmul2 hba
            go_wp2_with fail
            refine (hws.out _ hbaa (by have := hBa.size; omega)).mono ?_
            rintro e w3 ⟨rfl, hba, hb3⟩
            rw [HTX.out] at hba
            go_wp2_with fail
            go_roundw
            case rel => exact ⟨k + 1, by omega, by go_num, hba, hBa.trans hb3⟩
            case measure => simp [intOf]; omega
          · obtain rfl : k = m := by omega
            rw [List.take_of_length_le (by rw [mdF_length]; exact Nat.le_refl _)] at hba
            have hne : pre2 ++ mlines excW (mdF k Q U) ≠ [] := by
              intro h
              have := congrArg List.length h
              rw [hpre2.out, hpre.out] at this
              simp [modW] at this
            have hst := stringB_calls w1.heap.size w1.heap.size _ wr hba hne
            have HT : Hid (fileText ⟨path.data.toList, _, _⟩ = pre2 ++ mlines excW (mdF k Q U)) := Lib.hid (by rw [HF.out, hpre2.out, hpre.out]; simp [fileTxt])
            replace hst := Lib.hid hst
            clear hba hne
            go_wp2_with fail
            refine hst.out.mono ?_
            rintro e w3 ⟨rfl, hb3⟩
            go_wp2_with fail
            go_ret
            rw [HT.out]
            exact ⟨rfl, below_step hBw1 (hB1.trans hb3)⟩
  · have HF : Hid (fileText ⟨path.data.toList, mdF n P V, mdF m Q U⟩ = []) := Lib.hid (if_neg h0)
    have H0 := Lib.hid h0
    clear h0
    go_enter Tryz.func12, Tryz.ntmps12
    obtain ⟨z0, z1, z2⟩ := id hz
    go_wp2_with fail
    refine (hck.out _ hE hr hx).mono ?_
    rintro e w1 ⟨⟨v, rfl, hF⟩, hb⟩
    replace hB := below_step hB hb
    replace hz := hz.below hb
    clear hb
    rcases hF with h | h | ⟨_, bb, rfl, c3, c4⟩
    · exact absurd h.1 H0.out
    · obtain ⟨h1, h2, rfl⟩ := h
      rw [errV_pos A h1]
      go_wp2_with fail
      go_ret
      rw [HF.out]
      exact ⟨rfl, hB⟩
    · clear c3 c4
      go_wp2_with fail
      go_ret
      rw [HF.out]
      exact ⟨rfl, hB⟩
end Go.Proofs.Pw
