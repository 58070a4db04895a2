/- mod.Ahead, R.IsAhead, R.ReadMod. Conditions: texts of at most 1000000000 bytes. -/
import Derived.Test.YtknaelbmcgiidaaGreatDoorRefP3
import Derived.Test.YtknaelbmcgiidaaGreatDoorModLaw
namespace Go.Proofs.Pw
open Go.RowKit
open Go.Lib hiding intOf

theorem ahead_eq (p v q u : ByteArray) : modAhead (p.data.toList, v.data.toList) (q.data.toList, u.data.toList) = (Op.bytesLess p.toList q.toList || (p.toList == q.toList && verLess v.data.toList u.data.toList)) := by
  rw [toList_data, toList_data, bytesLess_iff]
  unfold modAhead
  congr 2
  rw [Bool.eq_iff_iff]
  simp

set_option maxHeartbeats 1000000 in
theorem modAhead_calls (ks : List Nat) (A : Nat → Addr) (p v q u : ByteArray) (w : World) (hE : EnvP ks A w) (hv : v.size ≤ 1000000000) (hu : u.size ≤ 1000000000) :
    Calls Tryz.prog 32 #[.agg #[.string p, .string v], .agg #[.string q, .string u]] w fun e w' => e = .returned (.bool (modAhead (p.data.toList, v.data.toList) (q.data.toList, u.data.toList))) ∧ Below w.heap.size w w' := by
  have hm := ahead_eq p v q u
  have hl := fun W hW => verLess_calls ks A v u W hW hv hu
  have hb1 := below_alloc w (.cells #[.string p, .string v] 35)
  have hB := below_step hb1 (below_alloc _ (.cells #[.string q, .string u] 35))
  replace hE := hE.below hB
  generalize modAhead (p.data.toList, v.data.toList) (q.data.toList, u.data.toList) = R at hm ⊢
  generalize verLess v.data.toList u.data.toList = X at hl hm
  replace hm := Lib.hid hm
  replace hl := Lib.hid hl
  clear hb1
  cases h1 : Op.bytesLess p.toList q.toList with
  | true =>
    have HF : Hid (R = true) := Lib.hid (by rw [hm.out, h1]; rfl)
    go_enter Tryz.func32, Tryz.ntmps32
    go_wp2_with fail
    go_ret
    rw [HF.out]
    exact ⟨rfl, hB⟩
  | false =>
    cases h2 : (p.toList == q.toList) with
    | true =>
      have HF : Hid (R = X) := Lib.hid (by rw [hm.out, h1, h2]; simp)
      have h3 : p.toList = q.toList := beq_iff_eq.1 h2
      have h4 : p = q := by rw [toList_data, toList_data] at h3; exact bytes_ext.1 h3
      subst h4
      clear h2 h3
      go_enter Tryz.func32, Tryz.ntmps32
      go_wp2_with fail
      refine (hl.out _ hE).mono ?_
      rintro e w1 ⟨rfl, hb⟩
      replace hB := below_step hB hb
      clear hb
      go_wp2_with fail
      go_ret
      rw [HF.out]
      exact ⟨rfl, hB⟩
    | false =>
      have HF : Hid (R = false) := Lib.hid (by rw [hm.out, h1, h2]; rfl)
      have h3 : p.toList ≠ q.toList := beq_eq_false_iff_ne.1 h2
      have h4 : p ≠ q := fun e => h3 (by rw [e])
      go_enter Tryz.func32, Tryz.ntmps32
      go_wp2_with fail
      go_ret
      rw [HF.out]
      exact ⟨rfl, hB⟩

set_option maxHeartbeats 1000000 in
theorem isAhead_calls (p v q u : ByteArray) (w : World) (hv : v.size ≤ 1000000000) (hu : u.size ≤ 1000000000) :
    Calls Tryz.prog 27 #[.agg #[.string p, .string v], .agg #[.string q, .string u]] w fun e w' => e = .returned (.bool (modAhead (p.data.toList, v.data.toList) (q.data.toList, u.data.toList))) ∧ Below w.heap.size w w' := by
  have hm := ahead_eq p v q u
  have hl := fun W => isLess_calls v u W hv hu
  have hb1 := below_alloc w (.cells #[.string p, .string v] 35)
  have hB := below_step hb1 (below_alloc _ (.cells #[.string q, .string u] 35))
  generalize modAhead (p.data.toList, v.data.toList) (q.data.toList, u.data.toList) = R at hm ⊢
  generalize verLess v.data.toList u.data.toList = X at hl hm
  replace hm := Lib.hid hm
  replace hl := Lib.hid hl
  clear hb1
  cases h2 : (p.toList == q.toList) with
  | true =>
    have h3 : p.toList = q.toList := beq_iff_eq.1 h2
    have h4 : p = q := by rw [toList_data, toList_data] at h3; exact bytes_ext.1 h3
    subst h4
    have HF : Hid (R = X) := Lib.hid (by rw [hm.out, toList_data, bytesLess_iff, compareBytes_ord.self]; simp)
    clear h2 h3
    go_enter Tryz.func27, Tryz.ntmps27
    go_wp2_with fail
    refine (hl.out _).mono ?_
    rintro e w1 ⟨rfl, hb⟩
    replace hB := below_step hB hb
    clear hb
    go_wp2_with fail
    go_ret
    rw [HF.out]
    exact ⟨rfl, hB⟩
  | false =>
    have HF : Hid (R = Op.bytesLess p.toList q.toList) := Lib.hid (by rw [hm.out, h2]; simp)
    have h3 : p.toList ≠ q.toList := beq_eq_false_iff_ne.1 h2
    have h4 : p ≠ q := fun e => h3 (by rw [e])
    have h5 : (p.toList != q.toList) = true := bne_iff_ne.2 h3
    go_enter Tryz.func27, Tryz.ntmps27
    go_wp2_with fail
    go_ret
    rw [HF.out]
    exact ⟨rfl, hB⟩

theorem refCut_at (s : ByteArray) (w : World) (hs : s.size ≤ 1000000000) :
    Calls Tryz.prog 97 #[.string s, .int .u8 64] w fun e w' => (∃ v, e = .returned v ∧ StrsAt w' v (split s.data.toList [64]) ∧ NewRow w v) ∧ Below w.heap.size w w' := refCut_calls s 64 w hs

set_option maxHeartbeats 1000000 in
/-- R.ReadMod -/
theorem refReadMod_calls (s : ByteArray) (w : World) (hs : s.size ≤ 1000000000) :
    Calls Tryz.prog 34 #[.string s] w fun e w' => e = .returned (.tuple #[.agg #[.string ⟨(modRead s.data.toList).1.toArray⟩, .string ⟨(modRead s.data.toList).2.1.toArray⟩], .int .i64 ((modRead s.data.toList).2.2 : Nat)]) ∧ Below w.heap.size w w' := by
  generalize hR : modRead s.data.toList = R
  have hB := below_alloc w (.cells #[.string ⟨#[]⟩, .string ⟨#[]⟩] 35)
  have hz := box2_alloc w (.string ⟨#[]⟩) (.string ⟨#[]⟩) 35
  replace hR := Lib.hid hR
  go_enter Tryz.func34, Tryz.ntmps34
  go_wp2_with fail
  refine (refCut_at s _ hs).mono ?_
  rintro e w1 ⟨⟨v, rfl, hS, hN⟩, hb⟩
  replace hB := below_step hB hb
  replace hz := hz.below hb
  clear hb
  obtain ⟨a, n, cap, L, rfl, hl, hn, hcap, hc⟩ := hS
  have hLs := lstF_mem_le (by decide) hl.symm
  have hLs9 : ∀ j, j < n → (L j).size ≤ 1000000000 := fun j hj => Nat.le_trans (hLs j hj) (by rw [← size_eq]; exact hs)
  by_cases h2 : n = 2
  · subst h2
    have hR2 := modRead_two (hl.trans (lstF_two _))
    rw [hR.out] at hR2
    obtain ⟨b1, o1, rfl, c0⟩ := hc 0 (by decide)
    obtain ⟨b2, o2, e2, c1⟩ := hc 1 (by decide)
    obtain ⟨rfl, rfl⟩ : b1 = b2 ∧ o1 = o2 := by injection e2 with e3; injection e3 with e4 e5; exact ⟨e4, e5⟩
    simp only [Nat.add_zero] at c0
    have hge := hN ⟨b1, o1, none⟩ 2 cap rfl
    simp only [World.size_alloc] at hge
    have hlt : b1 < w1.heap.size := lt_of_cell c0
    have hn1 : b1 ≠ w1.heap.size := Nat.ne_of_lt hlt
    have hn2 : w1.heap.size ≠ b1 := hn1.symm
    have hL0 := hLs9 0 (by decide)
    have hL1 := hLs9 1 (by decide)
    have hww : w.heap.size ≠ w1.heap.size := by omega
    have hww' : w1.heap.size ≠ w.heap.size := hww.symm
    have hb := below_alloc w1 (.cells #[.string ⟨#[]⟩, .string ⟨#[]⟩] 35)
    have d0 := Below.cell_some hb c0
    have d1 := Below.cell_some hb c1
    clear hLs hLs9 hc hb hge hlt hN hl e2
    replace hR2 := Lib.hid hR2
    go_wp2_with fail
    go_region
    go_wp2_with fail
    have hb : Below w1.heap.size w1 (w1.alloc (.cells #[.string (L 0), .string (L 1)] 35)).drew := (below_alloc w1 _).drew
    have hy := (box2_alloc w1 (.string (L 0)) (.string (L 1)) 35).below (Below.drew (Below.refl _ _))
    clear d0 d1 c0 c1 hn1 hn2
    replace hB := below_step hB hb
    replace hz := hz.below hb
    clear hb
    generalize (w1.alloc (.cells #[.string (L 0), .string (L 1)] 35)).drew = wD at hz hy hB ⊢
    refine (refModErr_calls (L 0) (L 1) wD hL0 hL1).mono ?_
    rintro e w4 ⟨rfl, hb⟩
    replace hB := below_step hB hb
    replace hz := hz.below hb
    replace hy := hy.below hb
    clear hb
    obtain ⟨z0, z1, zf⟩ := hz
    obtain ⟨y0, y1, yf⟩ := hy
    have zf0 := zf 0
    have zf1 := zf 1
    clear zf yf
    by_cases hm : modErr (L 0).data.toList (L 1).data.toList = 0
    · have HF : Hid (R = ((L 0).data.toList, (L 1).data.toList, 0)) := Lib.hid (by rw [hR2.out, if_neg (by rw [hm]; simp)])
      rw [hm]
      go_wp2_with fail
      refine bodyPost_ret (v := .tuple #[.agg #[.string (L 0), .string (L 1)], .int .i64 0]) (by simp [results, Tryz.results34, go_sem, *]) rfl ?_
      rw [HF.out]
      exact ⟨rfl, ((hB.setCell (Nat.le_refl _) _).setCell (Nat.le_refl _) _)⟩
    · have HF : Hid (R = ([], [], modErr (L 0).data.toList (L 1).data.toList)) := Lib.hid (by rw [hR2.out, if_pos hm])
      generalize modErr (L 0).data.toList (L 1).data.toList = q at hm HF ⊢
      have hpos : (0 : Int) < (q : Int) := by omega
      clear hm
      go_wp2_with fail
      refine bodyPost_ret (v := .tuple #[.agg #[.string ⟨#[]⟩, .string ⟨#[]⟩], .int .i64 (q : Nat)]) (by simp [results, Tryz.results34, go_sem, *]) rfl ?_
      rw [HF.out]
      exact ⟨rfl, ((hB.setCell (Nat.le_refl _) _).setCell (Nat.le_refl _) _)⟩
  · have HF : Hid (R = ([], [], 1)) := Lib.hid (by rw [← hR.out]; apply modRead_form; rw [hl, lstF_length]; exact h2)
    have h2' : ((n : Int) == 2) = false := beq_eq_false_iff_ne.2 (by omega)
    have h2'' : ((n : Int) != 2) = true := bne_iff_ne.2 (by omega)
    obtain ⟨z0, z1, zf⟩ := hz
    have zf0 := zf 0
    have zf1 := zf 1
    clear h2 hl hLs hLs9 hc zf
    go_wp2_with fail
    refine bodyPost_ret (v := .tuple #[.agg #[.string ⟨#[]⟩, .string ⟨#[]⟩], .int .i64 1]) (by simp [results, Tryz.results34, go_sem, *]) rfl ?_
    rw [HF.out]
    exact ⟨rfl, ((hB.setCell (Nat.le_refl _) _).setCell (Nat.le_refl _) _)⟩
end Go.Proofs.Pw
