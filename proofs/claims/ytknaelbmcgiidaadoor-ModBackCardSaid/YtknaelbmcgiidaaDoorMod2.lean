/- The walks of package mod, part 3: Split, Check, Text, Read. -/
import Derived.Test.YtknaelbmcgiidaaDoorModPath
namespace Go.Proofs.Pw
open Go.RowKit
open Go.Lib hiding intOf

theorem modSplit_bad {s : Str} (h : pathErr s ≠ 0) : modSplit s = ([], 0) := by unfold modSplit; rw [if_pos h]
theorem modSplit_no {s : Str} (h : pathErr s = 0) (hl : lastIndex s [47] < 0) : modSplit s = (s, 0) := by unfold modSplit; rw [if_neg (by rw [h]; simp)]; simp only; rw [if_pos hl]
theorem modSplit_at {s : Str} (h : pathErr s = 0) {k : Nat} (hl : lastIndex s [47] = k) : modSplit s = if isSuf (s.drop (k + 1)) then (s.take k, sufNum (s.drop (k + 1))) else (s, 0) := by
  unfold modSplit; rw [if_neg (by rw [h]; simp)]; simp only; rw [if_neg (by omega), hl]; rfl

theorem lastOcc_lt (s sub : Str) : ∀ n, lastOcc s sub n < n := by
  intro n
  induction n with
  | zero => unfold lastOcc; omega
  | succ n ih => unfold lastOcc; split <;> omega
theorem lastIndex_lt (s : Str) (c : UInt8) : lastIndex s [c] < s.length := by
  unfold lastIndex
  split
  · rename_i h
    have := lastOcc_lt s [c] (s.length - [c].length + 1)
    simp only [List.length_cons, List.length_nil] at h this ⊢
    omega
  · omega

/-- mod.Split -/
theorem modSplit_calls (ks : List Nat) (A : Nat → Addr) (h4 : 4 ∈ ks) (s : ByteArray) (w : World) (hE : EnvP ks A w) (hs : s.size ≤ 1000000000) :
    Calls Tryd.prog 9 #[.string s] w fun e w' => e = .returned (.tuple #[.string ⟨(modSplit s.data.toList).1.toArray⟩, .int .i64 ((modSplit s.data.toList).2 : Nat)]) ∧ Below w.heap.size w w' := by
  by_cases hp : pathErr s.data.toList = 0
  · have hlt := lastIndex_lt s.data.toList 47
    have hL := Tryd.strings_LastIndex s ⟨#[47]⟩ (by omega)
    rw [show (⟨#[47]⟩ : ByteArray).data.toList = [47] from rfl] at hL
    by_cases hl : lastIndex s.data.toList [47] < 0
    · rw [modSplit_no hp hl]
      generalize lastIndex s.data.toList [47] = i at hl hL
      have HL := Lib.hid hL
      have HP := Lib.hid hp
      clear hlt hp hL
      go_enter Tryd.func9, Tryd.ntmps9
      go_wp2_with fail
      refine (path_calls ks A h4 s w hE hs).mono ?_
      rintro e w1 ⟨rfl, hb1⟩
      rw [HP.out, errV_zero]
      go_wp2_with fail
      refine (HL.out w1).mono ?_
      rintro e w2 ⟨rfl, rfl⟩
      go_wp2_with fail
      go_ret2
      exact ⟨rfl, hb1⟩
    · obtain ⟨k, hk⟩ : ∃ k : Nat, lastIndex s.data.toList [47] = k := ⟨(lastIndex s.data.toList [47]).toNat, by omega⟩
      have hm := modSplit_at hp hk
      have hks : k < s.size := by rw [size_eq]; omega
      rw [hk] at hL
      generalize modSplit s.data.toList = R at hm ⊢
      have HM := Lib.hid hm
      have HL := Lib.hid hL
      have HP := Lib.hid hp
      clear hlt hp hL hl hk hm
      go_enter Tryd.func9, Tryd.ntmps9
      go_wp2_with fail
      refine (path_calls ks A h4 s w hE hs).mono ?_
      rintro e w1 ⟨rfl, hb1⟩
      rw [HP.out, errV_zero]
      go_wp2_with fail
      refine (HL.out w1).mono ?_
      rintro e w2 ⟨rfl, rfl⟩
      have hsz : (s.extract (k + 1) s.size).size ≤ 4000000000 := by simp; omega
      have hE1 := hE.below hb1
      go_wp2_with fail
      refine (suffixWell_calls ks A _ _ hE1 hsz).mono ?_
      rintro e w3 ⟨⟨q, rfl, hq⟩, hb3⟩
      have hdr : (s.extract (k + 1) s.size).data.toList = s.data.toList.drop (k + 1) := extract_to_end s (k + 1)
      rw [hdr] at hq ⊢
      have hb13 := below_step hb1 hb3
      cases hi : isSuf (s.data.toList.drop (k + 1)) with
      | true =>
        have HQ := Lib.hid (hq hi)
        have HF : Hid (R = (s.data.toList.take k, sufNum (s.data.toList.drop (k + 1)))) := Lib.hid (by rw [HM.out, if_pos hi])
        clear hq hi hdr
        go_wp2_with fail
        go_ret2
        rw [HF.out, HQ.out]
        refine ⟨?_, hb13⟩
        have : s.extract 0 k = ⟨(s.data.toList.take k).toArray⟩ := by
          apply ByteArray.ext
          apply Array.ext'
          simp
        rw [this]
        rfl
      | false =>
        have HF : Hid (R = (s.data.toList, 0)) := Lib.hid (by rw [HM.out, if_neg (by rw [hi]; decide)])
        clear hq hi hdr
        go_wp2_with fail
        go_ret2
        rw [HF.out]
        exact ⟨rfl, hb13⟩
  · rw [modSplit_bad hp]
    have HP := Lib.hid hp
    clear hp
    go_enter Tryd.func9, Tryd.ntmps9
    go_wp2_with fail
    refine (path_calls ks A h4 s w hE hs).mono ?_
    rintro e w1 ⟨rfl, hb1⟩
    rw [errV_pos A HP.out]
    go_wp2_with fail
    go_ret2
    exact ⟨rfl, hb1⟩

theorem modErr_path {p v : Str} (h : pathErr p ≠ 0) : modErr p v = pathErr p := by unfold modErr; rw [if_pos h]
theorem modErr_ver {p v : Str} (h : pathErr p = 0) (h2 : verErr v ≠ 0) : modErr p v = verErr v := by unfold modErr; rw [if_neg (by rw [h]; simp), if_pos h2]
theorem modErr_major {p v : Str} (h : pathErr p = 0) (h2 : verErr v = 0) : modErr p v = if ((modSplit p).2 = 0 ∧ 1 < verNum v 0) ∨ (0 < (modSplit p).2 ∧ verNum v 0 ≠ (modSplit p).2) then 4 else 0 := by
  unfold modErr; rw [if_neg (by rw [h]; simp), if_neg (by rw [h2]; simp)]

/-- a box of two cells -/
structure Box2 (w : World) (b : Nat) (v0 v1 : Value) : Prop where
  c0 : w.cell? ⟨b, 0, none⟩ = some v0
  c1 : w.cell? ⟨b, 1, none⟩ = some v1
  fr : ∀ j, w.frozen? ⟨b, j, none⟩ = false
theorem Box2.below {w w' : World} {b : Nat} {v0 v1 : Value} (h : Box2 w b v0 v1) (hb : Below w.heap.size w w') : Box2 w' b v0 v1 :=
  ⟨Below.cell_some hb h.c0, Below.cell_some hb h.c1, fun j => (hb.frozen (p := ⟨b, j, none⟩) (show b < w.heap.size from lt_of_cell h.c0)).trans (h.fr j)⟩
theorem box2_alloc (w : World) (v0 v1 : Value) (t : TypeId) : Box2 (w.alloc (.cells #[v0, v1] t)) w.heap.size v0 v1 :=
  ⟨by simp, by simp, fun j => by simp⟩

set_option maxHeartbeats 1000000 in
/-- mod.Check -/
theorem modCheck_calls (ks : List Nat) (A : Nat → Addr) (h4 : 4 ∈ ks) (p v : ByteArray) (w : World) (hE : EnvP ks A w) (hp : p.size ≤ 1000000000) (hv : v.size ≤ 1000000000) :
    Calls Tryd.prog 7 #[.agg #[.string p, .string v]] w fun e w' => e = .returned (errV A (modErr p.data.toList v.data.toList)) ∧ Below w.heap.size w w' := by
  have hbA := below_alloc w (.cells #[.string p, .string v] 23)
  have hzA := box2_alloc w (.string p) (.string v) 23
  have hEA := hE.below hbA
  by_cases h1 : pathErr p.data.toList = 0
  · have H1 := Lib.hid h1
    by_cases h2 : verErr v.data.toList = 0
    · have hm := modErr_major h1 h2
      have H2 := Lib.hid h2
      have hmc : ((modSplit p.data.toList).2 = 0 ∧ 1 < verNum v.data.toList 0) ∨ ((modSplit p.data.toList).2 = 0 ∧ ¬ 1 < verNum v.data.toList 0) ∨ (0 < (modSplit p.data.toList).2 ∧ verNum v.data.toList 0 ≠ (modSplit p.data.toList).2) ∨ (0 < (modSplit p.data.toList).2 ∧ verNum v.data.toList 0 = (modSplit p.data.toList).2) := by omega
      generalize modErr p.data.toList v.data.toList = R at hm ⊢
      have HM := Lib.hid hm
      have HMC := Lib.hid hmc
      clear h1 h2 hm hmc
      go_enter Tryd.func7, Tryd.ntmps7
      go_wp2_with fail
      refine (path_calls ks A h4 p _ hEA hp).mono ?_
      rintro e w1 ⟨rfl, hb1⟩
      rw [H1.out, errV_zero]
      have hz1 := hzA.below hb1
      have c0 := hz1.c0
      have c1 := hz1.c1
      have hE1 := hEA.below hb1
      have hb01 := below_step hbA hb1
      go_wp2_with fail
      refine (verSplit_calls ks A v w1 hE1 hv).mono ?_
      rintro e w2 ⟨hb2, vv, rfl, a, n, cap, L, rfl, _, _, _, _⟩
      have hz2 := hz1.below hb2
      have hE2 := hE1.below hb2
      have hb02 := below_step hb01 hb2
      clear c0 c1
      have c0 := hz2.c0
      have c1 := hz2.c1
      rw [H2.out, errV_zero]
      have hbB := below_alloc w2 (.cells #[.int .i64 (verNum v.data.toList 0 : Nat), .int .i64 (verNum v.data.toList 1 : Nat), .int .i64 (verNum v.data.toList 2 : Nat), .slice a n cap] 39)
      have d0 := (hz2.below hbB).c0
      have d1 := (hz2.below hbB).c1
      have hE3 := hE2.below hbB
      have hb03 := below_step hb02 hbB
      have hz3 := box4_alloc w2 (.int .i64 (verNum v.data.toList 0 : Nat)) (.int .i64 (verNum v.data.toList 1 : Nat)) (.int .i64 (verNum v.data.toList 2 : Nat)) (.slice a n cap) 39
      go_wp2_with fail
      refine (modSplit_calls ks A h4 p _ hE3 hp).mono ?_
      rintro e w4 ⟨rfl, hb4⟩
      have z0 := (hz3.below hb4).c0
      have hb04 := below_step hb03 hb4
      have g4 := (hE3.below hb4).errs.var 4 h4
      simp only [errG] at g4
      clear c0 c1 d0 d1 hz3 hz2 hz1 hb1 hb2 hb01 hb02 hb03 hbB hE1 hE2 hE3 hb4
      generalize verNum v.data.toList 0 = mj at z0 HM HMC ⊢
      generalize (modSplit p.data.toList).2 = q at HM HMC ⊢
      rcases HMC.out with ⟨rfl, h⟩ | ⟨rfl, h⟩ | ⟨h, h'⟩ | ⟨h, rfl⟩
      · have HF : Hid (R = 4) := Lib.hid (by rw [HM.out, if_pos (.inl ⟨rfl, h⟩)])
        have hi : (1 : Int) < (mj : Int) := by omega
        have hi2 : decide ((1 : Int) < (mj : Int)) = true := decide_eq_true hi
        clear HM HMC h
        go_wp2_with fail
        go_ret
        rw [HF.out]
        exact ⟨rfl, hb04⟩
      · have HF : Hid (R = 0) := Lib.hid (by rw [HM.out, if_neg (by omega)])
        have hi : ¬ (1 : Int) < (mj : Int) := by omega
        clear HM HMC h
        go_wp2_with fail
        go_ret
        rw [HF.out]
        exact ⟨rfl, hb04⟩
      · have HF : Hid (R = 4) := Lib.hid (by rw [HM.out, if_pos (.inr ⟨h, h'⟩)])
        have hi : (0 : Int) < (q : Int) := by omega
        have hi0 : ((q : Int) == 0) = false := beq_eq_false_iff_ne.2 (by omega)
        have hi1 : ((mj : Int) == (q : Int)) = false := beq_eq_false_iff_ne.2 (by omega)
        clear HM HMC h h'
        go_wp2_with fail
        go_ret
        rw [HF.out]
        exact ⟨rfl, hb04⟩
      · have HF : Hid (R = 0) := Lib.hid (by rw [HM.out, if_neg (by omega)])
        have hi : (0 : Int) < (mj : Int) := by omega
        have hi0 : ((mj : Int) == 0) = false := beq_eq_false_iff_ne.2 (by omega)
        clear HM HMC h
        go_wp2_with fail
        go_ret
        rw [HF.out]
        exact ⟨rfl, hb04⟩
    · rw [modErr_ver h1 h2, errV_pos A h2]
      have H2 := Lib.hid h2
      clear h1 h2
      go_enter Tryd.func7, Tryd.ntmps7
      go_wp2_with fail
      refine (path_calls ks A h4 p _ hEA hp).mono ?_
      rintro e w1 ⟨rfl, hb1⟩
      rw [H1.out, errV_zero]
      have hz1 := hzA.below hb1
      have c0 := hz1.c0
      have c1 := hz1.c1
      have hE1 := hEA.below hb1
      have hb01 := below_step hbA hb1
      go_wp2_with fail
      refine (verSplit_calls ks A v w1 hE1 hv).mono ?_
      rintro e w2 ⟨hb2, vv, rfl, a, n, cap, L, rfl, _, _, _, _⟩
      have hb02 := below_step hb01 hb2
      rw [errV_pos A H2.out]
      go_wp2_with fail
      go_ret
      exact ⟨rfl, hb02.alloc hb02.size _⟩
  · rw [modErr_path h1, errV_pos A h1]
    have HP := Lib.hid h1
    clear h1
    go_enter Tryd.func7, Tryd.ntmps7
    go_wp2_with fail
    refine (path_calls ks A h4 p _ hEA hp).mono ?_
    rintro e w1 ⟨rfl, hb1⟩
    rw [errV_pos A HP.out]
    go_wp2_with fail
    go_ret
    exact ⟨rfl, below_step hbA hb1⟩

/-- mod.Text -/
theorem modText_calls (ks : List Nat) (A : Nat → Addr) (h4 : 4 ∈ ks) (p v : ByteArray) (w : World) (hE : EnvP ks A w) (hp : p.size ≤ 1000000000) (hv : v.size ≤ 1000000000) :
    Calls Tryd.prog 6 #[.agg #[.string p, .string v]] w fun e w' => e = .returned (.string ⟨(modText p.data.toList v.data.toList).toArray⟩) ∧ Below w.heap.size w w' := by
  have hbA := below_alloc w (.cells #[.string p, .string v] 23)
  have hzA := box2_alloc w (.string p) (.string v) 23
  have hEA := hE.below hbA
  have hm : modText p.data.toList v.data.toList = if modErr p.data.toList v.data.toList = 0 then p.data.toList ++ [64] ++ v.data.toList else [] := rfl
  generalize modText p.data.toList v.data.toList = R at hm ⊢
  have HM := Lib.hid hm
  clear hm
  go_enter Tryd.func6, Tryd.ntmps6
  go_wp2_with fail
  refine (modCheck_calls ks A h4 p v _ hEA hp hv).mono ?_
  rintro e w1 ⟨rfl, hb1⟩
  have hz1 := hzA.below hb1
  have c0 := hz1.c0
  have c1 := hz1.c1
  have hb01 := below_step hbA hb1
  by_cases h : modErr p.data.toList v.data.toList = 0
  · have HF : Hid (R = p.data.toList ++ [64] ++ v.data.toList) := Lib.hid (by rw [HM.out, if_pos h])
    rw [h, errV_zero]
    go_wp2_with fail
    go_ret
    rw [HF.out]
    refine ⟨?_, hb01⟩
    have : p ++ ⟨#[64]⟩ ++ v = ⟨(p.data.toList ++ [64] ++ v.data.toList).toArray⟩ := by
      apply ByteArray.ext
      apply Array.ext'
      simp
    rw [← this]
    rfl
  · have HF : Hid (R = []) := Lib.hid (by rw [HM.out, if_neg h])
    rw [errV_pos A h]
    go_wp2_with fail
    go_ret
    rw [HF.out]
    exact ⟨rfl, hb01⟩

theorem modRead_form {s : Str} (h : (split s [64]).length ≠ 2) : modRead s = ([], [], 1) := by unfold modRead; simp only; rw [if_pos h]
theorem modRead_two {s a b : Str} (h : split s [64] = [a, b]) : modRead s = if modErr a b ≠ 0 then ([], [], modErr a b) else (a, b, 0) := by
  unfold modRead; rw [h]; rfl
theorem lstF_two (L : Nat → ByteArray) : lstF 2 L = [(L 0).data.toList, (L 1).data.toList] := rfl

set_option maxHeartbeats 1000000 in
/-- mod.Read -/
theorem modRead_calls (ks : List Nat) (A : Nat → Addr) (h4 : 4 ∈ ks) (s : ByteArray) (w : World) (hE : EnvP ks A w) (hs : s.size ≤ 1000000000) :
    Calls Tryd.prog 5 #[.string s] w fun e w' => e = .returned (.tuple #[.agg #[.string ⟨(modRead s.data.toList).1.toArray⟩, .string ⟨(modRead s.data.toList).2.1.toArray⟩], errV A (modRead s.data.toList).2.2]) ∧ Below w.heap.size w w' := by
  generalize hR : modRead s.data.toList = R
  have HR := Lib.hid hR
  have hbA := below_alloc w (.cells #[.string ⟨#[]⟩, .string ⟨#[]⟩] 23)
  have hzA := box2_alloc w (.string ⟨#[]⟩) (.string ⟨#[]⟩) 23
  have hEA := hE.below hbA
  clear hR
  go_enter Tryd.func5, Tryd.ntmps5
  go_wp2_with fail
  refine (split_calls _ ⟨#[64]⟩ _ hEA.m (Nat.le_trans hs (by decide)) (by decide)).mono ?_
  rintro e w1 ⟨n, rfl, hn1, hn2, HL, hb1, hc1, hz1⟩
  have hLs := lstF_mem_le (by decide) HL.out
  have hE1 := hEA.below hb1
  have hb01 := below_step hbA hb1
  have hzB := hzA.below hb1
  have hn9 : n ≤ 1000000001 := Nat.le_trans hn2 (Nat.succ_le_succ hs)
  have hLs9 : ∀ j, j < n → (splitL s ⟨#[64]⟩ j).size ≤ 1000000000 := fun j hj => Nat.le_trans (hLs j hj) (by rw [← size_eq]; exact hs)
  by_cases h2 : n = 2
  · subst h2
    have hR2 := modRead_two (HL.out.symm.trans (lstF_two _))
    rw [HR.out] at hR2
    generalize splitL s ⟨#[64]⟩ = L at hc1 hLs9 hR2 ⊢
    have HR2 := Lib.hid hR2
    have hsz : (w.alloc (.cells #[.string ⟨#[]⟩, .string ⟨#[]⟩] 23)).heap.size = w.heap.size + 1 := by simp
    have c0 := hc1 0 (by decide)
    have c1 := hc1 1 (by decide)
    rw [hsz] at c0 c1
    have hlt : w.heap.size + 1 < w1.heap.size := lt_of_cell c0
    have hne1 : w1.heap.size ≠ w.heap.size + 1 := Nat.ne_of_gt hlt
    have hne2 : w.heap.size + 1 ≠ w1.heap.size := hne1.symm
    have hbC := below_alloc w1 (.cells #[.string ⟨#[]⟩, .string ⟨#[]⟩] 23)
    have d0 := Below.cell_some hbC c0
    have d1 := Below.cell_some hbC c1
    have hL0 := hLs9 0 (by decide)
    have hL1 := hLs9 1 (by decide)
    clear hR2 HL hLs hLs9 hc1
    go_wp2_with fail
    go_region
    go_wp2_with fail
    have hbD : Below w1.heap.size w1 (w1.alloc (.cells #[.string (L 0), .string (L 1)] 23)).drew := (below_alloc w1 _).drew
    have hzD := (box2_alloc w1 (.string (L 0)) (.string (L 1)) 23).below (Below.drew (Below.refl _ _))
    have hzW := hzB.below hbD
    have hED := hE1.below hbD
    have hb0D := below_step hb01 hbD
    have hww : w.heap.size ≠ w1.heap.size := by omega
    have hww' : w1.heap.size ≠ w.heap.size := hww.symm
    clear hbC d0 d1 c0 c1 hne1 hne2
    generalize (w1.alloc (.cells #[.string (L 0), .string (L 1)] 23)).drew = wD at hbD hzD hzW hED hb0D ⊢
    refine (modCheck_calls ks A h4 (L 0) (L 1) wD hED hL0 hL1).mono ?_
    rintro e w4 ⟨rfl, hb4⟩
    obtain ⟨z0, z1, zf⟩ := hzW.below hb4
    obtain ⟨y0, y1, yf⟩ := hzD.below hb4
    have hb04 := below_step hb0D hb4
    have zf0 := zf 0
    have zf1 := zf 1
    clear zf yf hzD hzW hzA hzB hb1 hz1 hb01 hbD hb0D hb4 hsz
    by_cases hm : modErr (L 0).data.toList (L 1).data.toList = 0
    · have HF : Hid (R = ((L 0).data.toList, (L 1).data.toList, 0)) := Lib.hid (by rw [HR2.out, if_neg (by rw [hm]; simp)])
      rw [hm, errV_zero]
      go_wp2_with fail
      refine bodyPost_ret (v := .tuple #[.agg #[.string (L 0), .string (L 1)], .nilIface]) (by simp [results, Tryd.results5, go_sem, *]) rfl ?_
      rw [HF.out]
      exact ⟨rfl, ((hb04.setCell (Nat.le_refl _) _).setCell (Nat.le_refl _) _)⟩
    · have HF : Hid (R = ([], [], modErr (L 0).data.toList (L 1).data.toList)) := Lib.hid (by rw [HR2.out, if_pos hm])
      have HM := Lib.hid hm
      rw [errV_pos A hm]
      clear hm
      go_wp2_with fail
      refine bodyPost_ret (v := .tuple #[.agg #[.string ⟨#[]⟩, .string ⟨#[]⟩], .iface 110 (.pointer (some (A (modErr (L 0).data.toList (L 1).data.toList))))]) (by simp [results, Tryd.results5, go_sem, *]) rfl ?_
      rw [HF.out, errV_pos A HM.out]
      exact ⟨rfl, ((hb04.setCell (Nat.le_refl _) _).setCell (Nat.le_refl _) _)⟩
  · have HF : Hid (R = ([], [], 1)) := Lib.hid (by rw [← HR.out]; apply modRead_form; rw [show ([64] : Str) = (⟨#[64]⟩ : ByteArray).data.toList from rfl, ← HL.out, lstF_length]; exact h2)
    have h2' : ((n : Int) == 2) = false := beq_eq_false_iff_ne.2 (by omega)
    clear h2 HL hLs hLs9 hc1
    go_wp2_with fail
    obtain ⟨z0, z1, zf⟩ := hzB
    have zf0 := zf 0
    have zf1 := zf 1
    have g0 := hE.errs.var 1 hE.has.1
    have g1 := hE1.errs.var 1 hE.has.1
    simp only [errG] at g0 g1
    have hne : 0 ≠ w.heap.size := Nat.ne_of_lt (lt_of_cell g0)
    have hne' : w.heap.size ≠ 0 := hne.symm
    clear zf g0
    go_region
    go_wp2_with fail
    refine bodyPost_ret (v := .tuple #[.agg #[.string ⟨#[]⟩, .string ⟨#[]⟩], .iface 110 (.pointer (some (A 1)))]) (by simp [results, Tryd.results5, go_sem, *]) rfl ?_
    rw [HF.out]
    exact ⟨rfl, ((hb01.setCell (Nat.le_refl _) _).setCell (Nat.le_refl _) _).drew⟩

end Go.Proofs.Pw
