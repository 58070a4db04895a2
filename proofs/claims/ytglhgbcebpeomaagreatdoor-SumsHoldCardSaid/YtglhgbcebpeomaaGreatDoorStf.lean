/- St: walks and plain laws, joined: RefV2. Conditions: at each theorem. -/
import Derived.Test.YtglhgbcebpeomaaGreatDoorSte
import Derived.Deep.CutRange
import Derived.Deep.CutBlock

namespace Go.Proofs.Pw
open Go.RowKit
open Go.Lib hiding intOf
theorem partErr_bad {s : ByteArray} {k : Nat} (h : k < s.size) (hb : isPartByte s[k] = false) : partErr s.data.toList = 1 := by
  apply partErr_text
  refine .inr (.inr ?_)
  rw [Bool.eq_false_iff]
  intro e
  have := List.all_eq_true.1 e _ (byte_mem s k h)
  rw [hb] at this
  cases this
theorem partErr_good {s : ByteArray} (h1 : 1 ≤ s.size) (h8 : s.size ≤ 8) (ha : (s.data.toList.take s.size).all isPartByte = true) : partErr s.data.toList = if areDigits s.data.toList then (numberOf s.data.toList).2 else 0 := by
  rw [take_size] at ha
  unfold partErr
  rw [if_neg]
  rintro (h | h | h)
  · rw [size_eq, h] at h1; simp at h1
  · rw [← size_eq] at h; omega
  · rw [ha] at h; cases h
theorem partErr_size {s : ByteArray} (h : s.size < 1 ∨ 8 < s.size) : partErr s.data.toList = 1 := by
  apply partErr_text
  rcases h with h | h
  · refine .inl (List.length_eq_zero_iff.1 (by rw [← size_eq]; omega))
  · exact .inr (.inl (by rw [← size_eq]; exact h))
theorem isPartByte_iff (c : UInt8) : isPartByte c = true ↔ (97 ≤ (c.toNat : Int) ∧ (c.toNat : Int) ≤ 122) ∨ (65 ≤ (c.toNat : Int) ∧ (c.toNat : Int) ≤ 90) ∨ (48 ≤ (c.toNat : Int) ∧ (c.toNat : Int) ≤ 57) ∨ (c.toNat : Int) = 45 := by
  unfold isPartByte isDig isLetter
  have e : (c == 45) = decide (c.toNat = 45) := by
    rw [Bool.eq_iff_iff, beq_iff_eq, decide_eq_true_eq]
    constructor
    · rintro rfl; rfl
    · intro h; exact UInt8.toNat_inj.1 (by rw [h]; rfl)
  rw [e]
  simp only [Bool.or_eq_true, decide_eq_true_eq]
  omega
def CellsOver (w : World) (B : Nat) (a : Option Addr) (n : Nat) (P : Nat → ByteArray) : Prop := ∀ j, j < n → ∃ b o, a = some ⟨b, o, none⟩ ∧ B < b ∧ w.cell? ⟨b, o + j, none⟩ = some (.string (P j))
theorem CellsOver.set {w : World} {B B' n : Nat} {a : Option Addr} {P : Nat → ByteArray} (h : CellsOver w B a n P) (hB : B' ≤ B) (i : Nat) (u : Value) : CellsOver (w.setCell ⟨B', i, none⟩ u) B a n P := by
  intro j hj
  obtain ⟨b, o, rfl, h1, h2⟩ := h j hj
  refine ⟨b, o, rfl, h1, ?_⟩
  rw [World.cell?_setCell_other _ _ _ _ (by intro e; injection e with e1 _ _; omega)]
  exact h2
theorem CellsOver.strs {w : World} {B n cap : Nat} {a : Option Addr} {P : Nat → ByteArray} (h : CellsOver w B a n P) (hn : n ≤ cap) (hc : cap ≤ 9223372036854775807) : StrsAt w (.slice a n cap) (lstF n P) :=
  ⟨a, n, cap, P, rfl, rfl, hn, hc, fun j hj => let ⟨b, o, e, _, h2⟩ := h j hj; ⟨b, o, e, h2⟩⟩
theorem cutAt_len (c : UInt8) : ∀ (l acc : Str), (cutAt c acc l).length ≤ l.length + 1
  | [], acc => by simp [cutAt]
  | b :: l, acc => by
    rw [cutAt]
    split
    · have := cutAt_len c l []
      simp only [List.length_cons]; omega
    · have := cutAt_len c l (acc ++ [b])
      simp only [List.length_cons]; omega
theorem split_len (c : UInt8) (s : Str) : (split s [c]).length ≤ s.length + 1 := by rw [split_eq]; exact cutAt_len c s []
theorem extract_size_le (s : ByteArray) (a b : Nat) : (s.extract a b).size ≤ s.size := by rw [ByteArray.size_extract]; omega
theorem refCut_dot (s : ByteArray) (w : World) (hs : s.size ≤ 1000000000) :
    Calls Tryz.prog 70 #[.string s, .int .u8 46] w fun e w' => (∃ v, e = .returned v ∧ StrsAt w' v (split s.data.toList [46]) ∧ NewRow w v) ∧ Below w.heap.size w w' := refCut_calls s 46 w hs
theorem byte_ne_int {b c : UInt8} {n : Int} (hn : n = c.toNat) (h : b ≠ c) : ((b.toNat : Int) == n) = false :=
  beq_eq_false_iff_ne.2 fun e => h (UInt8.toNat_inj.1 (by rw [hn] at e; exact_mod_cast e))
theorem byte_classes (c : Int) :
    ((97 ≤ c ∧ c ≤ 122 ∧ 65 ≤ c ∧ ¬ c ≤ 90 ∧ 48 ≤ c ∧ ¬ c ≤ 57) ∨ (¬ 97 ≤ c ∧ c ≤ 122 ∧ 65 ≤ c ∧ c ≤ 90 ∧ 48 ≤ c ∧ ¬ c ≤ 57) ∨ (¬ 97 ≤ c ∧ c ≤ 122 ∧ ¬ 65 ≤ c ∧ c ≤ 90 ∧ 48 ≤ c ∧ c ≤ 57) ∨ c = 45) ∨
    ((c == 45) = false ∧ ¬ ((97 ≤ c ∧ c ≤ 122) ∨ (65 ≤ c ∧ c ≤ 90) ∨ (48 ≤ c ∧ c ≤ 57)) ∧
      ((¬ 97 ≤ c ∧ c ≤ 122 ∧ ¬ 65 ≤ c ∧ c ≤ 90 ∧ ¬ 48 ≤ c ∧ c ≤ 57) ∨ (¬ 97 ≤ c ∧ c ≤ 122 ∧ ¬ 65 ≤ c ∧ c ≤ 90 ∧ 48 ≤ c ∧ ¬ c ≤ 57) ∨ (¬ 97 ≤ c ∧ c ≤ 122 ∧ 65 ≤ c ∧ ¬ c ≤ 90 ∧ 48 ≤ c ∧ ¬ c ≤ 57) ∨ (97 ≤ c ∧ ¬ c ≤ 122 ∧ 65 ≤ c ∧ ¬ c ≤ 90 ∧ 48 ≤ c ∧ ¬ c ≤ 57))) := by
  have e : (c == 45) = false ↔ c ≠ 45 := by rw [beq_eq_false_iff_ne]
  rw [e]
  omega
theorem drop1_cut (s : ByteArray) (k : Nat) (hk : k < s.size) (h1 : 1 ≤ k) (h45 : s[k] = 45) (hno : (45 : UInt8) ∉ (s.data.toList.take k).drop 1) :
    cut (s.data.toList.drop 1) [45] = ((s.extract 1 k).data.toList, (s.extract (k + 1) s.size).data.toList, true) := by
  have e : s.data.toList.drop 1 = (s.data.toList.take k).drop 1 ++ 45 :: s.data.toList.drop (k + 1) := by
    conv => lhs; rw [← List.take_append_drop k s.data.toList]
    rw [List.drop_append_of_le_length (by rw [List.length_take, ← size_eq]; omega), drop_cons s k hk, h45]
  rw [e, cut_at hno, extract_take_drop s 1 k (by omega), extract_to_end]
theorem drop1_none (s : ByteArray) (hno : (45 : UInt8) ∉ (s.data.toList.take s.size).drop 1) :
    cut (s.data.toList.drop 1) [45] = ((s.extract 1 s.size).data.toList, (⟨#[]⟩ : ByteArray).data.toList, false) := by
  rw [take_size] at hno
  rw [cut_no hno, extract_to_end]
theorem take_drop1_snoc (s : ByteArray) (k : Nat) (h : k < s.size) (c : UInt8) (h0 : k = 0 ∨ s[k] ≠ c) (hno : c ∉ (s.data.toList.take k).drop 1) : c ∉ (s.data.toList.take (k + 1)).drop 1 := by
  rw [take_snoc s k h]
  rcases Nat.eq_zero_or_pos k with rfl | hk
  · simp
  · rw [List.drop_append_of_le_length (by rw [List.length_take, ← size_eq]; omega)]
    simp only [List.mem_append, List.mem_singleton, not_or]
    exact ⟨hno, fun e => (h0.resolve_left (by omega)) e.symm⟩
set_option maxHeartbeats 2000000 in
set_option maxRecDepth 100000 in
theorem refVerOf_v (s : ByteArray) (w : World) (hs : s.size ≤ 1000000000) (hp : hasPrefix s.data.toList [118] = true) :
    Calls Tryz.prog 130 #[.string s] w fun e w' => (∃ v, e = .returned (.tuple #[.agg #[.int .i64 (verNum s.data.toList 0 : Nat), .int .i64 (verNum s.data.toList 1 : Nat), .int .i64 (verNum s.data.toList 2 : Nat), v], .int .i64 (verErr s.data.toList : Nat)]) ∧ StrsAt w' v (verPre s.data.toList)) ∧ Below w.heap.size w w' := by
  have hbA := below_alloc w (.cells #[.int .i64 0, .int .i64 0, .int .i64 0, .slice none 0 0] 186)
  have hzA := box4_alloc w (.int .i64 0) (.int .i64 0) (.int .i64 0) (.slice none 0 0) 186
  have h1 : 1 ≤ s.size := by
    rcases Nat.eq_zero_or_pos s.size with h | h
    · have : s.data.toList = [] := List.length_eq_zero_iff.1 (by rw [← size_eq]; exact h)
      rw [this] at hp; cases hp
    · exact h
  have h118 : (s[0].toNat : Int) = 118 := by
    rw [hasPrefix_byte s h1] at hp
    have : s[0] = 118 := of_decide_eq_true hp
    rw [this]; rfl
  have ht := trimPrefix_byte s hp
  have HP := Lib.hid hp
  have HT := Lib.hid ht
  have HW : Hid (verWords s.data.toList = split (cut (s.data.toList.drop 1) [45]).1 [46]) := Lib.hid (by unfold verWords; rw [ht])
  have HR : Hid (verPres s.data.toList = if (cut (s.data.toList.drop 1) [45]).2.2 then split (cut (s.data.toList.drop 1) [45]).2.1 [46] else []) := Lib.hid (by unfold verPres; rw [ht])
  clear hp ht
  have h00 : ((s.size : Int) == 0) = false := beq_eq_false_iff_ne.2 (by omega)
  go_enter Tryz.func130, Tryz.ntmps130
  go_upto_block 0 with fail
  generalize hwA : w.alloc (.cells #[.int .i64 0, .int .i64 0, .int .i64 0, .slice none 0 0] 186) = wA at hbA hzA ⊢
  clear hwA
  go_cut [4, 5, 6, 7] from 33 to 53 (fun h p b _ wx => ∃ (H R : ByteArray) (B : Bool), h = .string H ∧ p = .string R ∧ b = .bool B ∧ wx = wA ∧ H.size ≤ s.size ∧ R.size ≤ s.size ∧ Hid (cut (s.data.toList.drop 1) [45] = (H.data.toList, R.data.toList, B)))
  case first =>
    go_wp2_with fail
    go_loop [4, 5, 6, 7] (fun h p b i => ∃ (k : Nat) (H R : ByteArray) (B : Bool), k ≤ s.size ∧ i = .int .i64 k ∧ h = .string H ∧ p = .string R ∧ b = .bool B ∧ H.size ≤ s.size ∧ R.size ≤ s.size ∧
        Hid (if B = true then cut (s.data.toList.drop 1) [45] = (H.data.toList, R.data.toList, true) else (H = s.extract 1 s.size ∧ R = ⟨#[]⟩ ∧ (45 : UInt8) ∉ (s.data.toList.take k).drop 1))) (fun _ _ _ i => s.size - (intOf i).toNat)
    case atStart => exact ⟨0, s.extract 1 s.size, ⟨#[]⟩, false, Nat.zero_le _, rfl, rfl, rfl, rfl, extract_size_le s _ _, Nat.zero_le _, Lib.hid ⟨rfl, rfl, by simp⟩⟩
    case round =>
      obtain ⟨k, H, R, B, hk, rfl, rfl, rfl, rfl, hH, hR, HC⟩ := hrel
      cases B with
      | true =>
        have HC2 : Hid (cut (s.data.toList.drop 1) [45] = (H.data.toList, R.data.toList, true)) := HC
        clear HC
        by_cases hlt : k < s.size
        all_goals
          go_wp2_with fail
          go_meet
          exact ⟨H, R, true, rfl, rfl, rfl, rfl, hH, hR, HC2⟩
      | false =>
        obtain ⟨rfl, rfl, hno⟩ : H = s.extract 1 s.size ∧ R = ⟨#[]⟩ ∧ (45 : UInt8) ∉ (s.data.toList.take k).drop 1 := HC.out
        have HN := Lib.hid hno
        clear HC hno
        by_cases hlt : k < s.size
        · by_cases h45 : s[k] = 45
          · have hk1 : 1 ≤ k := by
              rcases Nat.eq_zero_or_pos k with rfl | h
              · rw [h45] at h118; exact absurd h118 (by decide)
              · exact h
            have h45' : (s[k].toNat : Int) = 45 := by rw [h45]; rfl
            have HX := Lib.hid (drop1_cut s k hlt hk1 h45 HN.out)
            clear h45
            go_wp2_with fail
            go_round
            case rel => exact ⟨k + 1, s.extract 1 k, s.extract (k + 1) s.size, true, by omega, by go_num, rfl, rfl, rfl, extract_size_le s _ _, extract_size_le s _ _, HX⟩
            case measure => simp [intOf]; omega
          · have h45' : ((s[k].toNat : Int) == 45) = false := byte_ne_int (c := 45) rfl h45
            have HX := Lib.hid (take_drop1_snoc s k hlt 45 (.inr h45) HN.out)
            clear h45
            go_wp2_with fail
            go_round
            case rel => exact ⟨k + 1, _, _, false, by omega, by go_num, rfl, rfl, rfl, hH, hR, Lib.hid ⟨rfl, rfl, HX.out⟩⟩
            case measure => simp [intOf]; omega
        · obtain rfl : k = s.size := by omega
          have HX := Lib.hid (drop1_none s HN.out)
          go_wp2_with fail
          go_meet
          exact ⟨_, _, false, rfl, rfl, rfl, rfl, hH, hR, HX⟩
  case rest =>
    obtain ⟨H, R, B, rfl, rfl, rfl, rfl, hH, hR, HC⟩ := hcut
    have HW2 : Hid (verWords s.data.toList = split H.data.toList [46]) := Lib.hid (by rw [HW.out, HC.out])
    have HR2 : Hid (verPres s.data.toList = if B = true then split R.data.toList [46] else []) := Lib.hid (by rw [HR.out, HC.out])
    have hH9 := Nat.le_trans hH hs
    have hR9 := Nat.le_trans hR hs
    clear HW HR HC hH hR
    go_wp2_with fail
    refine (refCut_dot H wc hH9).mono ?_
    rintro e w1 ⟨⟨v, rfl, hS, hNew⟩, hb1⟩
    obtain ⟨a, n, cap, L, rfl, hl, hn, hcap, hc⟩ := hS
    have hz1 := hzA.below hb1
    have hb01 := below_step hbA hb1
    have hnl : (verWords s.data.toList).length = n := by rw [HW2.out, hl, lstF_length]
    have hLs := lstF_mem_le (by decide) hl.symm
    have hH9' : H.data.toList.length ≤ 1000000000 := by rw [← size_eq]; exact hH9
    have HL : Hid (lstF n L = verWords s.data.toList) := Lib.hid (by rw [HW2.out, hl])
    have HC := Lib.hid hc
    have hLs9 : ∀ j, j < n → (L j).size ≤ 4000000000 := fun j hj => Nat.le_trans (hLs j hj) (by omega)
    have HN := Lib.hid hnl
    obtain ⟨z0, z1, z2, z3, zf⟩ := id hz1
    have zf0 := zf 0
    have zf1 := zf 1
    have zf2 := zf 2
    have zf3 := zf 3
    clear zf HW2 hl hc hLs hH9' hnl hH9 hNew hzA
    by_cases h3 : n = 3
    case neg =>
      have HF : Hid (verErr s.data.toList = 1) := Lib.hid (by unfold verErr; rw [if_pos (.inr (by rw [HN.out]; exact h3))])
      have h3' : ((n : Int) == 3) = false := beq_eq_false_iff_ne.2 (by omega)
      clear h3
      go_wp2_with fail
      refine bodyPost_ret (v := .tuple #[.agg #[.int .i64 0, .int .i64 0, .int .i64 0, .slice none 0 0], .int .i64 1]) (by simp [results, Tryz.results130, go_sem, *]) rfl ?_
      have hne : verErr s.data.toList ≠ 0 := by rw [HF.out]; decide
      rw [verNum_bad hne, verNum_bad hne, verNum_bad hne, verPre_bad hne, HF.out]
      exact ⟨⟨_, rfl, StrsAt.nil _⟩, (((hb01.setCell (Nat.le_refl _) _).setCell (Nat.le_refl _) _).setCell (Nat.le_refl _) _).setCell (Nat.le_refl _) _⟩
    case pos =>
      subst h3
      clear z0 z1 z2 z3 zf0 zf1 zf2 zf3
      have hVE : Hid (verErr s.data.toList = verErrs s.data.toList) := Lib.hid (verErr_is HP.out HN.out)
      go_upto_block 2 with fail
      have hbB := below_alloc w1 (.cells #[.int .i64 0, .int .i64 0, .int .i64 0, .slice none 0 0] 186)
      have hNB := nbox_alloc w1 186 L
      have hBs : w1.heap.size < (w1.alloc (.cells #[.int .i64 0, .int .i64 0, .int .i64 0, .slice none 0 0] 186)).heap.size := by simp
      have hwz : w.heap.size < w1.heap.size := lt_of_cell hz1.c0
      go_cut [10, 11, 12, 13] from 61 to 84 (fun b _ _ _ wx => ∃ B' : Bool, b = .bool B' ∧ Below w1.heap.size w1 wx ∧ NBox wx w1.heap.size L 3 (.slice none 0 0) ∧ Hid (numErrs (verWords s.data.toList) 0 = bndN B'))
      case first =>
        go_wp2_with fail
        go_loopw [10, 11, 12, 13] (fun b i _ _ wr => ∃ (k : Nat) (B' : Bool), k ≤ 3 ∧ i = .int .i64 k ∧ b = .bool B' ∧ Below w1.heap.size w1 wr ∧ NBox wr w1.heap.size L k (.slice none 0 0) ∧ Hid (numErrs ((lstF 3 L).take k) 0 = bndN B')) (fun _ i _ _ _ => 3 - (intOf i).toNat)
        case atStart => exact ⟨0, false, by omega, rfl, rfl, hbB, hNB, Lib.hid rfl⟩
        case round =>
          obtain ⟨k, B', hk, rfl, rfl, hbr, hN⟩ := hrel
          obtain ⟨hN, HB⟩ := hN
          by_cases hlt : k < 3
          · obtain ⟨b1, o1, rfl, hck⟩ := HC.out k hlt
            replace hck := Below.cell_some hbr hck
            have hzr := hz1.below hbr
            obtain ⟨z0, z1, z2, z3, zf⟩ := id hzr
            have zf0 := zf 0
            have zf1 := zf 1
            have zf2 := zf 2
            have zf3 := zf 3
            have hn1 := hN.c k hlt
            have hn2 := hN.fr k
            have hcall := refNumber_calls (L k) wr (hLs9 k hlt)
            have hle := (numberOf_le (L k).data.toList).2
            have hmem : (L k).data.toList ∈ verWords s.data.toList := by rw [← HL.out]; exact List.mem_of_getElem? (lstF_get 3 L k hlt)
            have hsn := numErrs_snoc ((lstF 3 L).take k) (L k).data.toList 0
            rw [← lstF_take_succ 3 L k hlt] at hsn
            have hstp := hN.step hlt
            by_cases he1 : (numberOf (L k).data.toList).2 = 1
            · have HF : Hid (verErr s.data.toList = 1) := Lib.hid (by rw [hVE.out]; exact verErrs_num hmem he1)
              rw [he1] at hcall
              generalize (numberOf (L k).data.toList).1 = nk at hcall
              clear hsn hle he1 zf hmem hstp hn1 hn2 hzr
              go_wp2_with fail
              refine hcall.mono ?_
              rintro e w5 ⟨rfl, hw5⟩
              subst hw5
              clear hcall
              go_wp2_with fail
              refine bodyPost_ret (v := .tuple #[.agg #[.int .i64 0, .int .i64 0, .int .i64 0, .slice none 0 0], .int .i64 1]) (by simp [results, Tryz.results130, go_sem, *]) rfl ?_
              have hne : verErr s.data.toList ≠ 0 := by rw [HF.out]; decide
              rw [verNum_bad hne, verNum_bad hne, verNum_bad hne, verPre_bad hne, HF.out]
              exact ⟨⟨_, rfl, StrsAt.nil _⟩, ((((below_step hb01 hbr).setCell (Nat.le_refl _) _).setCell (Nat.le_refl _) _).setCell (Nat.le_refl _) _).setCell (Nat.le_refl _) _⟩
            · have HS : Hid (numErrs ((lstF 3 L).take (k + 1)) 0 = bndN (B' || decide (0 < (numberOf (L k).data.toList).2))) := Lib.hid (by rw [hsn, HB.out, bndN_step B' he1 hle])
              have he1' : (((numberOf (L k).data.toList).2 : Int) == 1) = false := beq_eq_false_iff_ne.2 (by omega)
              have hbst : Below w1.heap.size w1 (wr.setCell ⟨w1.heap.size, k, none⟩ (.int .i64 ((numberOf (L k).data.toList).1 : Nat))) := hbr.setCell (Nat.le_refl _) _
              generalize (numberOf (L k).data.toList).2 = ek at hcall he1' HS
              generalize (numberOf (L k).data.toList).1 = nk at hcall hstp hbst
              clear hsn hle he1 zf hmem z0 z1 z2 z3 zf0 zf1 zf2 zf3 hzr
              cases B' with
              | true =>
                go_wp2_with fail
                refine hcall.mono ?_
                rintro e w5 ⟨rfl, hw5⟩
                subst hw5
                clear hcall
                go_wp2_with fail
                go_roundw
                case rel => exact ⟨k + 1, true, by omega, by go_num, rfl, hbst, hstp, HS⟩
                case measure => simp [intOf]; omega
              | false =>
                by_cases h0 : 0 < ek
                · have HS2 : Hid (numErrs ((lstF 3 L).take (k + 1)) 0 = bndN true) := Lib.hid (by rw [HS.out, decide_eq_true h0]; rfl)
                  clear HS
                  have h0' : (0 : Int) < (ek : Int) := by omega
                  go_wp2_with fail
                  refine hcall.mono ?_
                  rintro e w5 ⟨rfl, hw5⟩
                  subst hw5
                  clear hcall
                  go_wp2_with fail
                  go_roundw
                  case rel => exact ⟨k + 1, true, by omega, by go_num, rfl, hbst, hstp, HS2⟩
                  case measure => simp [intOf]; omega
                · have HS2 : Hid (numErrs ((lstF 3 L).take (k + 1)) 0 = bndN false) := Lib.hid (by rw [HS.out, decide_eq_false h0]; rfl)
                  clear HS
                  obtain rfl : ek = 0 := by omega
                  go_wp2_with fail
                  refine hcall.mono ?_
                  rintro e w5 ⟨rfl, hw5⟩
                  subst hw5
                  clear hcall
                  go_wp2_with fail
                  go_roundw
                  case rel => exact ⟨k + 1, false, by omega, by go_num, rfl, hbst, hstp, HS2⟩
                  case measure => simp [intOf]; omega
          · obtain rfl : k = 3 := by omega
            have HS : Hid (numErrs (verWords s.data.toList) 0 = bndN B') := Lib.hid (by rw [← HB.out, lstF_take_all, HL.out])
            go_wp2_with fail
            go_meet
            exact ⟨B', rfl, hbr, hN, HS⟩
      case rest =>
        obtain ⟨B', rfl, hbr, hN, HB⟩ := hcut
        clear hbB hNB
        go_upto_if 85 with fail
        go_cut [] from 86 to 88 (fun wx => ∃ (a' : Option Addr) (n' cap' : Nat) (P : Nat → ByteArray), NBox wx w1.heap.size L 3 (.slice a' n' cap') ∧ Below w1.heap.size w1 wx ∧ n' ≤ cap' ∧ cap' ≤ 9223372036854775807 ∧ n' ≤ 1000000001 ∧ Hid (lstF n' P = verPres s.data.toList) ∧ (∀ j, j < n' → ∃ b o, a' = some ⟨b, o, none⟩ ∧ w1.heap.size < b ∧ wx.cell? ⟨b, o + j, none⟩ = some (.string (P j))) ∧ ∀ j, j < n' → (P j).size ≤ 4000000000)
        case first =>
          cases B with
          | false =>
            have hPr : Hid (verPres s.data.toList = []) := Lib.hid (by rw [HR2.out]; rfl)
            go_wp2_with fail
            go_meet
            exact ⟨none, 0, 0, fun _ => ByteArray.empty, hN, hbr, Nat.le_refl _, by decide, by decide, Lib.hid (by rw [hPr.out]; rfl), fun j hj => absurd hj (Nat.not_lt_zero _), fun j hj => absurd hj (Nat.not_lt_zero _)⟩
          | true =>
            have hPr : Hid (verPres s.data.toList = split R.data.toList [46]) := Lib.hid (by rw [HR2.out]; rfl)
            go_wp2_with fail
            refine (refCut_dot R wc hR9).mono ?_
            rintro e w2 ⟨⟨v2, rfl, hS2, hNew2⟩, hb2⟩
            obtain ⟨a2, n2, cap2, P, rfl, hl2, hn2, hcap2, hc2⟩ := hS2
            have hN2 := hN.below hb2
            have h3 := hN2.c3
            have hf3 := hN2.fr 3
            have hN3 := hN2.set3 (.slice a2 n2 cap2)
            have hbz : w1.heap.size < wc.heap.size := lt_of_cell hN.c3
            have hb3 : Below w1.heap.size w1 (w2.setCell ⟨w1.heap.size, 3, none⟩ (.slice a2 n2 cap2)) := (below_step hbr hb2).setCell (Nat.le_refl _) _
            have hcells : ∀ j, j < n2 → ∃ b o, a2 = some ⟨b, o, none⟩ ∧ w1.heap.size < b ∧ (w2.setCell ⟨w1.heap.size, 3, none⟩ (.slice a2 n2 cap2)).cell? ⟨b, o + j, none⟩ = some (.string (P j)) := fun j hj => by
              obtain ⟨b, o, rfl, h⟩ := hc2 j hj
              have hq : wc.heap.size ≤ b := hNew2 _ _ _ rfl
              refine ⟨b, o, rfl, by omega, ?_⟩
              rw [World.cell?_setCell_other _ _ _ _ (by intro e; injection e with e1 _ _; omega)]
              exact h
            have HX : Hid (lstF n2 P = verPres s.data.toList) := Lib.hid (by rw [hPr.out, hl2])
            have hsz := lstF_mem_le (by decide) hl2.symm
            have hR9' : R.data.toList.length ≤ 1000000000 := by rw [← size_eq]; exact hR9
            have hn9 : n2 ≤ 1000000001 := by
              have h5 := congrArg List.length hl2
              rw [lstF_length] at h5
              have := split_len 46 R.data.toList
              omega
            have HCl := Lib.hid hcells
            clear hc2 hl2 hNew2 hcells
            go_wp2_with fail
            go_meet
            exact ⟨a2, n2, cap2, P, hN3, hb3, hn2, hcap2, hn9, HX, HCl.out, fun j hj => Nat.le_trans (hsz j hj) (by omega)⟩
        case rest =>
          clear hbr hN
          obtain ⟨a', n', cap', P, hN, hbr, hn', hcap', hn9, HP', hcP, hPs⟩ := hcut
          have HcP := Lib.hid hcP
          have hzr := hz1.below hbr
          have c3 := hN.c3
          have hbw := below_step hb01 hbr
          clear hcP
          go_wp2_with fail
          go_loop [10, 14] (fun b i => ∃ (k : Nat) (C : Bool), k ≤ n' ∧ i = .int .i64 k ∧ b = .bool C ∧ Hid (partErrs ((lstF n' P).take k) (numErrs (verWords s.data.toList) 0) = bndN C)) (fun _ i => n' - (intOf i).toNat)
          case atStart => exact ⟨0, B', by omega, rfl, rfl, HB⟩
          case round =>
            obtain ⟨k, C, hk, rfl, rfl, HC'⟩ := hrel
            by_cases hlt : k < n'
            · obtain ⟨b1, o1, rfl, _, hck⟩ := HcP.out k hlt
              have hmem : (P k).data.toList ∈ verPres s.data.toList := by rw [← HP'.out]; exact List.mem_of_getElem? (lstF_get n' P k hlt)
              have hsn := partErrs_snoc ((lstF n' P).take k) (P k).data.toList (numErrs (verWords s.data.toList) 0)
              rw [← lstF_take_succ n' P k hlt, HC'.out] at hsn
              have HSN := Lib.hid hsn
              have HM := Lib.hid hmem
              have hp4 := hPs k hlt
              clear hsn hmem
              generalize P k = p at hck HSN HM hp4
              by_cases hs1 : p.size < 1
              · have HF : Hid (verErr s.data.toList = 1) := Lib.hid (by rw [hVE.out]; exact verErrs_part HM.out (partErr_size (.inl hs1)))
                obtain ⟨z0, z1, z2, z3, zf⟩ := id hzr
                have zf0 := zf 0
                have zf1 := zf 1
                have zf2 := zf 2
                have zf3 := zf 3
                clear zf
                go_wp2_with fail
                refine bodyPost_ret (v := .tuple #[.agg #[.int .i64 0, .int .i64 0, .int .i64 0, .slice none 0 0], .int .i64 1]) (by simp [results, Tryz.results130, go_sem, *]) rfl ?_
                have hne : verErr s.data.toList ≠ 0 := by rw [HF.out]; decide
                rw [verNum_bad hne, verNum_bad hne, verNum_bad hne, verPre_bad hne, HF.out]
                exact ⟨⟨_, rfl, StrsAt.nil _⟩, ((((hbw).setCell (Nat.le_refl _) _).setCell (Nat.le_refl _) _).setCell (Nat.le_refl _) _).setCell (Nat.le_refl _) _⟩
              · by_cases hs8 : 8 < p.size
                · have HF : Hid (verErr s.data.toList = 1) := Lib.hid (by rw [hVE.out]; exact verErrs_part HM.out (partErr_size (.inr hs8)))
                  obtain ⟨z0, z1, z2, z3, zf⟩ := id hzr
                  have zf0 := zf 0
                  have zf1 := zf 1
                  have zf2 := zf 2
                  have zf3 := zf 3
                  clear zf
                  go_wp2_with fail
                  refine bodyPost_ret (v := .tuple #[.agg #[.int .i64 0, .int .i64 0, .int .i64 0, .slice none 0 0], .int .i64 1]) (by simp [results, Tryz.results130, go_sem, *]) rfl ?_
                  have hne : verErr s.data.toList ≠ 0 := by rw [HF.out]; decide
                  rw [verNum_bad hne, verNum_bad hne, verNum_bad hne, verPre_bad hne, HF.out]
                  exact ⟨⟨_, rfl, StrsAt.nil _⟩, ((((hbw).setCell (Nat.le_refl _) _).setCell (Nat.le_refl _) _).setCell (Nat.le_refl _) _).setCell (Nat.le_refl _) _⟩
                · go_upto_block 6 with fail
                  go_cut [16, 17, 18, 19] from 110 to 162 (fun _ _ _ _ wx => wx = wc ∧ Hid ((p.data.toList.take p.size).all isPartByte = true))
                  case first =>
                    go_wp2_with fail
                    go_loop [16, 17, 18, 19] (fun i _ _ _ => ∃ m : Nat, m ≤ p.size ∧ i = .int .i64 m ∧ Hid ((p.data.toList.take m).all isPartByte = true)) (fun i _ _ _ => p.size - (intOf i).toNat)
                    case atStart => exact ⟨0, Nat.zero_le _, rfl, Lib.hid rfl⟩
                    case round =>
                      obtain ⟨m, hm, rfl, HA⟩ := hrel
                      by_cases hml : m < p.size
                      · have hip := isPartByte_iff p[m]
                        rcases byte_classes (p[m].toNat : Int) with h | h
                        · have hyes : isPartByte p[m] = true := hip.2 (by omega)
                          have HN : Hid ((p.data.toList.take (m + 1)).all isPartByte = true) := Lib.hid (by rw [take_snoc p m hml, List.all_append, HA.out]; simp [hyes])
                          clear hip hyes
                          rcases h with ⟨h1, h2, h3, h4, h5, h6⟩ | ⟨h1, h2, h3, h4, h5, h6⟩ | ⟨h1, h2, h3, h4, h5, h6⟩ | h
                          all_goals
                            go_wp2_with fail
                            go_round
                            case rel => exact ⟨m + 1, by omega, by go_num, HN⟩
                            case measure => simp [intOf]; omega
                        · obtain ⟨hd, hno, h⟩ := h
                          have hnot : isPartByte p[m] = false := by
                            rw [Bool.eq_false_iff]
                            intro e
                            have := hip.1 e
                            have h45 : (p[m].toNat : Int) ≠ 45 := beq_eq_false_iff_ne.1 hd
                            omega
                          have HF : Hid (verErr s.data.toList = 1) := Lib.hid (by rw [hVE.out]; exact verErrs_part HM.out (partErr_bad hml hnot))
                          clear hip hnot hno
                          rcases h with ⟨h1, h2, h3, h4, h5, h6⟩ | ⟨h1, h2, h3, h4, h5, h6⟩ | ⟨h1, h2, h3, h4, h5, h6⟩ | ⟨h1, h2, h3, h4, h5, h6⟩
                          all_goals
                            obtain ⟨z0, z1, z2, z3, zf⟩ := id hzr
                            have zf0 := zf 0
                            have zf1 := zf 1
                            have zf2 := zf 2
                            have zf3 := zf 3
                            clear zf
                            go_wp2_with fail
                            refine bodyPost_ret (v := .tuple #[.agg #[.int .i64 0, .int .i64 0, .int .i64 0, .slice none 0 0], .int .i64 1]) (by simp [results, Tryz.results130, go_sem, *]) rfl ?_
                            have hne : verErr s.data.toList ≠ 0 := by rw [HF.out]; decide
                            rw [verNum_bad hne, verNum_bad hne, verNum_bad hne, verPre_bad hne, HF.out]
                            exact ⟨⟨_, rfl, StrsAt.nil _⟩, ((((hbw).setCell (Nat.le_refl _) _).setCell (Nat.le_refl _) _).setCell (Nat.le_refl _) _).setCell (Nat.le_refl _) _⟩
                      · obtain rfl : m = p.size := by omega
                        go_wp2_with fail
                        go_meet
                        exact ⟨rfl, HA⟩
                  case rest =>
                    obtain ⟨rfl, HA⟩ := hcut
                    have HPE := Lib.hid (partErr_good (by omega) (by omega) HA.out)
                    have hdc := refDigits_calls p wc hp4
                    have hnc := refNumber_calls p wc hp4
                    have hle := (numberOf_le p.data.toList).2
                    have HNC := Lib.hid hnc
                    clear hnc
                    cases hd : areDigits p.data.toList with
                    | false =>
                      have HS : Hid (partErrs ((lstF n' P).take (k + 1)) (numErrs (verWords s.data.toList) 0) = bndN C) := Lib.hid (by
                        rw [HSN.out, HPE.out, hd]
                        show worseN (bndN C) 0 = _
                        unfold worseN
                        rw [if_pos (.inr rfl)])
                      rw [hd] at hdc
                      clear hd hle
                      go_wp2_with fail
                      refine hdc.mono ?_
                      rintro e w5 ⟨rfl, hw5⟩
                      subst hw5
                      clear hdc
                      go_wp2_with fail
                      go_round
                      case rel => exact ⟨k + 1, C, by omega, by go_num, rfl, HS⟩
                      case measure => simp [intOf]; omega
                    | true =>
                      have HE : Hid (partErr p.data.toList = (numberOf p.data.toList).2) := Lib.hid (by rw [HPE.out, hd]; rfl)
                      rw [hd] at hdc
                      clear hd
                      have hnc := HNC.out
                      clear HNC
                      by_cases he1 : (numberOf p.data.toList).2 = 1
                      · have HF : Hid (verErr s.data.toList = 1) := Lib.hid (by rw [hVE.out]; exact verErrs_part HM.out (HE.out.trans he1))
                        rw [he1] at hnc
                        generalize (numberOf p.data.toList).1 = nk at hnc
                        clear he1 hle
                        go_wp2_with fail
                        refine hdc.mono ?_
                        rintro e w5 ⟨rfl, hw5⟩
                        subst hw5
                        clear hdc
                        go_wp2_with fail
                        refine hnc.mono ?_
                        rintro e w5 ⟨rfl, hw5⟩
                        subst hw5
                        clear hnc
                        obtain ⟨z0, z1, z2, z3, zf⟩ := id hzr
                        have zf0 := zf 0
                        have zf1 := zf 1
                        have zf2 := zf 2
                        have zf3 := zf 3
                        clear zf
                        go_wp2_with fail
                        refine bodyPost_ret (v := .tuple #[.agg #[.int .i64 0, .int .i64 0, .int .i64 0, .slice none 0 0], .int .i64 1]) (by simp [results, Tryz.results130, go_sem, *]) rfl ?_
                        have hne : verErr s.data.toList ≠ 0 := by rw [HF.out]; decide
                        rw [verNum_bad hne, verNum_bad hne, verNum_bad hne, verPre_bad hne, HF.out]
                        exact ⟨⟨_, rfl, StrsAt.nil _⟩, ((((hbw).setCell (Nat.le_refl _) _).setCell (Nat.le_refl _) _).setCell (Nat.le_refl _) _).setCell (Nat.le_refl _) _⟩
                      · have HS : Hid (partErrs ((lstF n' P).take (k + 1)) (numErrs (verWords s.data.toList) 0) = bndN (C || decide (0 < (numberOf p.data.toList).2))) := Lib.hid (by rw [HSN.out, HE.out, bndN_step C he1 hle])
                        have he1' : (((numberOf p.data.toList).2 : Int) == 1) = false := beq_eq_false_iff_ne.2 (by omega)
                        generalize (numberOf p.data.toList).2 = ek at hnc he1' HS
                        generalize (numberOf p.data.toList).1 = nk at hnc
                        clear hle he1 HE HPE
                        cases C with
                        | true =>
                          go_wp2_with fail
                          refine hdc.mono ?_
                          rintro e w5 ⟨rfl, hw5⟩
                          subst hw5
                          clear hdc
                          go_wp2_with fail
                          refine hnc.mono ?_
                          rintro e w5 ⟨rfl, hw5⟩
                          subst hw5
                          clear hnc
                          go_wp2_with fail
                          go_round
                          case rel => exact ⟨k + 1, true, by omega, by go_num, rfl, HS⟩
                          case measure => simp [intOf]; omega
                        | false =>
                          by_cases h0 : 0 < ek
                          · have HS2 : Hid (partErrs ((lstF n' P).take (k + 1)) (numErrs (verWords s.data.toList) 0) = bndN true) := Lib.hid (by rw [HS.out, decide_eq_true h0]; rfl)
                            clear HS
                            have h0' : (0 : Int) < (ek : Int) := by omega
                            go_wp2_with fail
                            refine hdc.mono ?_
                            rintro e w5 ⟨rfl, hw5⟩
                            subst hw5
                            clear hdc
                            go_wp2_with fail
                            refine hnc.mono ?_
                            rintro e w5 ⟨rfl, hw5⟩
                            subst hw5
                            clear hnc
                            go_wp2_with fail
                            go_round
                            case rel => exact ⟨k + 1, true, by omega, by go_num, rfl, HS2⟩
                            case measure => simp [intOf]; omega
                          · have HS2 : Hid (partErrs ((lstF n' P).take (k + 1)) (numErrs (verWords s.data.toList) 0) = bndN false) := Lib.hid (by rw [HS.out, decide_eq_false h0]; rfl)
                            clear HS
                            obtain rfl : ek = 0 := by omega
                            go_wp2_with fail
                            refine hdc.mono ?_
                            rintro e w5 ⟨rfl, hw5⟩
                            subst hw5
                            clear hdc
                            go_wp2_with fail
                            refine hnc.mono ?_
                            rintro e w5 ⟨rfl, hw5⟩
                            subst hw5
                            clear hnc
                            go_wp2_with fail
                            go_round
                            case rel => exact ⟨k + 1, false, by omega, by go_num, rfl, HS2⟩
                            case measure => simp [intOf]; omega
            · obtain rfl : k = n' := by omega
              have HS : Hid (verErr s.data.toList = if C = true ∨ 5 < k then 2 else 0) := Lib.hid (by
                have h1 := HC'.out
                rw [lstF_take_all, HP'.out] at h1
                rw [hVE.out, verErrs_bnd h1, ← HP'.out, lstF_length])
              by_cases hbad : C = true ∨ 5 < k
              · have HF : Hid (verErr s.data.toList = 2) := Lib.hid (by rw [HS.out, if_pos hbad])
                clear HS
                cases C with
                | true =>
                  clear hbad
                  obtain ⟨z0, z1, z2, z3, zf⟩ := id hzr
                  have zf0 := zf 0
                  have zf1 := zf 1
                  have zf2 := zf 2
                  have zf3 := zf 3
                  clear zf
                  go_wp2_with fail
                  refine bodyPost_ret (v := .tuple #[.agg #[.int .i64 0, .int .i64 0, .int .i64 0, .slice none 0 0], .int .i64 2]) (by simp [results, Tryz.results130, go_sem, *]) rfl ?_
                  have hne : verErr s.data.toList ≠ 0 := by rw [HF.out]; decide
                  rw [verNum_bad hne, verNum_bad hne, verNum_bad hne, verPre_bad hne, HF.out]
                  exact ⟨⟨_, rfl, StrsAt.nil _⟩, ((((hbw).setCell (Nat.le_refl _) _).setCell (Nat.le_refl _) _).setCell (Nat.le_refl _) _).setCell (Nat.le_refl _) _⟩
                | false =>
                  have h5 : 5 < k := hbad.resolve_left (by decide)
                  clear hbad
                  obtain ⟨z0, z1, z2, z3, zf⟩ := id hzr
                  have zf0 := zf 0
                  have zf1 := zf 1
                  have zf2 := zf 2
                  have zf3 := zf 3
                  clear zf
                  go_wp2_with fail
                  refine bodyPost_ret (v := .tuple #[.agg #[.int .i64 0, .int .i64 0, .int .i64 0, .slice none 0 0], .int .i64 2]) (by simp [results, Tryz.results130, go_sem, *]) rfl ?_
                  have hne : verErr s.data.toList ≠ 0 := by rw [HF.out]; decide
                  rw [verNum_bad hne, verNum_bad hne, verNum_bad hne, verPre_bad hne, HF.out]
                  exact ⟨⟨_, rfl, StrsAt.nil _⟩, ((((hbw).setCell (Nat.le_refl _) _).setCell (Nat.le_refl _) _).setCell (Nat.le_refl _) _).setCell (Nat.le_refl _) _⟩
              · have HF : Hid (verErr s.data.toList = 0) := Lib.hid (by rw [HS.out, if_neg hbad])
                rw [not_or] at hbad
                obtain ⟨hC, h5⟩ := hbad
                obtain rfl : C = false := by simpa using hC
                have hv0 := HF.out
                have hn3 := numAt_three L s.data.toList HL.out hv0
                have HX := Lib.hid (And.intro (verPre_ok hv0) (And.intro (hn3 0 (by decide)) (And.intro (hn3 1 (by decide)) (hn3 2 (by decide)))))
                have p0 := hN.c 0 (by decide)
                have p1 := hN.c 1 (by decide)
                have p2 := hN.c 2 (by decide)
                obtain ⟨z0, z1, z2, z3, zf⟩ := id hzr
                have zf0 := zf 0
                have zf1 := zf 1
                have zf2 := zf 2
                have zf3 := zf 3
                have hne : w.heap.size ≠ w1.heap.size := Nat.ne_of_lt hwz
                have hne' : w1.heap.size ≠ w.heap.size := hne.symm
                have hCO : CellsOver wc w1.heap.size a' k P := HcP.out
                have hCf := fun v0 v1 v2 v3 => ((((hCO.set (Nat.le_of_lt hwz) 0 v0).set (Nat.le_of_lt hwz) 1 v1).set (Nat.le_of_lt hwz) 2 v2).set (Nat.le_of_lt hwz) 3 v3).strs hn' hcap'
                have HCF := Lib.hid hCf
                clear zf hC hv0 hn3 HS hCf hCO
                go_wp2_with fail
                refine bodyPost_ret (v := .tuple #[.agg #[.int .i64 (numAt L 3 0), .int .i64 (numAt L 3 1), .int .i64 (numAt L 3 2), .slice a' k cap'], .int .i64 0]) (by simp [results, Tryz.results130, go_sem, *]) rfl ?_
                obtain ⟨hpre, e0, e1, e2⟩ := HX.out
                rw [hpre, ← e0, ← e1, ← e2, HF.out, ← HP'.out]
                exact ⟨⟨_, rfl, HCF.out _ _ _ _⟩, ((((hbw).setCell (Nat.le_refl _) _).setCell (Nat.le_refl _) _).setCell (Nat.le_refl _) _).setCell (Nat.le_refl _) _⟩
theorem refVerOf_calls (s : ByteArray) (w : World) (hs : s.size ≤ 1000000000) :
    Calls Tryz.prog 130 #[.string s] w fun e w' => (∃ v, e = .returned (.tuple #[.agg #[.int .i64 (verNum s.data.toList 0 : Nat), .int .i64 (verNum s.data.toList 1 : Nat), .int .i64 (verNum s.data.toList 2 : Nat), v], .int .i64 (verErr s.data.toList : Nat)]) ∧ StrsAt w' v (verPre s.data.toList)) ∧ Below w.heap.size w w' := by
  cases hp : hasPrefix s.data.toList [118] with
  | true => exact refVerOf_v s w hs hp
  | false =>
    have h1 : verErr s.data.toList = 1 := by unfold verErr; rw [if_pos (.inl hp)]
    have hne : verErr s.data.toList ≠ 0 := by rw [h1]; decide
    refine (refVerOf_none s w hs hp).mono ?_
    rintro e w' ⟨rfl, hb⟩
    rw [verNum_bad hne, verNum_bad hne, verNum_bad hne, verPre_bad hne, h1]
    exact ⟨⟨_, rfl, StrsAt.nil _⟩, hb⟩
end Go.Proofs.Pw
