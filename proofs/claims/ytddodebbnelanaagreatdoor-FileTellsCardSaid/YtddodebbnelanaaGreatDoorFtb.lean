/- Ft: walks and plain laws, joined: RefV2 RefP RefP2 RefO RefP3 ModOrd FileRef FileRef2 FileRef3 FileRef4 FileRefMath FileRef5. Conditions: at each theorem. -/
import Derived.Test.YtddodebbnelanaaGreatDoorFta
import Derived.Deep.CutRange
import Derived.Deep.CutBlock
import Derived.Test.YtddodebbnelanaaGreatDoorMpa
import Derived.Lib.IndexLaws
import Derived.Test.YtddodebbnelanaaGreatDoorMpb
import Derived.RegionTactic
import Derived.BigRegion

/- R.VerOf: the way behind v. -/
namespace Go.Proofs.Pw
open Go.RowKit
open Go.Lib hiding intOf

theorem partErr_bad {s : ByteArray} {k : Nat} (h : k < s.size) (hb : isPartByte s[k] = false) : partErr s.data.toList = 1 := by
  apply partErr_text
  refine .inr (.inr ?_)
  rw [Bool.eq_false_iff]
  intro e
  have := List.all_eq_true.1 e _ (byte_mem s k h)
  rw [hb] at this
  cases this
theorem partErr_good {s : ByteArray} (h1 : 1 ≤ s.size) (h8 : s.size ≤ 8) (ha : (s.data.toList.take s.size).all isPartByte = true) : partErr s.data.toList = if areDigits s.data.toList then (numberOf s.data.toList).2 else 0 := by
  rw [take_size] at ha
  unfold partErr
  rw [if_neg]
  rintro (h | h | h)
  · rw [size_eq, h] at h1; simp at h1
  · rw [← size_eq] at h; omega
  · rw [ha] at h; cases h
theorem partErr_size {s : ByteArray} (h : s.size < 1 ∨ 8 < s.size) : partErr s.data.toList = 1 := by
  apply partErr_text
  rcases h with h | h
  · refine .inl (List.length_eq_zero_iff.1 (by rw [← size_eq]; omega))
  · exact .inr (.inl (by rw [← size_eq]; exact h))
theorem isPartByte_iff (c : UInt8) : isPartByte c = true ↔ (97 ≤ (c.toNat : Int) ∧ (c.toNat : Int) ≤ 122) ∨ (65 ≤ (c.toNat : Int) ∧ (c.toNat : Int) ≤ 90) ∨ (48 ≤ (c.toNat : Int) ∧ (c.toNat : Int) ≤ 57) ∨ (c.toNat : Int) = 45 := by
  unfold isPartByte isDig isLetter
  have e : (c == 45) = decide (c.toNat = 45) := by
    rw [Bool.eq_iff_iff, beq_iff_eq, decide_eq_true_eq]
    constructor
    · rintro rfl; rfl
    · intro h; exact UInt8.toNat_inj.1 (by rw [h]; rfl)
  rw [e]
  simp only [Bool.or_eq_true, decide_eq_true_eq]
  omega

/-- texts in a row that lies above a block -/
def CellsOver (w : World) (B : Nat) (a : Option Addr) (n : Nat) (P : Nat → ByteArray) : Prop := ∀ j, j < n → ∃ b o, a = some ⟨b, o, none⟩ ∧ B < b ∧ w.cell? ⟨b, o + j, none⟩ = some (.string (P j))
theorem CellsOver.set {w : World} {B B' n : Nat} {a : Option Addr} {P : Nat → ByteArray} (h : CellsOver w B a n P) (hB : B' ≤ B) (i : Nat) (u : Value) : CellsOver (w.setCell ⟨B', i, none⟩ u) B a n P := by
  intro j hj
  obtain ⟨b, o, rfl, h1, h2⟩ := h j hj
  refine ⟨b, o, rfl, h1, ?_⟩
  rw [World.cell?_setCell_other _ _ _ _ (by intro e; injection e with e1 _ _; omega)]
  exact h2
theorem CellsOver.strs {w : World} {B n cap : Nat} {a : Option Addr} {P : Nat → ByteArray} (h : CellsOver w B a n P) (hn : n ≤ cap) (hc : cap ≤ 9223372036854775807) : StrsAt w (.slice a n cap) (lstF n P) :=
  ⟨a, n, cap, P, rfl, rfl, hn, hc, fun j hj => let ⟨b, o, e, _, h2⟩ := h j hj; ⟨b, o, e, h2⟩⟩
theorem cutAt_len (c : UInt8) : ∀ (l acc : Str), (cutAt c acc l).length ≤ l.length + 1
  | [], acc => by simp [cutAt]
  | b :: l, acc => by
    rw [cutAt]
    split
    · have := cutAt_len c l []
      simp only [List.length_cons]; omega
    · have := cutAt_len c l (acc ++ [b])
      simp only [List.length_cons]; omega
theorem split_len (c : UInt8) (s : Str) : (split s [c]).length ≤ s.length + 1 := by rw [split_eq]; exact cutAt_len c s []
theorem extract_size_le (s : ByteArray) (a b : Nat) : (s.extract a b).size ≤ s.size := by rw [ByteArray.size_extract]; omega
theorem refCut_dot (s : ByteArray) (w : World) (hs : s.size ≤ 1000000000) :
    Calls Tryz.prog 78 #[.string s, .int .u8 46] w fun e w' => (∃ v, e = .returned v ∧ StrsAt w' v (split s.data.toList [46]) ∧ NewRow w v) ∧ Below w.heap.size w w' := refCut_calls s 46 w hs
theorem byte_ne_int {b c : UInt8} {n : Int} (hn : n = c.toNat) (h : b ≠ c) : ((b.toNat : Int) == n) = false :=
  beq_eq_false_iff_ne.2 fun e => h (UInt8.toNat_inj.1 (by rw [hn] at e; exact_mod_cast e))
theorem byte_classes (c : Int) :
    ((97 ≤ c ∧ c ≤ 122 ∧ 65 ≤ c ∧ ¬ c ≤ 90 ∧ 48 ≤ c ∧ ¬ c ≤ 57) ∨ (¬ 97 ≤ c ∧ c ≤ 122 ∧ 65 ≤ c ∧ c ≤ 90 ∧ 48 ≤ c ∧ ¬ c ≤ 57) ∨ (¬ 97 ≤ c ∧ c ≤ 122 ∧ ¬ 65 ≤ c ∧ c ≤ 90 ∧ 48 ≤ c ∧ c ≤ 57) ∨ c = 45) ∨
    ((c == 45) = false ∧ ¬ ((97 ≤ c ∧ c ≤ 122) ∨ (65 ≤ c ∧ c ≤ 90) ∨ (48 ≤ c ∧ c ≤ 57)) ∧
      ((¬ 97 ≤ c ∧ c ≤ 122 ∧ ¬ 65 ≤ c ∧ c ≤ 90 ∧ ¬ 48 ≤ c ∧ c ≤ 57) ∨ (¬ 97 ≤ c ∧ c ≤ 122 ∧ ¬ 65 ≤ c ∧ c ≤ 90 ∧ 48 ≤ c ∧ ¬ c ≤ 57) ∨ (¬ 97 ≤ c ∧ c ≤ 122 ∧ 65 ≤ c ∧ ¬ c ≤ 90 ∧ 48 ≤ c ∧ ¬ c ≤ 57) ∨ (97 ≤ c ∧ ¬ c ≤ 122 ∧ 65 ≤ c ∧ ¬ c ≤ 90 ∧ 48 ≤ c ∧ ¬ c ≤ 57))) := by
  have e : (c == 45) = false ↔ c ≠ 45 := by rw [beq_eq_false_iff_ne]
  rw [e]
  omega

theorem drop1_cut (s : ByteArray) (k : Nat) (hk : k < s.size) (h1 : 1 ≤ k) (h45 : s[k] = 45) (hno : (45 : UInt8) ∉ (s.data.toList.take k).drop 1) :
    cut (s.data.toList.drop 1) [45] = ((s.extract 1 k).data.toList, (s.extract (k + 1) s.size).data.toList, true) := by
  have e : s.data.toList.drop 1 = (s.data.toList.take k).drop 1 ++ 45 :: s.data.toList.drop (k + 1) := by
    conv => lhs; rw [← List.take_append_drop k s.data.toList]
    rw [List.drop_append_of_le_length (by rw [List.length_take, ← size_eq]; omega), drop_cons s k hk, h45]
  rw [e, cut_at hno, extract_take_drop s 1 k (by omega), extract_to_end]
theorem drop1_none (s : ByteArray) (hno : (45 : UInt8) ∉ (s.data.toList.take s.size).drop 1) :
    cut (s.data.toList.drop 1) [45] = ((s.extract 1 s.size).data.toList, (⟨#[]⟩ : ByteArray).data.toList, false) := by
  rw [take_size] at hno
  rw [cut_no hno, extract_to_end]
theorem take_drop1_snoc (s : ByteArray) (k : Nat) (h : k < s.size) (c : UInt8) (h0 : k = 0 ∨ s[k] ≠ c) (hno : c ∉ (s.data.toList.take k).drop 1) : c ∉ (s.data.toList.take (k + 1)).drop 1 := by
  rw [take_snoc s k h]
  rcases Nat.eq_zero_or_pos k with rfl | hk
  · simp
  · rw [List.drop_append_of_le_length (by rw [List.length_take, ← size_eq]; omega)]
    simp only [List.mem_append, List.mem_singleton, not_or]
    exact ⟨hno, fun e => (h0.resolve_left (by omega)) e.symm⟩

set_option maxHeartbeats 2000000 in
set_option maxRecDepth 100000 in
theorem refVerOf_v (s : ByteArray) (w : World) (hs : s.size ≤ 1000000000) (hp : hasPrefix s.data.toList [118] = true) :
    Calls Tryz.prog 97 #[.string s] w fun e w' => (∃ v, e = .returned (.tuple #[.agg #[.int .i64 (verNum s.data.toList 0 : Nat), .int .i64 (verNum s.data.toList 1 : Nat), .int .i64 (verNum s.data.toList 2 : Nat), v], .int .i64 (verErr s.data.toList : Nat)]) ∧ StrsAt w' v (verPre s.data.toList)) ∧ Below w.heap.size w w' := by
  have hbA := below_alloc w (.cells #[.int .i64 0, .int .i64 0, .int .i64 0, .slice none 0 0] 130)
  have hzA := box4_alloc w (.int .i64 0) (.int .i64 0) (.int .i64 0) (.slice none 0 0) 130
  have h1 : 1 ≤ s.size := by
    rcases Nat.eq_zero_or_pos s.size with h | h
    · have : s.data.toList = [] := List.length_eq_zero_iff.1 (by rw [← size_eq]; exact h)
      rw [this] at hp; cases hp
    · exact h
  have h118 : (s[0].toNat : Int) = 118 := by
    rw [hasPrefix_byte s h1] at hp
    have : s[0] = 118 := of_decide_eq_true hp
    rw [this]; rfl
  have ht := trimPrefix_byte s hp
  have HP := Lib.hid hp
  have HT := Lib.hid ht
  have HW : Hid (verWords s.data.toList = split (cut (s.data.toList.drop 1) [45]).1 [46]) := Lib.hid (by unfold verWords; rw [ht])
  have HR : Hid (verPres s.data.toList = if (cut (s.data.toList.drop 1) [45]).2.2 then split (cut (s.data.toList.drop 1) [45]).2.1 [46] else []) := Lib.hid (by unfold verPres; rw [ht])
  clear hp ht
  have h00 : ((s.size : Int) == 0) = false := beq_eq_false_iff_ne.2 (by omega)
  go_enter Tryz.func97, Tryz.ntmps97
  go_upto_block 0 with fail
  generalize hwA : w.alloc (.cells #[.int .i64 0, .int .i64 0, .int .i64 0, .slice none 0 0] 130) = wA at hbA hzA ⊢
  clear hwA
  go_cut [4, 5, 6, 7] from 33 to 53 (fun h p b _ wx => ∃ (H R : ByteArray) (B : Bool), h = .string H ∧ p = .string R ∧ b = .bool B ∧ wx = wA ∧ H.size ≤ s.size ∧ R.size ≤ s.size ∧ Hid (cut (s.data.toList.drop 1) [45] = (H.data.toList, R.data.toList, B)))
  case first =>
    go_wp2_with fail
    go_loop [4, 5, 6, 7] (fun h p b i => ∃ (k : Nat) (H R : ByteArray) (B : Bool), k ≤ s.size ∧ i = .int .i64 k ∧ h = .string H ∧ p = .string R ∧ b = .bool B ∧ H.size ≤ s.size ∧ R.size ≤ s.size ∧
        Hid (if B = true then cut (s.data.toList.drop 1) [45] = (H.data.toList, R.data.toList, true) else (H = s.extract 1 s.size ∧ R = ⟨#[]⟩ ∧ (45 : UInt8) ∉ (s.data.toList.take k).drop 1))) (fun _ _ _ i => s.size - (intOf i).toNat)
    case atStart => exact ⟨0, s.extract 1 s.size, ⟨#[]⟩, false, Nat.zero_le _, rfl, rfl, rfl, rfl, extract_size_le s _ _, Nat.zero_le _, Lib.hid ⟨rfl, rfl, by simp⟩⟩
    case round =>
      obtain ⟨k, H, R, B, hk, rfl, rfl, rfl, rfl, hH, hR, HC⟩ := hrel
      cases B with
      | true =>
        have HC2 : Hid (cut (s.data.toList.drop 1) [45] = (H.data.toList, R.data.toList, true)) := HC
        clear HC
        by_cases hlt : k < s.size
        all_goals
          go_wp2_with fail
          go_meet
          exact ⟨H, R, true, rfl, rfl, rfl, rfl, hH, hR, HC2⟩
      | false =>
        obtain ⟨rfl, rfl, hno⟩ : H = s.extract 1 s.size ∧ R = ⟨#[]⟩ ∧ (45 : UInt8) ∉ (s.data.toList.take k).drop 1 := HC.out
        have HN := Lib.hid hno
        clear HC hno
        by_cases hlt : k < s.size
        · by_cases h45 : s[k] = 45
          · have hk1 : 1 ≤ k := by
              rcases Nat.eq_zero_or_pos k with rfl | h
              · rw [h45] at h118; exact absurd h118 (by decide)
              · exact h
            have h45' : (s[k].toNat : Int) = 45 := by rw [h45]; rfl
            have HX := Lib.hid (drop1_cut s k hlt hk1 h45 HN.out)
            clear h45
            go_wp2_with fail
            go_round
            case rel => exact ⟨k + 1, s.extract 1 k, s.extract (k + 1) s.size, true, by omega, by go_num, rfl, rfl, rfl, extract_size_le s _ _, extract_size_le s _ _, HX⟩
            case measure => simp [intOf]; omega
          · have h45' : ((s[k].toNat : Int) == 45) = false := byte_ne_int (c := 45) rfl h45
            have HX := Lib.hid (take_drop1_snoc s k hlt 45 (.inr h45) HN.out)
            clear h45
            go_wp2_with fail
            go_round
            case rel => exact ⟨k + 1, _, _, false, by omega, by go_num, rfl, rfl, rfl, hH, hR, Lib.hid ⟨rfl, rfl, HX.out⟩⟩
            case measure => simp [intOf]; omega
        · obtain rfl : k = s.size := by omega
          have HX := Lib.hid (drop1_none s HN.out)
          go_wp2_with fail
          go_meet
          exact ⟨_, _, false, rfl, rfl, rfl, rfl, hH, hR, HX⟩
  case rest =>
    obtain ⟨H, R, B, rfl, rfl, rfl, rfl, hH, hR, HC⟩ := hcut
    have HW2 : Hid (verWords s.data.toList = split H.data.toList [46]) := Lib.hid (by rw [HW.out, HC.out])
    have HR2 : Hid (verPres s.data.toList = if B = true then split R.data.toList [46] else []) := Lib.hid (by rw [HR.out, HC.out])
    have hH9 := Nat.le_trans hH hs
    have hR9 := Nat.le_trans hR hs
    clear HW HR HC hH hR
    go_wp2_with fail
    refine (refCut_dot H wc hH9).mono ?_
    rintro e w1 ⟨⟨v, rfl, hS, hNew⟩, hb1⟩
    obtain ⟨a, n, cap, L, rfl, hl, hn, hcap, hc⟩ := hS
    have hz1 := hzA.below hb1
    have hb01 := below_step hbA hb1
    have hnl : (verWords s.data.toList).length = n := by rw [HW2.out, hl, lstF_length]
    have hLs := lstF_mem_le (by decide) hl.symm
    have hH9' : H.data.toList.length ≤ 1000000000 := by rw [← size_eq]; exact hH9
    have HL : Hid (lstF n L = verWords s.data.toList) := Lib.hid (by rw [HW2.out, hl])
    have HC := Lib.hid hc
    have hLs9 : ∀ j, j < n → (L j).size ≤ 4000000000 := fun j hj => Nat.le_trans (hLs j hj) (by omega)
    have HN := Lib.hid hnl
    obtain ⟨z0, z1, z2, z3, zf⟩ := id hz1
    have zf0 := zf 0
    have zf1 := zf 1
    have zf2 := zf 2
    have zf3 := zf 3
    clear zf HW2 hl hc hLs hH9' hnl hH9 hNew hzA
    by_cases h3 : n = 3
    case neg =>
      have HF : Hid (verErr s.data.toList = 1) := Lib.hid (by unfold verErr; rw [if_pos (.inr (by rw [HN.out]; exact h3))])
      have h3' : ((n : Int) == 3) = false := beq_eq_false_iff_ne.2 (by omega)
      clear h3
      go_wp2_with fail
      refine bodyPost_ret (v := .tuple #[.agg #[.int .i64 0, .int .i64 0, .int .i64 0, .slice none 0 0], .int .i64 1]) (by simp [results, Tryz.results97, go_sem, *]) rfl ?_
      have hne : verErr s.data.toList ≠ 0 := by rw [HF.out]; decide
      rw [verNum_bad hne, verNum_bad hne, verNum_bad hne, verPre_bad hne, HF.out]
      exact ⟨⟨_, rfl, StrsAt.nil _⟩, (((hb01.setCell (Nat.le_refl _) _).setCell (Nat.le_refl _) _).setCell (Nat.le_refl _) _).setCell (Nat.le_refl _) _⟩
    case pos =>
      subst h3
      clear z0 z1 z2 z3 zf0 zf1 zf2 zf3
      have hVE : Hid (verErr s.data.toList = verErrs s.data.toList) := Lib.hid (verErr_is HP.out HN.out)
      go_upto_block 2 with fail
      have hbB := below_alloc w1 (.cells #[.int .i64 0, .int .i64 0, .int .i64 0, .slice none 0 0] 130)
      have hNB := nbox_alloc w1 130 L
      have hBs : w1.heap.size < (w1.alloc (.cells #[.int .i64 0, .int .i64 0, .int .i64 0, .slice none 0 0] 130)).heap.size := by simp
      have hwz : w.heap.size < w1.heap.size := lt_of_cell hz1.c0
      go_cut [10, 11, 12, 13] from 61 to 84 (fun b _ _ _ wx => ∃ B' : Bool, b = .bool B' ∧ Below w1.heap.size w1 wx ∧ NBox wx w1.heap.size L 3 (.slice none 0 0) ∧ Hid (numErrs (verWords s.data.toList) 0 = bndN B'))
      case first =>
        go_wp2_with fail
        go_loopw [10, 11, 12, 13] (fun b i _ _ wr => ∃ (k : Nat) (B' : Bool), k ≤ 3 ∧ i = .int .i64 k ∧ b = .bool B' ∧ Below w1.heap.size w1 wr ∧ NBox wr w1.heap.size L k (.slice none 0 0) ∧ Hid (numErrs ((lstF 3 L).take k) 0 = bndN B')) (fun _ i _ _ _ => 3 - (intOf i).toNat)
        case atStart => exact ⟨0, false, by omega, rfl, rfl, hbB, hNB, Lib.hid rfl⟩
        case round =>
          obtain ⟨k, B', hk, rfl, rfl, hbr, hN⟩ := hrel
          obtain ⟨hN, HB⟩ := hN
          by_cases hlt : k < 3
          · obtain ⟨b1, o1, rfl, hck⟩ := HC.out k hlt
            replace hck := Below.cell_some hbr hck
            have hzr := hz1.below hbr
            obtain ⟨z0, z1, z2, z3, zf⟩ := id hzr
            have zf0 := zf 0
            have zf1 := zf 1
            have zf2 := zf 2
            have zf3 := zf 3
            have hn1 := hN.c k hlt
            have hn2 := hN.fr k
            have hcall := refNumber_calls (L k) wr (hLs9 k hlt)
            have hle := (numberOf_le (L k).data.toList).2
            have hmem : (L k).data.toList ∈ verWords s.data.toList := by rw [← HL.out]; exact List.mem_of_getElem? (lstF_get 3 L k hlt)
            have hsn := numErrs_snoc ((lstF 3 L).take k) (L k).data.toList 0
            rw [← lstF_take_succ 3 L k hlt] at hsn
            have hstp := hN.step hlt
            by_cases he1 : (numberOf (L k).data.toList).2 = 1
            · have HF : Hid (verErr s.data.toList = 1) := Lib.hid (by rw [hVE.out]; exact verErrs_num hmem he1)
              rw [he1] at hcall
              generalize (numberOf (L k).data.toList).1 = nk at hcall
              clear hsn hle he1 zf hmem hstp hn1 hn2 hzr
              go_wp2_with fail
              refine hcall.mono ?_
              rintro e w5 ⟨rfl, hw5⟩
              subst hw5
              clear hcall
              go_wp2_with fail
              refine bodyPost_ret (v := .tuple #[.agg #[.int .i64 0, .int .i64 0, .int .i64 0, .slice none 0 0], .int .i64 1]) (by simp [results, Tryz.results97, go_sem, *]) rfl ?_
              have hne : verErr s.data.toList ≠ 0 := by rw [HF.out]; decide
              rw [verNum_bad hne, verNum_bad hne, verNum_bad hne, verPre_bad hne, HF.out]
              exact ⟨⟨_, rfl, StrsAt.nil _⟩, ((((below_step hb01 hbr).setCell (Nat.le_refl _) _).setCell (Nat.le_refl _) _).setCell (Nat.le_refl _) _).setCell (Nat.le_refl _) _⟩
            · have HS : Hid (numErrs ((lstF 3 L).take (k + 1)) 0 = bndN (B' || decide (0 < (numberOf (L k).data.toList).2))) := Lib.hid (by rw [hsn, HB.out, bndN_step B' he1 hle])
              have he1' : (((numberOf (L k).data.toList).2 : Int) == 1) = false := beq_eq_false_iff_ne.2 (by omega)
              have hbst : Below w1.heap.size w1 (wr.setCell ⟨w1.heap.size, k, none⟩ (.int .i64 ((numberOf (L k).data.toList).1 : Nat))) := hbr.setCell (Nat.le_refl _) _
              generalize (numberOf (L k).data.toList).2 = ek at hcall he1' HS
              generalize (numberOf (L k).data.toList).1 = nk at hcall hstp hbst
              clear hsn hle he1 zf hmem z0 z1 z2 z3 zf0 zf1 zf2 zf3 hzr
              cases B' with
              | true =>
                go_wp2_with fail
                refine hcall.mono ?_
                rintro e w5 ⟨rfl, hw5⟩
                subst hw5
                clear hcall
                go_wp2_with fail
                go_roundw
                case rel => exact ⟨k + 1, true, by omega, by go_num, rfl, hbst, hstp, HS⟩
                case measure => simp [intOf]; omega
              | false =>
                by_cases h0 : 0 < ek
                · have HS2 : Hid (numErrs ((lstF 3 L).take (k + 1)) 0 = bndN true) := Lib.hid (by rw [HS.out, decide_eq_true h0]; rfl)
                  clear HS
                  have h0' : (0 : Int) < (ek : Int) := by omega
                  go_wp2_with fail
                  refine hcall.mono ?_
                  rintro e w5 ⟨rfl, hw5⟩
                  subst hw5
                  clear hcall
                  go_wp2_with fail
                  go_roundw
                  case rel => exact ⟨k + 1, true, by omega, by go_num, rfl, hbst, hstp, HS2⟩
                  case measure => simp [intOf]; omega
                · have HS2 : Hid (numErrs ((lstF 3 L).take (k + 1)) 0 = bndN false) := Lib.hid (by rw [HS.out, decide_eq_false h0]; rfl)
                  clear HS
                  obtain rfl : ek = 0 := by omega
                  go_wp2_with fail
                  refine hcall.mono ?_
                  rintro e w5 ⟨rfl, hw5⟩
                  subst hw5
                  clear hcall
                  go_wp2_with fail
                  go_roundw
                  case rel => exact ⟨k + 1, false, by omega, by go_num, rfl, hbst, hstp, HS2⟩
                  case measure => simp [intOf]; omega
          · obtain rfl : k = 3 := by omega
            have HS : Hid (numErrs (verWords s.data.toList) 0 = bndN B') := Lib.hid (by rw [← HB.out, lstF_take_all, HL.out])
            go_wp2_with fail
            go_meet
            exact ⟨B', rfl, hbr, hN, HS⟩
      case rest =>
        obtain ⟨B', rfl, hbr, hN, HB⟩ := hcut
        clear hbB hNB
        go_upto_if 85 with fail
        go_cut [] from 86 to 88 (fun wx => ∃ (a' : Option Addr) (n' cap' : Nat) (P : Nat → ByteArray), NBox wx w1.heap.size L 3 (.slice a' n' cap') ∧ Below w1.heap.size w1 wx ∧ n' ≤ cap' ∧ cap' ≤ 9223372036854775807 ∧ n' ≤ 1000000001 ∧ Hid (lstF n' P = verPres s.data.toList) ∧ (∀ j, j < n' → ∃ b o, a' = some ⟨b, o, none⟩ ∧ w1.heap.size < b ∧ wx.cell? ⟨b, o + j, none⟩ = some (.string (P j))) ∧ ∀ j, j < n' → (P j).size ≤ 4000000000)
        case first =>
          cases B with
          | false =>
            have hPr : Hid (verPres s.data.toList = []) := Lib.hid (by rw [HR2.out]; rfl)
            go_wp2_with fail
            go_meet
            exact ⟨none, 0, 0, fun _ => ByteArray.empty, hN, hbr, Nat.le_refl _, by decide, by decide, Lib.hid (by rw [hPr.out]; rfl), fun j hj => absurd hj (Nat.not_lt_zero _), fun j hj => absurd hj (Nat.not_lt_zero _)⟩
          | true =>
            have hPr : Hid (verPres s.data.toList = split R.data.toList [46]) := Lib.hid (by rw [HR2.out]; rfl)
            go_wp2_with fail
            refine (refCut_dot R wc hR9).mono ?_
            rintro e w2 ⟨⟨v2, rfl, hS2, hNew2⟩, hb2⟩
            obtain ⟨a2, n2, cap2, P, rfl, hl2, hn2, hcap2, hc2⟩ := hS2
            have hN2 := hN.below hb2
            have h3 := hN2.c3
            have hf3 := hN2.fr 3
            have hN3 := hN2.set3 (.slice a2 n2 cap2)
            have hbz : w1.heap.size < wc.heap.size := lt_of_cell hN.c3
            have hb3 : Below w1.heap.size w1 (w2.setCell ⟨w1.heap.size, 3, none⟩ (.slice a2 n2 cap2)) := (below_step hbr hb2).setCell (Nat.le_refl _) _
            have hcells : ∀ j, j < n2 → ∃ b o, a2 = some ⟨b, o, none⟩ ∧ w1.heap.size < b ∧ (w2.setCell ⟨w1.heap.size, 3, none⟩ (.slice a2 n2 cap2)).cell? ⟨b, o + j, none⟩ = some (.string (P j)) := fun j hj => by
              obtain ⟨b, o, rfl, h⟩ := hc2 j hj
              have hq : wc.heap.size ≤ b := hNew2 _ _ _ rfl
              refine ⟨b, o, rfl, by omega, ?_⟩
              rw [World.cell?_setCell_other _ _ _ _ (by intro e; injection e with e1 _ _; omega)]
              exact h
            have HX : Hid (lstF n2 P = verPres s.data.toList) := Lib.hid (by rw [hPr.out, hl2])
            have hsz := lstF_mem_le (by decide) hl2.symm
            have hR9' : R.data.toList.length ≤ 1000000000 := by rw [← size_eq]; exact hR9
            have hn9 : n2 ≤ 1000000001 := by
              have h5 := congrArg List.length hl2
              rw [lstF_length] at h5
              have := split_len 46 R.data.toList
              omega
            have HCl := Lib.hid hcells
            clear hc2 hl2 hNew2 hcells
            go_wp2_with fail
            go_meet
            exact ⟨a2, n2, cap2, P, hN3, hb3, hn2, hcap2, hn9, HX, HCl.out, fun j hj => Nat.le_trans (hsz j hj) (by omega)⟩
        case rest =>
          clear hbr hN
          obtain ⟨a', n', cap', P, hN, hbr, hn', hcap', hn9, HP', hcP, hPs⟩ := hcut
          have HcP := Lib.hid hcP
          have hzr := hz1.below hbr
          have c3 := hN.c3
          have hbw := below_step hb01 hbr
          clear hcP
          go_wp2_with fail
          go_loop [10, 14] (fun b i => ∃ (k : Nat) (C : Bool), k ≤ n' ∧ i = .int .i64 k ∧ b = .bool C ∧ Hid (partErrs ((lstF n' P).take k) (numErrs (verWords s.data.toList) 0) = bndN C)) (fun _ i => n' - (intOf i).toNat)
          case atStart => exact ⟨0, B', by omega, rfl, rfl, HB⟩
          case round =>
            obtain ⟨k, C, hk, rfl, rfl, HC'⟩ := hrel
            by_cases hlt : k < n'
            · obtain ⟨b1, o1, rfl, _, hck⟩ := HcP.out k hlt
              have hmem : (P k).data.toList ∈ verPres s.data.toList := by rw [← HP'.out]; exact List.mem_of_getElem? (lstF_get n' P k hlt)
              have hsn := partErrs_snoc ((lstF n' P).take k) (P k).data.toList (numErrs (verWords s.data.toList) 0)
              rw [← lstF_take_succ n' P k hlt, HC'.out] at hsn
              have HSN := Lib.hid hsn
              have HM := Lib.hid hmem
              have hp4 := hPs k hlt
              clear hsn hmem
              generalize P k = p at hck HSN HM hp4
              by_cases hs1 : p.size < 1
              · have HF : Hid (verErr s.data.toList = 1) := Lib.hid (by rw [hVE.out]; exact verErrs_part HM.out (partErr_size (.inl hs1)))
                obtain ⟨z0, z1, z2, z3, zf⟩ := id hzr
                have zf0 := zf 0
                have zf1 := zf 1
                have zf2 := zf 2
                have zf3 := zf 3
                clear zf
                go_wp2_with fail
                refine bodyPost_ret (v := .tuple #[.agg #[.int .i64 0, .int .i64 0, .int .i64 0, .slice none 0 0], .int .i64 1]) (by simp [results, Tryz.results97, go_sem, *]) rfl ?_
                have hne : verErr s.data.toList ≠ 0 := by rw [HF.out]; decide
                rw [verNum_bad hne, verNum_bad hne, verNum_bad hne, verPre_bad hne, HF.out]
                exact ⟨⟨_, rfl, StrsAt.nil _⟩, ((((hbw).setCell (Nat.le_refl _) _).setCell (Nat.le_refl _) _).setCell (Nat.le_refl _) _).setCell (Nat.le_refl _) _⟩
              · by_cases hs8 : 8 < p.size
                · have HF : Hid (verErr s.data.toList = 1) := Lib.hid (by rw [hVE.out]; exact verErrs_part HM.out (partErr_size (.inr hs8)))
                  obtain ⟨z0, z1, z2, z3, zf⟩ := id hzr
                  have zf0 := zf 0
                  have zf1 := zf 1
                  have zf2 := zf 2
                  have zf3 := zf 3
                  clear zf
                  go_wp2_with fail
                  refine bodyPost_ret (v := .tuple #[.agg #[.int .i64 0, .int .i64 0, .int .i64 0, .slice none 0 0], .int .i64 1]) (by simp [results, Tryz.results97, go_sem, *]) rfl ?_
                  have hne : verErr s.data.toList ≠ 0 := by rw [HF.out]; decide
                  rw [verNum_bad hne, verNum_bad hne, verNum_bad hne, verPre_bad hne, HF.out]
                  exact ⟨⟨_, rfl, StrsAt.nil _⟩, ((((hbw).setCell (Nat.le_refl _) _).setCell (Nat.le_refl _) _).setCell (Nat.le_refl _) _).setCell (Nat.le_refl _) _⟩
                · go_upto_block 6 with fail
                  go_cut [16, 17, 18, 19] from 110 to 162 (fun _ _ _ _ wx => wx = wc ∧ Hid ((p.data.toList.take p.size).all isPartByte = true))
                  case first =>
                    go_wp2_with fail
                    go_loop [16, 17, 18, 19] (fun i _ _ _ => ∃ m : Nat, m ≤ p.size ∧ i = .int .i64 m ∧ Hid ((p.data.toList.take m).all isPartByte = true)) (fun i _ _ _ => p.size - (intOf i).toNat)
                    case atStart => exact ⟨0, Nat.zero_le _, rfl, Lib.hid rfl⟩
                    case round =>
                      obtain ⟨m, hm, rfl, HA⟩ := hrel
                      by_cases hml : m < p.size
                      · have hip := isPartByte_iff p[m]
                        rcases byte_classes (p[m].toNat : Int) with h | h
                        · have hyes : isPartByte p[m] = true := hip.2 (by omega)
                          have HN : Hid ((p.data.toList.take (m + 1)).all isPartByte = true) := Lib.hid (by rw [take_snoc p m hml, List.all_append, HA.out]; simp [hyes])
                          clear hip hyes
                          rcases h with ⟨h1, h2, h3, h4, h5, h6⟩ | ⟨h1, h2, h3, h4, h5, h6⟩ | ⟨h1, h2, h3, h4, h5, h6⟩ | h
                          all_goals
                            go_wp2_with fail
                            go_round
                            case rel => exact ⟨m + 1, by omega, by go_num, HN⟩
                            case measure => simp [intOf]; omega
                        · obtain ⟨hd, hno, h⟩ := h
                          have hnot : isPartByte p[m] = false := by
                            rw [Bool.eq_false_iff]
                            intro e
                            have := hip.1 e
                            have h45 : (p[m].toNat : Int) ≠ 45 := beq_eq_false_iff_ne.1 hd
                            omega
                          have HF : Hid (verErr s.data.toList = 1) := Lib.hid (by rw [hVE.out]; exact verErrs_part HM.out (partErr_bad hml hnot))
                          clear hip hnot hno
                          rcases h with ⟨h1, h2, h3, h4, h5, h6⟩ | ⟨h1, h2, h3, h4, h5, h6⟩ | ⟨h1, h2, h3, h4, h5, h6⟩ | ⟨h1, h2, h3, h4, h5, h6⟩
                          all_goals
                            obtain ⟨z0, z1, z2, z3, zf⟩ := id hzr
                            have zf0 := zf 0
                            have zf1 := zf 1
                            have zf2 := zf 2
                            have zf3 := zf 3
                            clear zf
                            go_wp2_with fail
                            refine bodyPost_ret (v := .tuple #[.agg #[.int .i64 0, .int .i64 0, .int .i64 0, .slice none 0 0], .int .i64 1]) (by simp [results, Tryz.results97, go_sem, *]) rfl ?_
                            have hne : verErr s.data.toList ≠ 0 := by rw [HF.out]; decide
                            rw [verNum_bad hne, verNum_bad hne, verNum_bad hne, verPre_bad hne, HF.out]
                            exact ⟨⟨_, rfl, StrsAt.nil _⟩, ((((hbw).setCell (Nat.le_refl _) _).setCell (Nat.le_refl _) _).setCell (Nat.le_refl _) _).setCell (Nat.le_refl _) _⟩
                      · obtain rfl : m = p.size := by omega
                        go_wp2_with fail
                        go_meet
                        exact ⟨rfl, HA⟩
                  case rest =>
                    obtain ⟨rfl, HA⟩ := hcut
                    have HPE := Lib.hid (partErr_good (by omega) (by omega) HA.out)
                    have hdc := refDigits_calls p wc hp4
                    have hnc := refNumber_calls p wc hp4
                    have hle := (numberOf_le p.data.toList).2
                    have HNC := Lib.hid hnc
                    clear hnc
                    cases hd : areDigits p.data.toList with
                    | false =>
                      have HS : Hid (partErrs ((lstF n' P).take (k + 1)) (numErrs (verWords s.data.toList) 0) = bndN C) := Lib.hid (by
                        rw [HSN.out, HPE.out, hd]
                        show worseN (bndN C) 0 = _
                        unfold worseN
                        rw [if_pos (.inr rfl)])
                      rw [hd] at hdc
                      clear hd hle
                      go_wp2_with fail
                      refine hdc.mono ?_
                      rintro e w5 ⟨rfl, hw5⟩
                      subst hw5
                      clear hdc
                      go_wp2_with fail
                      go_round
                      case rel => exact ⟨k + 1, C, by omega, by go_num, rfl, HS⟩
                      case measure => simp [intOf]; omega
                    | true =>
                      have HE : Hid (partErr p.data.toList = (numberOf p.data.toList).2) := Lib.hid (by rw [HPE.out, hd]; rfl)
                      rw [hd] at hdc
                      clear hd
                      have hnc := HNC.out
                      clear HNC
                      by_cases he1 : (numberOf p.data.toList).2 = 1
                      · have HF : Hid (verErr s.data.toList = 1) := Lib.hid (by rw [hVE.out]; exact verErrs_part HM.out (HE.out.trans he1))
                        rw [he1] at hnc
                        generalize (numberOf p.data.toList).1 = nk at hnc
                        clear he1 hle
                        go_wp2_with fail
                        refine hdc.mono ?_
                        rintro e w5 ⟨rfl, hw5⟩
                        subst hw5
                        clear hdc
                        go_wp2_with fail
                        refine hnc.mono ?_
                        rintro e w5 ⟨rfl, hw5⟩
                        subst hw5
                        clear hnc
                        obtain ⟨z0, z1, z2, z3, zf⟩ := id hzr
                        have zf0 := zf 0
                        have zf1 := zf 1
                        have zf2 := zf 2
                        have zf3 := zf 3
                        clear zf
                        go_wp2_with fail
                        refine bodyPost_ret (v := .tuple #[.agg #[.int .i64 0, .int .i64 0, .int .i64 0, .slice none 0 0], .int .i64 1]) (by simp [results, Tryz.results97, go_sem, *]) rfl ?_
                        have hne : verErr s.data.toList ≠ 0 := by rw [HF.out]; decide
                        rw [verNum_bad hne, verNum_bad hne, verNum_bad hne, verPre_bad hne, HF.out]
                        exact ⟨⟨_, rfl, StrsAt.nil _⟩, ((((hbw).setCell (Nat.le_refl _) _).setCell (Nat.le_refl _) _).setCell (Nat.le_refl _) _).setCell (Nat.le_refl _) _⟩
                      · have HS : Hid (partErrs ((lstF n' P).take (k + 1)) (numErrs (verWords s.data.toList) 0) = bndN (C || decide (0 < (numberOf p.data.toList).2))) := Lib.hid (by rw [HSN.out, HE.out, bndN_step C he1 hle])
                        have he1' : (((numberOf p.data.toList).2 : Int) == 1) = false := beq_eq_false_iff_ne.2 (by omega)
                        generalize (numberOf p.data.toList).2 = ek at hnc he1' HS
                        generalize (numberOf p.data.toList).1 = nk at hnc
                        clear hle he1 HE HPE
                        cases C with
                        | true =>
                          go_wp2_with fail
                          refine hdc.mono ?_
                          rintro e w5 ⟨rfl, hw5⟩
                          subst hw5
                          clear hdc
                          go_wp2_with fail
                          refine hnc.mono ?_
                          rintro e w5 ⟨rfl, hw5⟩
                          subst hw5
                          clear hnc
                          go_wp2_with fail
                          go_round
                          case rel => exact ⟨k + 1, true, by omega, by go_num, rfl, HS⟩
                          case measure => simp [intOf]; omega
                        | false =>
                          by_cases h0 : 0 < ek
                          · have HS2 : Hid (partErrs ((lstF n' P).take (k + 1)) (numErrs (verWords s.data.toList) 0) = bndN true) := Lib.hid (by rw [HS.out, decide_eq_true h0]; rfl)
                            clear HS
                            have h0' : (0 : Int) < (ek : Int) := by omega
                            go_wp2_with fail
                            refine hdc.mono ?_
                            rintro e w5 ⟨rfl, hw5⟩
                            subst hw5
                            clear hdc
                            go_wp2_with fail
                            refine hnc.mono ?_
                            rintro e w5 ⟨rfl, hw5⟩
                            subst hw5
                            clear hnc
                            go_wp2_with fail
                            go_round
                            case rel => exact ⟨k + 1, true, by omega, by go_num, rfl, HS2⟩
                            case measure => simp [intOf]; omega
                          · have HS2 : Hid (partErrs ((lstF n' P).take (k + 1)) (numErrs (verWords s.data.toList) 0) = bndN false) := Lib.hid (by rw [HS.out, decide_eq_false h0]; rfl)
                            clear HS
                            obtain rfl : ek = 0 := by omega
                            go_wp2_with fail
                            refine hdc.mono ?_
                            rintro e w5 ⟨rfl, hw5⟩
                            subst hw5
                            clear hdc
                            go_wp2_with fail
                            refine hnc.mono ?_
                            rintro e w5 ⟨rfl, hw5⟩
                            subst hw5
                            clear hnc
                            go_wp2_with fail
                            go_round
                            case rel => exact ⟨k + 1, false, by omega, by go_num, rfl, HS2⟩
                            case measure => simp [intOf]; omega
            · obtain rfl : k = n' := by omega
              have HS : Hid (verErr s.data.toList = if C = true ∨ 5 < k then 2 else 0) := Lib.hid (by
                have h1 := HC'.out
                rw [lstF_take_all, HP'.out] at h1
                rw [hVE.out, verErrs_bnd h1, ← HP'.out, lstF_length])
              by_cases hbad : C = true ∨ 5 < k
              · have HF : Hid (verErr s.data.toList = 2) := Lib.hid (by rw [HS.out, if_pos hbad])
                clear HS
                cases C with
                | true =>
                  clear hbad
                  obtain ⟨z0, z1, z2, z3, zf⟩ := id hzr
                  have zf0 := zf 0
                  have zf1 := zf 1
                  have zf2 := zf 2
                  have zf3 := zf 3
                  clear zf
                  go_wp2_with fail
                  refine bodyPost_ret (v := .tuple #[.agg #[.int .i64 0, .int .i64 0, .int .i64 0, .slice none 0 0], .int .i64 2]) (by simp [results, Tryz.results97, go_sem, *]) rfl ?_
                  have hne : verErr s.data.toList ≠ 0 := by rw [HF.out]; decide
                  rw [verNum_bad hne, verNum_bad hne, verNum_bad hne, verPre_bad hne, HF.out]
                  exact ⟨⟨_, rfl, StrsAt.nil _⟩, ((((hbw).setCell (Nat.le_refl _) _).setCell (Nat.le_refl _) _).setCell (Nat.le_refl _) _).setCell (Nat.le_refl _) _⟩
                | false =>
                  have h5 : 5 < k := hbad.resolve_left (by decide)
                  clear hbad
                  obtain ⟨z0, z1, z2, z3, zf⟩ := id hzr
                  have zf0 := zf 0
                  have zf1 := zf 1
                  have zf2 := zf 2
                  have zf3 := zf 3
                  clear zf
                  go_wp2_with fail
                  refine bodyPost_ret (v := .tuple #[.agg #[.int .i64 0, .int .i64 0, .int .i64 0, .slice none 0 0], .int .i64 2]) (by simp [results, Tryz.results97, go_sem, *]) rfl ?_
                  have hne : verErr s.data.toList ≠ 0 := by rw [HF.out]; decide
                  rw [verNum_bad hne, verNum_bad hne, verNum_bad hne, verPre_bad hne, HF.out]
                  exact ⟨⟨_, rfl, StrsAt.nil _⟩, ((((hbw).setCell (Nat.le_refl _) _).setCell (Nat.le_refl _) _).setCell (Nat.le_refl _) _).setCell (Nat.le_refl _) _⟩
              · have HF : Hid (verErr s.data.toList = 0) := Lib.hid (by rw [HS.out, if_neg hbad])
                rw [not_or] at hbad
                obtain ⟨hC, h5⟩ := hbad
                obtain rfl : C = false := by simpa using hC
                have hv0 := HF.out
                have hn3 := numAt_three L s.data.toList HL.out hv0
                have HX := Lib.hid (And.intro (verPre_ok hv0) (And.intro (hn3 0 (by decide)) (And.intro (hn3 1 (by decide)) (hn3 2 (by decide)))))
                have p0 := hN.c 0 (by decide)
                have p1 := hN.c 1 (by decide)
                have p2 := hN.c 2 (by decide)
                obtain ⟨z0, z1, z2, z3, zf⟩ := id hzr
                have zf0 := zf 0
                have zf1 := zf 1
                have zf2 := zf 2
                have zf3 := zf 3
                have hne : w.heap.size ≠ w1.heap.size := Nat.ne_of_lt hwz
                have hne' : w1.heap.size ≠ w.heap.size := hne.symm
                have hCO : CellsOver wc w1.heap.size a' k P := HcP.out
                have hCf := fun v0 v1 v2 v3 => ((((hCO.set (Nat.le_of_lt hwz) 0 v0).set (Nat.le_of_lt hwz) 1 v1).set (Nat.le_of_lt hwz) 2 v2).set (Nat.le_of_lt hwz) 3 v3).strs hn' hcap'
                have HCF := Lib.hid hCf
                clear zf hC hv0 hn3 HS hCf hCO
                go_wp2_with fail
                refine bodyPost_ret (v := .tuple #[.agg #[.int .i64 (numAt L 3 0), .int .i64 (numAt L 3 1), .int .i64 (numAt L 3 2), .slice a' k cap'], .int .i64 0]) (by simp [results, Tryz.results97, go_sem, *]) rfl ?_
                obtain ⟨hpre, e0, e1, e2⟩ := HX.out
                rw [hpre, ← e0, ← e1, ← e2, HF.out, ← HP'.out]
                exact ⟨⟨_, rfl, HCF.out _ _ _ _⟩, ((((hbw).setCell (Nat.le_refl _) _).setCell (Nat.le_refl _) _).setCell (Nat.le_refl _) _).setCell (Nat.le_refl _) _⟩

/-- R.VerOf -/
theorem refVerOf_calls (s : ByteArray) (w : World) (hs : s.size ≤ 1000000000) :
    Calls Tryz.prog 97 #[.string s] w fun e w' => (∃ v, e = .returned (.tuple #[.agg #[.int .i64 (verNum s.data.toList 0 : Nat), .int .i64 (verNum s.data.toList 1 : Nat), .int .i64 (verNum s.data.toList 2 : Nat), v], .int .i64 (verErr s.data.toList : Nat)]) ∧ StrsAt w' v (verPre s.data.toList)) ∧ Below w.heap.size w w' := by
  cases hp : hasPrefix s.data.toList [118] with
  | true => exact refVerOf_v s w hs hp
  | false =>
    have h1 : verErr s.data.toList = 1 := by unfold verErr; rw [if_pos (.inl hp)]
    have hne : verErr s.data.toList ≠ 0 := by rw [h1]; decide
    refine (refVerOf_none s w hs hp).mono ?_
    rintro e w' ⟨rfl, hb⟩
    rw [verNum_bad hne, verNum_bad hne, verNum_bad hne, verPre_bad hne, h1]
    exact ⟨⟨_, rfl, StrsAt.nil _⟩, hb⟩
end Go.Proofs.Pw

/- R.suffixOf and R.PathError. Conditions: texts of at most 1000000000 bytes. -/
namespace Go.Proofs.Pw
open Go.RowKit
open Go.Lib hiding intOf

/-- R.suffixOf's answer -/
def refSuf (s : Str) : Int := if looksSuf s then (if isSuf s then (sufNum s : Int) else -1) else 0

theorem looks_short {s : ByteArray} (h : s.size < 2) : looksSuf s.data.toList = false := by
  unfold looksSuf
  cases hp : hasPrefix s.data.toList [118] with
  | false => rfl
  | true =>
    have h0 := trimPrefix_byte s hp
    rw [sufD, h0, Bool.true_and]
    have : s.data.toList.drop 1 = [] := List.drop_eq_nil_of_le (by rw [← size_eq]; omega)
    rw [this]; rfl
theorem looks_byte {s : ByteArray} (h : 0 < s.size) (hb : s[0] ≠ 118) : looksSuf s.data.toList = false := by
  unfold looksSuf
  rw [hasPrefix_byte s h, decide_eq_false hb, Bool.false_and]
theorem looks_is {s : ByteArray} (h : 0 < s.size) (hb : s[0] = 118) : looksSuf s.data.toList = areDigits (s.extract 1 s.size).data.toList ∧ sufD s.data.toList = (s.extract 1 s.size).data.toList := by
  have hp : hasPrefix s.data.toList [118] = true := by rw [hasPrefix_byte s h, decide_eq_true hb]
  have h0 := trimPrefix_byte s hp
  unfold looksSuf
  rw [sufD, h0, hp, Bool.true_and, extract_to_end]
  exact ⟨rfl, rfl⟩

set_option maxHeartbeats 400000 in
theorem refSuffix_calls (s : ByteArray) (w : World) (hs : s.size ≤ 1000000000) :
    Calls Tryz.prog 129 #[.string s] w fun e w' => e = .returned (.int .i64 (refSuf s.data.toList)) ∧ w = w' := by
  by_cases h2 : s.size < 2
  · have HF : Hid (refSuf s.data.toList = 0) := Lib.hid (by unfold refSuf; rw [looks_short h2]; rfl)
    go_enter Tryz.func129, Tryz.ntmps129
    go_wp2_with fail
    go_ret
    rw [HF.out]
    exact ⟨rfl, rfl⟩
  · have h0 : 0 < s.size := by omega
    by_cases hb : s[0] = 118
    · have hb' : (s[0].toNat : Int) = 118 := by rw [hb]; rfl
      obtain ⟨hl, hd⟩ := looks_is h0 hb
      have hx : (s.extract 1 s.size).size ≤ 4000000000 := Nat.le_trans (extract_size_le s _ _) (by omega)
      have hR : refSuf s.data.toList = if areDigits (s.extract 1 s.size).data.toList then (if (numberOf (s.extract 1 s.size).data.toList).2 = 0 ∧ 2 ≤ (numberOf (s.extract 1 s.size).data.toList).1 then ((numberOf (s.extract 1 s.size).data.toList).1 : Int) else -1) else 0 := by
        unfold refSuf isSuf sufNum
        rw [hl, hd]
        cases areDigits (s.extract 1 s.size).data.toList with
        | false => rfl
        | true => simp only [Bool.true_and, decide_eq_true_eq, if_true]
      have HR := Lib.hid hR
      have hda := refDigits_calls (s.extract 1 s.size) w hx
      have hnu := refNumber_calls (s.extract 1 s.size) w hx
      clear hl hd hR hb
      generalize areDigits (s.extract 1 s.size).data.toList = D at HR hda
      generalize (numberOf (s.extract 1 s.size).data.toList).2 = E at HR hnu
      generalize (numberOf (s.extract 1 s.size).data.toList).1 = M at HR hnu
      cases D with
      | false =>
        go_enter Tryz.func129, Tryz.ntmps129
        go_wp2_with fail
        refine hda.mono ?_
        rintro e w' ⟨rfl, rfl⟩
        go_wp2_with fail
        go_ret
        rw [HR.out]
        exact ⟨rfl, rfl⟩
      | true =>
        by_cases hE : 0 < E
        · have hE' : (0 : Int) < (E : Int) := by omega
          have HF : Hid (refSuf s.data.toList = -1) := Lib.hid (by rw [HR.out, if_pos rfl, if_neg (by omega)])
          go_enter Tryz.func129, Tryz.ntmps129
          go_wp2_with fail
          refine hda.mono ?_
          rintro e w' ⟨rfl, rfl⟩
          go_wp2_with fail
          refine hnu.mono ?_
          rintro e w' ⟨rfl, rfl⟩
          go_wp2_with fail
          go_ret
          rw [HF.out]
          exact ⟨rfl, rfl⟩
        · obtain rfl : E = 0 := by omega
          by_cases hM : M < 2
          · have hM' : (M : Int) < 2 := by omega
            have HF : Hid (refSuf s.data.toList = -1) := Lib.hid (by rw [HR.out, if_pos rfl, if_neg (by omega)])
            go_enter Tryz.func129, Tryz.ntmps129
            go_wp2_with fail
            refine hda.mono ?_
            rintro e w' ⟨rfl, rfl⟩
            go_wp2_with fail
            refine hnu.mono ?_
            rintro e w' ⟨rfl, rfl⟩
            go_wp2_with fail
            go_ret
            rw [HF.out]
            exact ⟨rfl, rfl⟩
          · have hM' : ¬ (M : Int) < 2 := by omega
            have HF : Hid (refSuf s.data.toList = M) := Lib.hid (by rw [HR.out, if_pos rfl, if_pos (by omega)])
            go_enter Tryz.func129, Tryz.ntmps129
            go_wp2_with fail
            refine hda.mono ?_
            rintro e w' ⟨rfl, rfl⟩
            go_wp2_with fail
            refine hnu.mono ?_
            rintro e w' ⟨rfl, rfl⟩
            go_wp2_with fail
            go_ret
            rw [HF.out]
            exact ⟨rfl, rfl⟩
    · have HF : Hid (refSuf s.data.toList = 0) := Lib.hid (by unfold refSuf; rw [looks_byte h0 hb]; rfl)
      have hb' : ((s[0].toNat : Int) == 118) = false := byte_ne_int (c := 118) rfl hb
      clear hb
      go_enter Tryz.func129, Tryz.ntmps129
      go_wp2_with fail
      go_ret
      rw [HF.out]
      exact ⟨rfl, rfl⟩

/-! ### elements, byte by byte -/
theorem isElemByte_iff (c : UInt8) : isElemByte c = true ↔ (97 ≤ (c.toNat : Int) ∧ (c.toNat : Int) ≤ 122) ∨ (48 ≤ (c.toNat : Int) ∧ (c.toNat : Int) ≤ 57) ∨ (c.toNat : Int) = 46 ∨ (c.toNat : Int) = 45 ∨ (c.toNat : Int) = 95 := by
  unfold isElemByte isDig
  have e : ∀ d : UInt8, (c == d) = decide (c.toNat = d.toNat) := fun d => by
    rw [Bool.eq_iff_iff, beq_iff_eq, decide_eq_true_eq]
    exact ⟨fun h => by rw [h], fun h => UInt8.toNat_inj.1 h⟩
  rw [e, e, e]
  simp only [Bool.or_eq_true, decide_eq_true_eq, show (46 : UInt8).toNat = 46 from rfl, show (45 : UInt8).toNat = 45 from rfl, show (95 : UInt8).toNat = 95 from rfl]
  omega
theorem elem_classes (c : Int) :
    ((97 ≤ c ∧ c ≤ 122 ∧ 48 ≤ c ∧ ¬ c ≤ 57 ∧ (c == 46) = false) ∨ (¬ 97 ≤ c ∧ c ≤ 122 ∧ 48 ≤ c ∧ c ≤ 57 ∧ (c == 46) = false) ∨ c = 45 ∨ c = 95 ∨ c = 46) ∨
    (((c == 46) = false ∧ (c == 45) = false ∧ (c == 95) = false) ∧ ¬ ((97 ≤ c ∧ c ≤ 122) ∨ (48 ≤ c ∧ c ≤ 57)) ∧
      ((¬ 97 ≤ c ∧ c ≤ 122 ∧ ¬ 48 ≤ c ∧ c ≤ 57) ∨ (¬ 97 ≤ c ∧ c ≤ 122 ∧ 48 ≤ c ∧ ¬ c ≤ 57) ∨ (97 ≤ c ∧ ¬ c ≤ 122 ∧ 48 ≤ c ∧ ¬ c ≤ 57))) := by
  have e : ∀ d : Int, (c == d) = false ↔ c ≠ d := fun d => beq_eq_false_iff_ne
  simp only [e]
  omega
theorem elem_byte {s : ByteArray} {k : Nat} (h : k < s.size) (hb : isElemByte s[k] = false) : elemOk s.data.toList = false := by
  have : s.data.toList.all isElemByte = false := by
    rw [Bool.eq_false_iff]
    intro e
    have := List.all_eq_true.1 e _ (byte_mem s k h)
    rw [hb] at this
    cases this
  unfold elemOk
  rw [this]
  simp
theorem occ_dots {s : ByteArray} {k : Nat} : occAt s.data.toList dots k = true ↔ (s.extract k (k + 3)).data.toList = dots := by
  unfold occAt
  have e : (s.extract k (k + 3)).data.toList = (s.data.toList.drop k).take 3 := by rw [extract_data, Nat.add_sub_cancel_left]
  rw [List.isPrefixOf_iff_prefix, e]
  constructor
  · rintro ⟨t, ht⟩
    rw [← ht]; rfl
  · intro h
    exact ⟨(s.data.toList.drop k).drop 3, by rw [← h]; exact List.take_append_drop 3 _⟩
theorem elem_occ {s : ByteArray} {k : Nat} (hk : k ≤ s.size) (h : occAt s.data.toList dots k = true) : elemOk s.data.toList = false := by
  have : contains s.data.toList dots = true := by
    unfold contains
    apply decide_eq_true
    rcases index_spec s.data.toList dots with ⟨_, h2⟩ | ⟨i, h1, _⟩
    · have := h2 k (by rw [← size_eq]; exact hk)
      rw [h] at this; cases this
    · omega
  unfold elemOk
  rw [this]
  simp
theorem elem_dot {s : Str} (h : s.all (· == 46) = true) : elemOk s = false := by unfold elemOk; rw [h]; simp
theorem elem_yes {s : Str} (h1 : s.all isElemByte = true) (h2 : s.all (· == 46) = false) (h3 : NoOcc s dots (s.length - 2)) : elemOk s = true := by
  have hc : contains s dots = false := by
    unfold contains
    apply decide_eq_false
    rw [index_past (by decide) h3 (by show s.length < s.length - 2 + 3; omega)]
    decide
  have he : s.isEmpty = false := by cases s with | nil => cases h2 | cons => rfl
  unfold elemOk
  rw [he, h1, h2, hc]
  rfl
theorem noOcc_step {s : ByteArray} {m : Nat} (h : NoOcc s.data.toList dots (m - 2)) (hno : 2 ≤ m → occAt s.data.toList dots (m - 2) = false) : NoOcc s.data.toList dots (m + 1 - 2) := by
  intro j hj
  by_cases e : j = m - 2
  · subst e
    exact hno (by omega)
  · exact h j (by omega)
end Go.Proofs.Pw

/- R.PathError. Condition: a text of at most 1000000000 bytes. -/
namespace Go.Proofs.Pw
open Go.RowKit
open Go.Lib hiding intOf

theorem pathErr_elem {s x : Str} (hm : x ∈ split s [47]) (h : elemOk x = false) : pathErr s = 1 := by
  unfold pathErr
  simp only
  rw [if_pos (List.any_eq_true.2 ⟨x, hm, by rw [h]; rfl⟩)]
theorem pathErr_all {s : Str} (h : (split s [47]).all elemOk = true) : (split s [47]).any (fun w => !elemOk w) = false := by
  rw [Bool.eq_false_iff]
  intro e
  obtain ⟨x, hx, h2⟩ := List.any_eq_true.1 e
  rw [List.all_eq_true.1 h x hx] at h2
  cases h2
theorem pathErr_bound {s : Str} (h : (split s [47]).all elemOk = true) (hb : 5 < (split s [47]).length ∨ (split s [47]).any (fun w => decide (10 < w.length)) = true) : pathErr s = 2 := by
  unfold pathErr
  simp only
  rw [if_neg (by rw [pathErr_all h]; simp), if_pos hb]
theorem pathErr_rest {s : Str} (h : (split s [47]).all elemOk = true) (hb : ¬ (5 < (split s [47]).length ∨ (split s [47]).any (fun w => decide (10 < w.length)) = true)) :
    pathErr s = if 1 < (split s [47]).length ∧ sufWell ((split s [47]).getLast?.getD []) = false then 4 else 0 := by
  unfold pathErr
  simp only
  rw [if_neg (by rw [pathErr_all h]; simp), if_neg hb]
theorem refSuf_neg (x : Str) : refSuf x < 0 ↔ sufWell x = false := by
  unfold refSuf sufWell
  cases looksSuf x with
  | false => simp
  | true =>
    cases isSuf x with
    | true => simp
    | false => simp
theorem long_eq {n : Nat} {B : Bool} : (decide ((5 : Int) < (n : Int)) || B) = true ↔ (5 < n ∨ B = true) := by
  rw [Bool.or_eq_true, decide_eq_true_eq]
  have : (5 : Int) < (n : Int) ↔ 5 < n := by omega
  rw [this]

theorem refCut_slash (s : ByteArray) (w : World) (hs : s.size ≤ 1000000000) :
    Calls Tryz.prog 78 #[.string s, .int .u8 47] w fun e w' => (∃ v, e = .returned v ∧ StrsAt w' v (split s.data.toList [47]) ∧ NewRow w v) ∧ Below w.heap.size w w' := refCut_calls s 47 w hs

set_option maxHeartbeats 2000000 in
set_option maxRecDepth 100000 in
theorem refPath_calls (s : ByteArray) (w : World) (hs : s.size ≤ 1000000000) :
    Calls Tryz.prog 68 #[.string s] w fun e w' => e = .returned (.int .i64 (pathErr s.data.toList : Nat)) ∧ Below w.heap.size w w' := by
  go_enter Tryz.func68, Tryz.ntmps68
  go_wp2_with fail
  refine (refCut_slash s w hs).mono ?_
  rintro e w1 ⟨⟨v, rfl, hS, _⟩, hb1⟩
  obtain ⟨a, n, cap, L, rfl, hl, hn, hcap, hc⟩ := hS
  have hLs := lstF_mem_le (by decide) hl.symm
  have hs' : s.data.toList.length ≤ 1000000000 := by rw [← size_eq]; exact hs
  have hLs9 : ∀ j, j < n → (L j).size ≤ 1000000000 := fun j hj => Nat.le_trans (hLs j hj) hs'
  have hn1 : 1 ≤ n := by
    rcases Nat.eq_zero_or_pos n with rfl | h
    · exact absurd hl (split_ne 47 s.data.toList)
    · exact h
  have hn9 : n ≤ 1000000001 := by
    have h5 := congrArg List.length hl
    rw [lstF_length] at h5
    have := split_len 47 s.data.toList
    omega
  have HL : Hid (split s.data.toList [47] = lstF n L) := Lib.hid hl
  have HC := Lib.hid hc
  clear hl hc hLs hs'
  go_wp2_with fail
  go_loop [4, 5] (fun b i => ∃ (k : Nat) (C : Bool), k ≤ n ∧ i = .int .i64 k ∧ b = .bool C ∧ Hid ((decide ((5 : Int) < (n : Int)) || ((lstF n L).take k).any (fun w => decide (10 < w.length))) = C) ∧ Hid (((lstF n L).take k).all elemOk = true)) (fun _ i => n - (intOf i).toNat)
  case atStart => exact ⟨0, _, Nat.zero_le _, rfl, rfl, Lib.hid (by simp), Lib.hid rfl⟩
  case round =>
    obtain ⟨k, C, hk, rfl, rfl, HB, HA⟩ := hrel
    by_cases hlt : k < n
    · obtain ⟨b1, o1, rfl, hck⟩ := HC.out k hlt
      have hmem : (L k).data.toList ∈ split s.data.toList [47] := by rw [HL.out]; exact List.mem_of_getElem? (lstF_get n L k hlt)
      have HM := Lib.hid hmem
      have hp9 := hLs9 k hlt
      have HT : Hid ((lstF n L).take (k + 1) = (lstF n L).take k ++ [(L k).data.toList]) := Lib.hid (lstF_take_succ n L k hlt)
      clear hmem
      generalize L k = p at hck HM hp9 HT
      go_upto_block 2 with fail
      go_cut [6, 7, 8, 9, 10] from 22 to 83 (fun d _ _ _ _ wx => ∃ D : Bool, d = .bool D ∧ wx = w1 ∧ Hid (p.data.toList.all (· == 46) = D) ∧ Hid (p.data.toList.all isElemByte = true) ∧ Hid (NoOcc p.data.toList dots (p.size - 2)))
      case first =>
        go_wp2_with fail
        go_loop [6, 7, 8, 9, 10] (fun d i _ _ _ => ∃ (m : Nat) (D : Bool), m ≤ p.size ∧ i = .int .i64 m ∧ d = .bool D ∧ Hid ((p.data.toList.take m).all (· == 46) = D) ∧ Hid ((p.data.toList.take m).all isElemByte = true) ∧ Hid (NoOcc p.data.toList dots (m - 2))) (fun _ i _ _ _ => p.size - (intOf i).toNat)
        case atStart => exact ⟨0, true, Nat.zero_le _, rfl, rfl, Lib.hid rfl, Lib.hid rfl, Lib.hid (NoOcc.zero _ _)⟩
        case round =>
          obtain ⟨m, D, hm, rfl, rfl, HD, HE, HO⟩ := hrel
          by_cases hml : m < p.size
          · have hip := isElemByte_iff p[m]
            rcases elem_classes (p[m].toNat : Int) with h | h
            · have hyes : isElemByte p[m] = true := hip.2 (by omega)
              have HN : Hid ((p.data.toList.take (m + 1)).all isElemByte = true) := Lib.hid (by rw [take_snoc p m hml, List.all_append, HE.out]; simp [hyes])
              have HDn : Hid ((p.data.toList.take (m + 1)).all (· == 46) = (D && p[m] == 46)) := Lib.hid (by rw [take_snoc p m hml, List.all_append, HD.out]; simp)
              clear hip hyes
              by_cases h2 : m < 2
              · have HOn : Hid (NoOcc p.data.toList dots (m + 1 - 2)) := Lib.hid (noOcc_step HO.out (fun h => by omega))
                have h2' : ¬ (2 : Int) ≤ (m : Int) := by omega
                have HDa : Hid ((p[m].toNat : Int) = 46 → (p.data.toList.take (m + 1)).all (· == 46) = D) := Lib.hid (fun e => by rw [HDn.out, show p[m] = 46 from UInt8.toNat_inj.1 (by exact_mod_cast e)]; simp)
                have HDb : Hid ((p[m].toNat : Int) ≠ 46 → (p.data.toList.take (m + 1)).all (· == 46) = false) := Lib.hid (fun e => by rw [HDn.out, Bool.and_eq_false_iff]; right; exact beq_eq_false_iff_ne.2 (fun h => e (by rw [h]; rfl)))
                clear HDn
                cases D
                all_goals rcases h with ⟨c1, c2, c3, c4, c5⟩ | ⟨c1, c2, c3, c4, c5⟩ | h | h | h
                all_goals
                  go_wp2_with fail
                  go_round
                  case rel => exact ⟨m + 1, _, by omega, by go_num, rfl, Lib.hid (by first | exact HDa.out h | exact HDb.out (beq_eq_false_iff_ne.1 c5) | exact HDb.out (by omega)), HN, HOn⟩
                  case measure => simp [intOf]; omega
              · obtain ⟨m', rfl⟩ : ∃ m', m = m' + 2 := ⟨m - 2, by omega⟩
                have h2' : (2 : Int) ≤ ((m' + 2 : Nat) : Int) := by omega
                by_cases ho : (p.extract m' (m' + 3)).data.toList = dots
                · have HF : Hid (pathErr s.data.toList = 1) := Lib.hid (pathErr_elem HM.out (elem_occ (k := m') (by omega) (occ_dots.2 ho)))
                  have ho1 : p.extract m' (m' + 3) = ⟨#[46, 46, 46]⟩ := bytes_ext.1 ho
                  clear ho
                  cases D
                  all_goals rcases h with ⟨c1, c2, c3, c4, c5⟩ | ⟨c1, c2, c3, c4, c5⟩ | h | h | h
                  all_goals
                    go_wp2_with fail
                    go_ret
                    rw [HF.out]
                    exact ⟨rfl, hb1⟩
                · have HOn : Hid (NoOcc p.data.toList dots (m' + 2 + 1 - 2)) := Lib.hid (noOcc_step HO.out (fun _ => by
                    rw [Bool.eq_false_iff]; intro e; exact ho (occ_dots.1 e)))
                  have ho1 : p.extract m' (m' + 3) ≠ ⟨#[46, 46, 46]⟩ := fun e => ho (by rw [e]; rfl)
                  have ho2 : ((p.extract m' (m' + 3)).toList == [46, 46, 46]) = false := by rw [toList_data]; exact beq_eq_false_iff_ne.2 ho
                  clear ho
                  have HDa : Hid ((p[m' + 2].toNat : Int) = 46 → (p.data.toList.take (m' + 2 + 1)).all (· == 46) = D) := Lib.hid (fun e => by rw [HDn.out, show p[m' + 2] = 46 from UInt8.toNat_inj.1 (by exact_mod_cast e)]; simp)
                  have HDb : Hid ((p[m' + 2].toNat : Int) ≠ 46 → (p.data.toList.take (m' + 2 + 1)).all (· == 46) = false) := Lib.hid (fun e => by rw [HDn.out, Bool.and_eq_false_iff]; right; exact beq_eq_false_iff_ne.2 (fun h => e (by rw [h]; rfl)))
                  clear HDn
                  cases D
                  all_goals rcases h with ⟨c1, c2, c3, c4, c5⟩ | ⟨c1, c2, c3, c4, c5⟩ | h | h | h
                  all_goals
                    go_wp2_with fail
                    go_round
                    case rel => exact ⟨m' + 2 + 1, _, by omega, by go_num, rfl, Lib.hid (by first | exact HDa.out h | exact HDb.out (beq_eq_false_iff_ne.1 c5) | exact HDb.out (by omega)), HN, HOn⟩
                    case measure => simp [intOf]; omega
            · obtain ⟨⟨hd46, hd45, hd95⟩, hno, h⟩ := h
              have hnot : isElemByte p[m] = false := by
                rw [Bool.eq_false_iff]
                intro e
                have := hip.1 e
                have n46 : (p[m].toNat : Int) ≠ 46 := beq_eq_false_iff_ne.1 hd46
                have n45 : (p[m].toNat : Int) ≠ 45 := beq_eq_false_iff_ne.1 hd45
                have n95 : (p[m].toNat : Int) ≠ 95 := beq_eq_false_iff_ne.1 hd95
                omega
              have HF : Hid (pathErr s.data.toList = 1) := Lib.hid (pathErr_elem HM.out (elem_byte hml hnot))
              have hn46 : ((p[m].toNat : Int) != 46) = true := by unfold bne; rw [hd46]; rfl
              have hn45 : ((p[m].toNat : Int) != 45) = true := by unfold bne; rw [hd45]; rfl
              have hn95 : ((p[m].toNat : Int) != 95) = true := by unfold bne; rw [hd95]; rfl
              clear hip hnot hno
              rcases h with ⟨h1, h2, h3, h4⟩ | ⟨h1, h2, h3, h4⟩ | ⟨h1, h2, h3, h4⟩
              all_goals
                go_wp2_with fail
                go_ret
                rw [HF.out]
                exact ⟨rfl, hb1⟩
          · obtain rfl : m = p.size := by omega
            have HD2 : Hid (p.data.toList.all (· == 46) = D) := Lib.hid (by rw [← HD.out, take_size])
            have HE2 : Hid (p.data.toList.all isElemByte = true) := Lib.hid (by rw [← HE.out, take_size])
            go_wp2_with fail
            go_meet
            exact ⟨D, rfl, rfl, HD2, HE2, HO⟩
      case rest =>
        obtain ⟨D, rfl, rfl, HD, HE, HO⟩ := hcut
        cases D with
        | true =>
          have HF : Hid (pathErr s.data.toList = 1) := Lib.hid (pathErr_elem HM.out (elem_dot HD.out))
          go_wp2_with fail
          go_ret
          rw [HF.out]
          exact ⟨rfl, hb1⟩
        | false =>
          have HN : Hid (((lstF n L).take (k + 1)).all elemOk = true) := Lib.hid (by rw [HT.out, List.all_append, HA.out]; simp [elem_yes HE.out HD.out (by rw [← size_eq]; exact HO.out)])
          have HBn : Hid ((decide ((5 : Int) < (n : Int)) || ((lstF n L).take (k + 1)).any (fun w => decide (10 < w.length))) = (C || decide (10 < p.size))) := Lib.hid (by rw [HT.out, List.any_append, ← Bool.or_assoc, HB.out, size_eq]; simp)
          have HT2 : Hid (10 < p.size → (C || decide (10 < p.size)) = true) := Lib.hid (fun h => by simp [h])
          have HF2 : Hid (¬ 10 < p.size → (C || decide (10 < p.size)) = C) := Lib.hid (fun h => by simp [h])
          by_cases h10 : 10 < p.size
          · have h10' : (10 : Int) < (p.size : Int) := by omega
            rw [HT2.out h10] at HBn
            clear HT2 HF2
            cases C
            all_goals
              go_wp2_with fail
              go_round
              case rel => exact ⟨k + 1, true, by omega, by go_num, rfl, HBn, HN⟩
              case measure => simp [intOf]; omega
          · have h10' : ¬ (10 : Int) < (p.size : Int) := by omega
            rw [HF2.out h10] at HBn
            clear HT2 HF2
            cases C
            all_goals
              go_wp2_with fail
              go_round
              case rel => exact ⟨k + 1, _, by omega, by go_num, rfl, HBn, HN⟩
              case measure => simp [intOf]; omega
    · obtain rfl : k = n := by omega
      have HAll : Hid ((split s.data.toList [47]).all elemOk = true) := Lib.hid (by rw [HL.out, ← HA.out, lstF_take_all])
      have HLen : Hid ((split s.data.toList [47]).length = k) := Lib.hid (by rw [HL.out, lstF_length])
      have HBo : Hid ((5 < (split s.data.toList [47]).length ∨ (split s.data.toList [47]).any (fun w => decide (10 < w.length)) = true) ↔ C = true) := Lib.hid (by
        rw [HLen.out, ← long_eq, ← HB.out, lstF_take_all, HL.out])
      cases C with
      | true =>
        have HF : Hid (pathErr s.data.toList = 2) := Lib.hid (pathErr_bound HAll.out (HBo.out.2 rfl))
        go_wp2_with fail
        go_ret
        rw [HF.out]
        exact ⟨rfl, hb1⟩
      | false =>
        have HR : Hid (pathErr s.data.toList = if 1 < k ∧ sufWell ((L (k - 1)).data.toList) = false then 4 else 0) := Lib.hid (by
          rw [pathErr_rest HAll.out (fun h => by cases HBo.out.1 h), HLen.out, HL.out, getLast_lstF k L hn1])
        by_cases h1 : 1 < k
        · have h1' : (1 : Int) < (k : Int) := by omega
          obtain ⟨b1, o1, rfl, hck⟩ := HC.out (k - 1) (by omega)
          have hi : ((k : Int) - 1).toNat = k - 1 := by omega
          have hp9 := hLs9 (k - 1) (by omega)
          have hsu := refSuffix_calls (L (k - 1)) w1 hp9
          have hneg := refSuf_neg (L (k - 1)).data.toList
          generalize L (k - 1) = p at hck HR hsu hneg
          generalize refSuf p.data.toList = z at hsu hneg
          obtain ⟨k', rfl⟩ : ∃ k', k = k' + 1 := ⟨k - 1, by omega⟩
          simp only [Nat.add_sub_cancel] at hck
          have hk' : ((k' + 1 : Nat) : Int) - 1 = (k' : Int) := by omega
          have hk0 : (0 : Int) ≤ (k' : Int) := by omega
          clear hi
          by_cases hz : z < 0
          · have HF : Hid (pathErr s.data.toList = 4) := Lib.hid (by rw [HR.out, if_pos ⟨h1, hneg.1 hz⟩])
            clear hneg
            go_wp2_with fail
            refine hsu.mono ?_
            rintro e w' ⟨rfl, rfl⟩
            go_wp2_with fail
            go_ret
            rw [HF.out]
            exact ⟨rfl, hb1⟩
          · have HF : Hid (pathErr s.data.toList = 0) := Lib.hid (by rw [HR.out, if_neg (fun h => hz (hneg.2 h.2))])
            clear hneg
            go_wp2_with fail
            refine hsu.mono ?_
            rintro e w' ⟨rfl, rfl⟩
            go_wp2_with fail
            go_ret
            rw [HF.out]
            exact ⟨rfl, hb1⟩
        · have HF : Hid (pathErr s.data.toList = 0) := Lib.hid (by rw [HR.out, if_neg (fun h => h1 h.1)])
          have h1' : ¬ (1 : Int) < (k : Int) := by omega
          go_wp2_with fail
          go_ret
          rw [HF.out]
          exact ⟨rfl, hb1⟩
end Go.Proofs.Pw

/- The references' order of versions: sign, orderPart, OrderVer, IsVer, IsLess, MaxOf. -/
namespace Go.Proofs.Pw
open Go.RowKit
open Go.Lib hiding intOf

/-! ### the plain side -/
def sgnB (x y : Bool) : Int := if x then -1 else if y then 1 else 0
theorem sgnB_int (a b : Int) : sgnB (decide (a < b)) (decide (b < a)) = sgn (a - b) := by
  unfold sgnB sgn
  by_cases h : a < b
  · simp [h]; omega
  · by_cases h2 : b < a
    · simp [h, h2]; omega
    · simp [h, h2]; omega
theorem sgnB_bytes (a b : Str) : sgnB (Op.bytesLess a b) (!Op.bytesLess a b && !(a == b)) = sgn (compareBytes a b) := by
  rw [bytesLess_iff]
  unfold sgnB sgn
  by_cases h : compareBytes a b < 0
  · simp [h]
  · by_cases h2 : 0 < compareBytes a b
    · have : ¬ a = b := fun e => by subst e; rw [compareBytes_ord.self] at h2; omega
      simp [h, h2, this]
    · have : a = b := compareBytes_zero (by omega)
      subst this
      simp [compareBytes_ord.self]
theorem sgn_zero' : sgn 0 = 0 := rfl

/-- R.sign -/
theorem sign_calls (x y : Bool) (w : World) :
    Calls Tryz.prog 216 #[.bool x, .bool y] w fun e w' => e = .returned (.int .i64 (sgnB x y)) ∧ w' = w := by
  cases x with
  | true =>
    go_enter Tryz.func216, Tryz.ntmps216
    go_wp2_with fail
    go_ret
    exact ⟨rfl, rfl⟩
  | false =>
    cases y with
    | true =>
      go_enter Tryz.func216, Tryz.ntmps216
      go_wp2_with fail
      go_ret
      exact ⟨rfl, rfl⟩
    | false =>
      go_enter Tryz.func216, Tryz.ntmps216
      go_wp2_with fail
      go_ret
      exact ⟨rfl, rfl⟩

/-- R.orderPart -/
theorem orderPart_calls (a b : ByteArray) (w : World) (ha : a.size ≤ 4000000000) (hb : b.size ≤ 4000000000) :
    Calls Tryz.prog 217 #[.string a, .string b] w fun e w' => e = .returned (.int .i64 (ordPart a.data.toList b.data.toList)) ∧ w' = w := by
  have hm : ordPart a.data.toList b.data.toList = if areDigits a.data.toList && areDigits b.data.toList then sgnB (decide (((numberOf a.data.toList).1 : Int) < (numberOf b.data.toList).1)) (decide (((numberOf b.data.toList).1 : Int) < (numberOf a.data.toList).1)) else if areDigits a.data.toList || areDigits b.data.toList then sgnB (areDigits a.data.toList) (areDigits b.data.toList) else sgnB (Op.bytesLess a.toList b.toList) (!Op.bytesLess a.toList b.toList && !(a.toList == b.toList)) := by
    rw [toList_data, toList_data, sgnB_bytes, sgnB_int]
    unfold ordPart
    cases areDigits a.data.toList <;> cases areDigits b.data.toList <;> rfl
  generalize ordPart a.data.toList b.data.toList = R at hm ⊢
  have h1 := fun W => refDigits_calls a W ha
  have h2 := fun W => refDigits_calls b W hb
  have h3 := fun W => refNumber_calls a W ha
  have h4 := fun W => refNumber_calls b W hb
  generalize areDigits a.data.toList = x at h1 hm
  generalize areDigits b.data.toList = y at h2 hm
  generalize (numberOf a.data.toList).1 = m at h3 hm
  generalize (numberOf b.data.toList).1 = n at h4 hm
  have HM := Lib.hid hm
  have H1 := Lib.hid h1
  have H2 := Lib.hid h2
  have H3 := Lib.hid h3
  have H4 := Lib.hid h4
  clear hm h1 h2 h3 h4
  go_enter Tryz.func217, Tryz.ntmps217
  go_wp2_with fail
  refine (H1.out w).mono ?_
  rintro e w1 ⟨rfl, rfl⟩
  go_wp2_with fail
  refine (H2.out w).mono ?_
  rintro e w1 ⟨rfl, rfl⟩
  cases x <;> cases y
  case false.false =>
    go_wp2_with fail
    refine (sign_calls _ _ w).mono ?_
    rintro e w1 ⟨rfl, rfl⟩
    go_wp2_with fail
    go_ret
    rw [HM.out]
    exact ⟨by simp, rfl⟩
  case true.true =>
    go_wp2_with fail
    refine (H3.out w).mono ?_
    rintro e w1 ⟨rfl, rfl⟩
    go_wp2_with fail
    refine (H4.out w).mono ?_
    rintro e w1 ⟨rfl, rfl⟩
    go_wp2_with fail
    refine (sign_calls _ _ w).mono ?_
    rintro e w1 ⟨rfl, rfl⟩
    go_wp2_with fail
    go_ret
    rw [HM.out]
    exact ⟨by simp, rfl⟩
  all_goals
    go_wp2_with fail
    refine (sign_calls _ _ w).mono ?_
    rintro e w1 ⟨rfl, rfl⟩
    go_wp2_with fail
    go_ret
    rw [HM.out]
    exact ⟨rfl, rfl⟩

theorem verNums_at {a b : Str} {k : Nat} (hk : k < 3) (h0 : ∀ j, j < k → verNum a j = verNum b j) (hne : verNum a k ≠ verNum b k) : verNums a b = (verNum a k : Int) - verNum b k := by
  unfold verNums orI
  obtain rfl | rfl | rfl : k = 0 ∨ k = 1 ∨ k = 2 := by omega
  · rw [if_neg (by omega)]
  · have := h0 0 (by omega)
    rw [if_pos (by omega), if_neg (by omega)]
  · have := h0 0 (by omega)
    have := h0 1 (by omega)
    rw [if_pos (by omega), if_pos (by omega)]
theorem verNums_same {a b : Str} (h0 : ∀ j, j < 3 → verNum a j = verNum b j) : verNums a b = 0 := by
  have := h0 0 (by omega)
  have := h0 1 (by omega)
  have := h0 2 (by omega)
  unfold verNums orI
  rw [if_pos (by omega), if_pos (by omega)]
  omega
theorem sgn_verKey {a b : Str} : sgn (verKey a b) = sgn (verCmp a b) := by
  have := verCmp_sign a b
  have h3 := verKey_ord.anti a b
  unfold sgn
  split <;> split <;> (try split) <;> (try split) <;> omega
theorem verKey_nums {a b : Str} (h : verNums a b ≠ 0) : verKey a b = verNums a b := by unfold verKey orI; rw [if_neg h]
theorem verKey_pre {a b : Str} (h : verNums a b = 0) : verKey a b = orI (preEnd a - preEnd b) (cmpList (verPre a) (verPre b)) := by unfold verKey; rw [h]; rfl

theorem sgnB_ne {x y : Nat} (h : x ≠ y) : sgnB (decide ((x : Int) < y)) true = sgn ((x : Int) - y) := by
  by_cases h1 : x < y
  · rw [sgn_neg (by omega)]
    simp [sgnB, h1]
  · rw [sgn_pos (by omega)]
    simp [sgnB, h1]
theorem ordEnd {a b : Str} {n1 n2 : Nat} {L1 L2 : Nat → ByteArray} (h : verNums a b = 0) (h1 : verPre a = lstF n1 L1) (h2 : verPre b = lstF n2 L2) :
    (n1 = 0 ∨ n2 = 0 → sgn (verKey a b) = sgnB (decide ((0 : Int) < n1)) (decide ((0 : Int) < n2))) ∧ (n1 ≠ 0 → n2 ≠ 0 → sgn (verKey a b) = sgn (cmpList (lstF n1 L1) (lstF n2 L2))) := by
  rw [verKey_pre h]
  unfold preEnd
  rw [h1, h2, lstF_length, lstF_length]
  refine ⟨fun h0 => ?_, fun q1 q2 => ?_⟩
  · by_cases q1 : n1 = 0
    · subst q1
      by_cases q2 : n2 = 0
      · subst q2; rfl
      · have hd : decide ((0 : Int) < n2) = true := decide_eq_true (by omega)
        rw [hd, if_pos rfl, if_neg q2]; rfl
    · obtain rfl : n2 = 0 := by omega
      have hd : decide ((0 : Int) < n1) = true := decide_eq_true (by omega)
      rw [hd, if_neg q1, if_pos rfl]; rfl
  · rw [if_neg q1, if_neg q2]; rfl
theorem cmpList_end1 {n m : Nat} {L M : Nat → ByteArray} {k : Nat} (h : k = n) (hm : k ≤ m) : sgn (cmpList ((lstF n L).drop k) ((lstF m M).drop k)) = sgnB (decide ((n : Int) < m)) (decide ((m : Int) < n)) := by
  subst h
  rw [List.drop_of_length_le (l := lstF k L) (by rw [lstF_length]; exact Nat.le_refl _)]
  by_cases h2 : k < m
  · rw [List.drop_eq_getElem_cons (by rw [lstF_length]; exact h2), decide_eq_true (show (k : Int) < m by omega)]; rfl
  · rw [List.drop_of_length_le (by rw [lstF_length]; omega), decide_eq_false (show ¬ (k : Int) < m by omega), decide_eq_false (show ¬ (m : Int) < k by omega)]; rfl
theorem cmpList_end2 {n m : Nat} {L M : Nat → ByteArray} {k : Nat} (h : k = m) (hm : k < n) : sgn (cmpList ((lstF n L).drop k) ((lstF m M).drop k)) = sgnB (decide ((n : Int) < m)) (decide ((m : Int) < n)) := by
  subst h
  rw [List.drop_of_length_le (l := lstF k M) (by rw [lstF_length]; exact Nat.le_refl _), List.drop_eq_getElem_cons (by rw [lstF_length]; exact hm), decide_eq_false (show ¬ (n : Int) < k by omega), decide_eq_true (show (k : Int) < n by omega)]; rfl

structure NumsAt (w : World) (b : Nat) (s : Str) (v3 : Value) : Prop where
  c : ∀ j, j < 3 → w.cell? ⟨b, j, none⟩ = some (.int .i64 (verNum s j : Nat))
  c3 : w.cell? ⟨b, 3, none⟩ = some v3
theorem NumsAt.below {w w' : World} {b : Nat} {s : Str} {v3 : Value} (h : NumsAt w b s v3) (hb : Below w.heap.size w w') : NumsAt w' b s v3 :=
  ⟨fun j hj => Below.cell_some hb (h.c j hj), Below.cell_some hb h.c3⟩
theorem numsAt_alloc (w : World) (s : Str) (v3 : Value) (t : TypeId) : NumsAt (w.alloc (.cells #[.int .i64 (verNum s 0 : Nat), .int .i64 (verNum s 1 : Nat), .int .i64 (verNum s 2 : Nat), v3] t)) w.heap.size s v3 :=
  ⟨fun j hj => by obtain rfl | rfl | rfl : j = 0 ∨ j = 1 ∨ j = 2 := by omega
                  all_goals simp, by simp⟩

set_option maxRecDepth 100000 in
set_option maxHeartbeats 1000000 in
/-- R.OrderVer -/
theorem orderVer_calls (a b : ByteArray) (w : World) (ha : a.size ≤ 1000000000) (hb : b.size ≤ 1000000000) :
    Calls Tryz.prog 175 #[.string a, .string b] w fun e w' => e = .returned (.int .i64 (sgn (verCmp a.data.toList b.data.toList))) ∧ Below w.heap.size w w' := by
  have hR := sgn_verKey (a := a.data.toList) (b := b.data.toList)
  rw [← hR]
  clear hR
  have hs1 := verPre_small a.data.toList
  have hs2 := verPre_small b.data.toList
  go_enter Tryz.func175, Tryz.ntmps175
  go_wp2_with fail
  refine (refVerOf_calls a w ha).mono ?_
  rintro e w1 ⟨⟨va, rfl, a1, n1, cap1, L1, rfl, HL1, hn1, hn1', hc1⟩, hb1⟩
  have hbA := below_alloc w1 (.cells #[.int .i64 (verNum a.data.toList 0 : Nat), .int .i64 (verNum a.data.toList 1 : Nat), .int .i64 (verNum a.data.toList 2 : Nat), .slice a1 n1 cap1] 130)
  have hzA := numsAt_alloc w1 a.data.toList (.slice a1 n1 cap1) 130
  have hb1A := below_step hb1 hbA
  go_wp2_with fail
  refine (refVerOf_calls b _ hb).mono ?_
  rintro e w2 ⟨⟨vb, rfl, a2, n2, cap2, L2, rfl, HL2, hn2, hn2', hc2⟩, hb2⟩
  have hbB := below_alloc w2 (.cells #[.int .i64 (verNum b.data.toList 0 : Nat), .int .i64 (verNum b.data.toList 1 : Nat), .int .i64 (verNum b.data.toList 2 : Nat), .slice a2 n2 cap2] 130)
  have hzB := numsAt_alloc w2 b.data.toList (.slice a2 n2 cap2) 130
  have hzA2 := (hzA.below hb2).below hbB
  have hbw := below_step (below_step hb1A hb2) hbB
  have hc1' := fun j (hj : j < n1) => (let ⟨b, o, e, h2⟩ := hc1 j hj; ⟨b, o, e, Below.cell_some (below_step hbA (below_step hb2 hbB)) h2⟩ : ∃ b o, a1 = some ⟨b, o, none⟩ ∧ _)
  have hc2' := fun j (hj : j < n2) => (let ⟨b, o, e, h2⟩ := hc2 j hj; ⟨b, o, e, Below.cell_some hbB h2⟩ : ∃ b o, a2 = some ⟨b, o, none⟩ ∧ _)
  rw [HL1] at hs1
  rw [HL2] at hs2
  rw [lstF_length] at hs1 hs2
  have hL1 : ∀ j, j < n1 → (L1 j).size ≤ 4000000000 ∧ partErr (L1 j).data.toList = 0 := fun j hj => by
    have := hs1.2 _ (List.mem_of_getElem? (lstF_get n1 L1 j hj))
    exact ⟨by rw [size_eq]; omega, this.2⟩
  have hL2 : ∀ j, j < n2 → (L2 j).size ≤ 4000000000 ∧ partErr (L2 j).data.toList = 0 := fun j hj => by
    have := hs2.2 _ (List.mem_of_getElem? (lstF_get n2 L2 j hj))
    exact ⟨by rw [size_eq]; omega, this.2⟩
  have hm1 := hs1.1
  have hm2 := hs2.1
  have HPA := Lib.hid HL1
  have HPB := Lib.hid HL2
  have HC1 := Lib.hid hc1'
  have HC2 := Lib.hid hc2'
  have HS1 := Lib.hid hL1
  have HS2 := Lib.hid hL2
  clear hs1 hs2 hL1 hL2 hc1 hc2 hc1' hc2' HL1 HL2 hzA hb1 hbA hb1A
  go_wp2_with fail
  generalize hwB : w2.alloc (.cells #[.int .i64 (verNum b.data.toList 0 : Nat), .int .i64 (verNum b.data.toList 1 : Nat), .int .i64 (verNum b.data.toList 2 : Nat), .slice a2 n2 cap2] 130) = wB at *
  clear hwB
  go_loopw [9] (fun i wr => ∃ k : Nat, k ≤ 3 ∧ i = .int .i64 k ∧ Below wB.heap.size wB wr ∧ Hid (∀ j, j < k → verNum a.data.toList j = verNum b.data.toList j)) (fun i _ => 3 - (intOf i).toNat)
  case atStart => exact ⟨0, by omega, rfl, Below.refl _ _, Lib.hid (fun j hj => absurd hj (Nat.not_lt_zero _))⟩
  case round =>
    obtain ⟨k, hk, rfl, hbr, HA⟩ := hrel
    have hbrw := below_step hbw hbr
    by_cases hlt : k < 3
    · have d1 := (hzA2.below hbr).c k hlt
      have d2 := (hzB.below hbr).c k hlt
      by_cases he : verNum a.data.toList k = verNum b.data.toList k
      · have HN : Hid (∀ j, j < k + 1 → verNum a.data.toList j = verNum b.data.toList j) := Lib.hid (fun j hj => by
          by_cases e : j = k
          · subst e; exact he
          · exact HA.out j (by omega))
        rw [he] at d1
        generalize verNum b.data.toList k = x at d1 d2
        clear he
        go_wp2_with fail
        go_region
        all_goals
          go_wp2_with fail
          go_roundw
          case rel => exact ⟨k + 1, by omega, by go_num, hbr.drew, HN⟩
          case measure => simp [intOf]; omega
      · have hX : sgn (verKey a.data.toList b.data.toList) = sgnB (decide ((verNum a.data.toList k : Int) < verNum b.data.toList k)) true := by
          have h1 := verNums_at hlt HA.out he
          rw [verKey_nums (by rw [h1]; omega), h1, sgnB_ne he]
        have hne : ((verNum a.data.toList k : Int) == (verNum b.data.toList k : Int)) = false := beq_eq_false_iff_ne.2 (by omega)
        generalize verNum a.data.toList k = x at d1 hX hne
        generalize verNum b.data.toList k = y at d2 hX hne
        have HX := Lib.hid hX
        clear he hX
        go_wp2_with fail
        go_region
        go_wp2_with fail
        have e1 : wr.drew.cell? _ = _ := d1
        have e2 : wr.drew.cell? _ = _ := d2
        have hbd := Below.drew hbrw
        generalize wr.drew = wd at e1 e2 hbd ⊢
        clear d1 d2
        go_quiet ((go_at_call 216; exact Calls.quiet_of_same (sign_calls _ _ _)))
        go_wp2_with fail
        go_ret
        rw [HX.out]
        exact ⟨by simp, Below.drewN hbd _⟩
    · obtain rfl : k = 3 := by omega
      have hEnd := ordEnd (verNums_same HA.out) HPA.out HPB.out
      have p3 := (hzA2.below hbr).c3
      have q3 := (hzB.below hbr).c3
      have hE1 := Lib.hid hEnd.1
      have hE2 := Lib.hid hEnd.2
      clear hEnd HA
      by_cases p1 : n1 = 0
      · have HX := Lib.hid (hE1.out (.inl p1))
        have p1' : ((n1 : Int) == 0) = true := beq_iff_eq.2 (by omega)
        have p1'' : ¬ (0 : Int) < (n1 : Int) := by omega
        clear p1
        go_wp2_with fail
        refine (sign_calls _ _ _).mono ?_
        rintro e w5 ⟨rfl, rfl⟩
        go_wp2_with fail
        go_ret
        rw [HX.out]
        exact ⟨by simp, hbrw⟩
      · have p1' : ((n1 : Int) == 0) = false := beq_eq_false_iff_ne.2 (by omega)
        have p1'' : (0 : Int) < (n1 : Int) := by omega
        by_cases p2 : n2 = 0
        · have HX := Lib.hid (hE1.out (.inr p2))
          have p2' : ((n2 : Int) == 0) = true := beq_iff_eq.2 (by omega)
          have p2'' : ¬ (0 : Int) < (n2 : Int) := by omega
          clear p1 p2
          go_wp2_with fail
          refine (sign_calls _ _ _).mono ?_
          rintro e w5 ⟨rfl, rfl⟩
          go_wp2_with fail
          go_ret
          rw [HX.out]
          exact ⟨by simp, hbrw⟩
        · have HX := Lib.hid (hE2.out p1 p2)
          have p2' : ((n2 : Int) == 0) = false := beq_eq_false_iff_ne.2 (by omega)
          clear p1 p2 p1'' hE1 hE2
          obtain ⟨wo, hwo⟩ : ∃ wo : World, wo = wr := ⟨_, rfl⟩
          subst hwo
          go_wp2_with fail
          go_loopw [10, 11] (fun i _ wq => ∃ m : Nat, m ≤ n1 ∧ m ≤ n2 ∧ i = .int .i64 m ∧ Below wo.heap.size wo wq ∧ Hid (sgn (verKey a.data.toList b.data.toList) = sgn (cmpList ((lstF n1 L1).drop m) ((lstF n2 L2).drop m)))) (fun i _ _ => n1 - (intOf i).toNat)
          case atStart => exact ⟨0, by omega, by omega, rfl, Below.refl _ _, HX⟩
          case round =>
            obtain ⟨m, hm, hm', rfl, hbq, HC⟩ := hrel
            have hbqw := below_step hbrw hbq
            have hbqB := below_step hbr hbq
            replace p3 := Below.cell_some hbq p3
            replace q3 := Below.cell_some hbq q3
            by_cases hl1 : m < n1
            · by_cases hl2 : m < n2
              · obtain ⟨b1, o1, rfl, e1⟩ := HC1.out m hl1
                obtain ⟨b2, o2, rfl, e2⟩ := HC2.out m hl2
                replace e1 := Below.cell_some hbqB e1
                replace e2 := Below.cell_some hbqB e2
                have hcall := fun W => orderPart_calls (L1 m) (L2 m) W (HS1.out m hl1).1 (HS2.out m hl2).1
                rw [ordPart_eq (HS1.out m hl1).2 (HS2.out m hl2).2] at hcall
                have hst := cmpList_drop n1 n2 L1 L2 m hl1 hl2
                generalize cmpPart (L1 m).data.toList (L2 m).data.toList = c at hcall hst
                by_cases hc : c = 0
                · subst hc
                  rw [orI_zero] at hst
                  rw [sgn_zero'] at hcall
                  have HN : Hid (sgn (verKey a.data.toList b.data.toList) = sgn (cmpList ((lstF n1 L1).drop (m + 1)) ((lstF n2 L2).drop (m + 1)))) := Lib.hid (by rw [HC.out, hst])
                  have HCall := Lib.hid hcall
                  clear hst hcall
                  go_wp2_with fail
                  go_quiet ((go_at_call 217; exact Calls.quiet_of_same (HCall.out _)))
                  go_wp2_with fail
                  go_roundw
                  case rel => exact ⟨m + 1, by omega, by omega, by go_num, Below.drewN hbq _, HN⟩
                  case measure => simp [intOf]; omega
                · have hne : (sgn c == 0) = false := beq_eq_false_iff_ne.2 (fun e => hc (sgn_zero.1 e))
                  rw [orI_left hc] at hst
                  have HN : Hid (sgn (verKey a.data.toList b.data.toList) = sgn c) := Lib.hid (by rw [HC.out, hst])
                  generalize sgn c = sc at hcall hne HN
                  have HCall := Lib.hid hcall
                  clear hst hcall hc
                  go_wp2_with fail
                  go_quiet ((go_at_call 217; exact Calls.quiet_of_same (HCall.out _)))
                  go_wp2_with fail
                  go_ret
                  rw [HN.out]
                  exact ⟨rfl, Below.drewN hbqw _⟩
              · have HN : Hid (sgn (verKey a.data.toList b.data.toList) = sgnB (decide ((n1 : Int) < n2)) (decide ((n2 : Int) < n1))) := Lib.hid (by rw [HC.out, cmpList_end2 (by omega) hl1])
                go_wp2_with fail
                refine (sign_calls _ _ _).mono ?_
                rintro e w5 ⟨rfl, rfl⟩
                go_wp2_with fail
                go_ret
                rw [HN.out]
                exact ⟨by simp, hbqw⟩
            · have HN : Hid (sgn (verKey a.data.toList b.data.toList) = sgnB (decide ((n1 : Int) < n2)) (decide ((n2 : Int) < n1))) := Lib.hid (by rw [HC.out, cmpList_end1 (by omega) hm'])
              go_wp2_with fail
              refine (sign_calls _ _ _).mono ?_
              rintro e w5 ⟨rfl, rfl⟩
              go_wp2_with fail
              go_ret
              rw [HN.out]
              exact ⟨by simp, hbqw⟩

/-- R.IsVer -/
theorem isVer_calls (a : ByteArray) (w : World) (ha : a.size ≤ 1000000000) :
    Calls Tryz.prog 174 #[.string a] w fun e w' => e = .returned (.bool (decide (verErr a.data.toList = 0))) ∧ Below w.heap.size w w' := by
  go_enter Tryz.func174, Tryz.ntmps174
  go_wp2_with fail
  refine (refVerOf_calls a w ha).mono ?_
  rintro e w1 ⟨⟨va, rfl, a1, n1, cap1, L1, rfl, _, _, _, _⟩, hb1⟩
  by_cases h : verErr a.data.toList = 0
  · have HF := Lib.hid (decide_eq_true h)
    rw [h]
    clear h
    go_wp2_with fail
    go_ret
    rw [HF.out]
    exact ⟨rfl, hb1.alloc hb1.size _⟩
  · have h' : ((verErr a.data.toList : Int) == 0) = false := beq_eq_false_iff_ne.2 (by omega)
    have HF := Lib.hid (decide_eq_false h)
    clear h
    go_wp2_with fail
    go_ret
    rw [HF.out]
    exact ⟨rfl, hb1.alloc hb1.size _⟩

/-- R.IsLess -/
theorem isLess_calls (a b : ByteArray) (w : World) (ha : a.size ≤ 1000000000) (hb : b.size ≤ 1000000000) :
    Calls Tryz.prog 130 #[.string a, .string b] w fun e w' => e = .returned (.bool (verLess a.data.toList b.data.toList)) ∧ Below w.heap.size w w' := by
  have hm : verLess a.data.toList b.data.toList = (decide (verErr a.data.toList = 0) && (decide (verErr b.data.toList = 0) && decide (sgn (verCmp a.data.toList b.data.toList) < 0))) := by
    unfold verLess
    rw [Bool.eq_iff_iff]
    simp [sgn_lt]
  generalize verLess a.data.toList b.data.toList = R at hm ⊢
  have h1 := fun W => isVer_calls a W ha
  have h2 := fun W => isVer_calls b W hb
  have h3 := fun W => orderVer_calls a b W ha hb
  generalize decide (verErr a.data.toList = 0) = x at h1 hm
  generalize decide (verErr b.data.toList = 0) = y at h2 hm
  generalize sgn (verCmp a.data.toList b.data.toList) = c at h3 hm
  have HM := Lib.hid hm
  have H1 := Lib.hid h1
  have H2 := Lib.hid h2
  have H3 := Lib.hid h3
  clear hm h1 h2 h3
  go_enter Tryz.func130, Tryz.ntmps130
  go_wp2_with fail
  refine (H1.out w).mono ?_
  rintro e w1 ⟨rfl, hb1⟩
  go_wp2_with fail
  refine (H2.out w1).mono ?_
  rintro e w2 ⟨rfl, hb2⟩
  have hb12 := below_step hb1 hb2
  cases x <;> cases y
  case true.true =>
    go_wp2_with fail
    refine (H3.out w2).mono ?_
    rintro e w3 ⟨rfl, hb3⟩
    have hb13 := below_step hb12 hb3
    go_wp2_with fail
    go_ret
    rw [HM.out]
    exact ⟨by simp, hb13⟩
  all_goals
    go_wp2_with fail
    go_ret
    rw [HM.out]
    exact ⟨rfl, hb12⟩

/-- the greater of two versions -/
def verMax (a b : Str) : Str := if verErr a ≠ 0 ∧ verErr b ≠ 0 then [] else if verErr a ≠ 0 then b else if verErr b ≠ 0 then a else if verCmp a b < 0 then b else a
theorem verMax_eq (a b : Str) : verMax a b = (match decide (verErr a = 0), decide (verErr b = 0) with
    | false, false => [] | false, true => b | true, false => a | true, true => if sgn (verCmp a b) < 0 then b else a) := by
  unfold verMax
  by_cases h1 : verErr a = 0 <;> by_cases h2 : verErr b = 0 <;> simp [h1, h2, sgn_lt]
theorem mk_data (b : ByteArray) : (⟨b.data.toList.toArray⟩ : ByteArray) = b := by apply bytes_ext.1; rfl

/-- R.MaxOf -/
theorem maxOf_calls (a b : ByteArray) (w : World) (ha : a.size ≤ 1000000000) (hb : b.size ≤ 1000000000) :
    Calls Tryz.prog 150 #[.string a, .string b] w fun e w' => e = .returned (.string ⟨(verMax a.data.toList b.data.toList).toArray⟩) ∧ Below w.heap.size w w' := by
  have hm := verMax_eq a.data.toList b.data.toList
  generalize verMax a.data.toList b.data.toList = R at hm ⊢
  have h1 := fun W => isVer_calls a W ha
  have h2 := fun W => isVer_calls b W hb
  have h3 := fun W => orderVer_calls a b W ha hb
  generalize decide (verErr a.data.toList = 0) = x at h1 hm
  generalize decide (verErr b.data.toList = 0) = y at h2 hm
  generalize sgn (verCmp a.data.toList b.data.toList) = c at h3 hm
  have HM := Lib.hid hm
  have H1 := Lib.hid h1
  have H2 := Lib.hid h2
  have H3 := Lib.hid h3
  clear hm h1 h2 h3
  go_enter Tryz.func150, Tryz.ntmps150
  go_wp2_with fail
  refine (H1.out w).mono ?_
  rintro e w1 ⟨rfl, hb1⟩
  go_wp2_with fail
  refine (H2.out w1).mono ?_
  rintro e w2 ⟨rfl, hb2⟩
  have hb12 := below_step hb1 hb2
  cases x <;> cases y
  case true.true =>
    by_cases hc : c < 0
    · have HF : Hid (R = b.data.toList) := Lib.hid (by rw [HM.out]; simp [hc])
      go_wp2_with fail
      refine (H3.out w2).mono ?_
      rintro e w3 ⟨rfl, hb3⟩
      have hb13 := below_step hb12 hb3
      go_wp2_with fail
      go_ret
      rw [HF.out, mk_data]
      exact ⟨rfl, hb13⟩
    · have HF : Hid (R = a.data.toList) := Lib.hid (by rw [HM.out]; simp [hc])
      go_wp2_with fail
      refine (H3.out w2).mono ?_
      rintro e w3 ⟨rfl, hb3⟩
      have hb13 := below_step hb12 hb3
      go_wp2_with fail
      go_ret
      rw [HF.out, mk_data]
      exact ⟨rfl, hb13⟩
  case false.false =>
    go_wp2_with fail
    go_ret
    rw [HM.out]
    exact ⟨rfl, hb12⟩
  case false.true =>
    go_wp2_with fail
    go_ret
    rw [HM.out]
    exact ⟨by rw [mk_data]; rfl, hb12⟩
  case true.false =>
    go_wp2_with fail
    go_ret
    rw [HM.out]
    exact ⟨by rw [mk_data]; rfl, hb12⟩
end Go.Proofs.Pw

/- R.SplitPath, ModError, ModText. Conditions: texts of at most 1000000000 bytes. -/
namespace Go.Proofs.Pw
open Go.RowKit
open Go.Lib hiding intOf

theorem occ_slash {s : ByteArray} {k : Nat} (h : k < s.size) : occAt s.data.toList [47] k = decide (s[k] = 47) := by
  unfold occAt
  rw [drop_cons s k h, Bool.eq_iff_iff]
  simp only [List.isPrefixOf, Bool.and_true, decide_eq_true_eq, beq_iff_eq]
  exact eq_comm
theorem refSuf_pos {x : Str} (h : isSuf x = true) : refSuf x = (sufNum x : Int) ∧ (2 : Int) ≤ (sufNum x : Int) := by
  have hl : looksSuf x = true ∧ 2 ≤ (numberOf (sufD x)).1 := by
    unfold isSuf at h
    simp only [Bool.and_eq_true, decide_eq_true_eq] at h
    exact ⟨h.1, h.2.2⟩
  unfold refSuf
  rw [hl.1, h]
  exact ⟨rfl, by have := hl.2; unfold sufNum; omega⟩
theorem refSuf_not {x : Str} (h : isSuf x = false) : refSuf x ≤ 0 := by
  unfold refSuf
  rw [h]
  cases looksSuf x <;> simp
theorem bytes_take (s : ByteArray) (k : Nat) : s.extract 0 k = ⟨(s.data.toList.take k).toArray⟩ := by
  apply ByteArray.ext
  apply Array.ext'
  simp

set_option maxHeartbeats 400000 in
theorem refSplit_calls (s : ByteArray) (w : World) (hs : s.size ≤ 1000000000) :
    Calls Tryz.prog 98 #[.string s] w fun e w' => e = .returned (.tuple #[.string ⟨(modSplit s.data.toList).1.toArray⟩, .int .i64 ((modSplit s.data.toList).2 : Nat)]) ∧ Below w.heap.size w w' := by
  have hp := refPath_calls s w hs
  by_cases h0 : pathErr s.data.toList = 0
  · rw [h0] at hp
    have hne := fun (h : lastIndex s.data.toList [47] < 0) => modSplit_no h0 h
    have hat := fun (k : Nat) (h : lastIndex s.data.toList [47] = k) => modSplit_at h0 h
    have hst : lastOcc s.data.toList [47] s.size = lastIndex s.data.toList [47] := by
      unfold lastIndex
      rw [← size_eq]
      show _ = if 1 ≤ s.size then lastOcc s.data.toList [47] (s.size - 1 + 1) else -1
      by_cases h : 1 ≤ s.size
      · rw [if_pos h, Nat.sub_add_cancel h]
      · rw [if_neg h, show s.size = 0 by omega]; rfl
    replace hp := Lib.hid hp
    replace hne := Lib.hid hne
    replace hat := Lib.hid hat
    replace hst := Lib.hid hst
    clear h0
    go_enter Tryz.func98, Tryz.ntmps98
    go_wp2_with fail
    refine hp.out.mono ?_
    rintro e w1 ⟨rfl, hb1⟩
    go_wp2_with fail
    go_loop [4] (fun i => ∃ m : Nat, m ≤ s.size ∧ i = .int .i64 ((m : Int) - 1) ∧ Hid (lastOcc s.data.toList [47] m = lastIndex s.data.toList [47])) (fun i => (intOf i + 1).toNat)
    case atStart => exact ⟨s.size, Nat.le_refl _, rfl, hst⟩
    case round =>
      obtain ⟨m, hm, rfl, H⟩ := hrel
      rcases Nat.eq_zero_or_pos m with rfl | hm0
      · have HF := Lib.hid (hne.out (by rw [← H.out]; show (-1 : Int) < 0; decide))
        have hz : ((0 : Nat) : Int) - 1 = -1 := rfl
        simp only [hz]
        clear hz
        go_wp2_with fail
        go_ret2
        rw [HF.out]
        exact ⟨rfl, hb1⟩
      · obtain ⟨k, rfl⟩ : ∃ k, m = k + 1 := ⟨m - 1, by omega⟩
        have hz : ((k + 1 : Nat) : Int) - 1 = (k : Int) := by omega
        simp only [hz]
        clear hz
        have ho := occ_slash (s := s) (k := k) (by omega)
        by_cases hc : s[k] = 47
        · have hc1 : (s[k].toNat : Int) = 47 := by rw [hc]; rfl
          have hL : lastIndex s.data.toList [47] = k := by rw [← H.out]; exact lastOcc_hit _ _ _ (by rw [ho, decide_eq_true hc])
          have hsp := hat.out k hL
          have hsz : (s.extract (k + 1) s.size).size ≤ 1000000000 := Nat.le_trans (extract_size_le s _ _) hs
          have hsu := refSuffix_calls (s.extract (k + 1) s.size) w1 hsz
          have hdr : (s.extract (k + 1) s.size).data.toList = s.data.toList.drop (k + 1) := extract_to_end s (k + 1)
          rw [hdr] at hsu
          clear ho hc hL hdr
          cases hi : isSuf (s.data.toList.drop (k + 1)) with
          | true =>
            obtain ⟨h1, h2⟩ := refSuf_pos hi
            rw [hi, if_pos rfl] at hsp
            rw [h1] at hsu
            generalize sufNum (s.data.toList.drop (k + 1)) = q at hsp hsu h2
            replace hsp := Lib.hid hsp
            replace hsu := Lib.hid hsu
            clear hi h1
            go_wp2_with fail
            refine hsu.out.mono ?_
            rintro e w' ⟨rfl, rfl⟩
            go_wp2_with fail
            go_ret2
            rw [hsp.out, bytes_take]
            exact ⟨rfl, hb1⟩
          | false =>
            have h1 := refSuf_not hi
            rw [hi, if_neg (by decide)] at hsp
            generalize refSuf (s.data.toList.drop (k + 1)) = q at hsu h1
            replace hsp := Lib.hid hsp
            replace hsu := Lib.hid hsu
            clear hi
            go_wp2_with fail
            refine hsu.out.mono ?_
            rintro e w' ⟨rfl, rfl⟩
            go_wp2_with fail
            go_ret2
            rw [hsp.out]
            exact ⟨rfl, hb1⟩
        · have hc1 : ((s[k].toNat : Int) == 47) = false := byte_ne_int (c := 47) rfl hc
          have hc2 : ((s[k].toNat : Int) != 47) = true := by unfold bne; rw [hc1]; rfl
          have H1 : Hid (lastOcc s.data.toList [47] k = lastIndex s.data.toList [47]) := Lib.hid (by rw [← H.out]; exact (lastOcc_miss _ _ _ (by rw [ho, decide_eq_false hc])).symm)
          clear ho hc
          go_wp2_with fail
          go_round
          case rel => exact ⟨k, by omega, by go_num, H1⟩
          case measure => simp [intOf]
  · rw [modSplit_bad h0]
    have hpos : (0 : Int) < (pathErr s.data.toList : Int) := by omega
    generalize pathErr s.data.toList = q at hp hpos
    replace hp := Lib.hid hp
    clear h0
    go_enter Tryz.func98, Tryz.ntmps98
    go_wp2_with fail
    refine hp.out.mono ?_
    rintro e w1 ⟨rfl, hb1⟩
    go_wp2_with fail
    go_ret2
    exact ⟨rfl, hb1⟩

set_option maxHeartbeats 1000000 in
/-- R.ModError -/
theorem refModErr_calls (p v : ByteArray) (w : World) (hp : p.size ≤ 1000000000) (hv : v.size ≤ 1000000000) :
    Calls Tryz.prog 41 #[.agg #[.string p, .string v]] w fun e w' => e = .returned (.int .i64 (modErr p.data.toList v.data.toList : Nat)) ∧ Below w.heap.size w w' := by
  have hB := below_alloc w (.cells #[.string p, .string v] 26)
  have hz := box2_alloc w (.string p) (.string v) 26
  have hpa := fun W => refPath_calls p W hp
  have hvo := fun W => refVerOf_calls v W hv
  have hsp := fun W => refSplit_calls p W hp
  by_cases h1 : pathErr p.data.toList = 0
  · rw [h1] at hpa
    by_cases h2 : verErr v.data.toList = 0
    · have hm := modErr_major h1 h2
      have hmc : ((modSplit p.data.toList).2 = 0 ∧ 1 < verNum v.data.toList 0) ∨ ((modSplit p.data.toList).2 = 0 ∧ ¬ 1 < verNum v.data.toList 0) ∨ (0 < (modSplit p.data.toList).2 ∧ verNum v.data.toList 0 ≠ (modSplit p.data.toList).2) ∨ (0 < (modSplit p.data.toList).2 ∧ verNum v.data.toList 0 = (modSplit p.data.toList).2) := by omega
      generalize modErr p.data.toList v.data.toList = R at hm ⊢
      rw [h2] at hvo
      generalize verNum v.data.toList 0 = n0 at hm hmc hvo
      generalize verNum v.data.toList 1 = n1 at hvo
      generalize verNum v.data.toList 2 = n2 at hvo
      generalize verPre v.data.toList = pre at hvo
      generalize (modSplit p.data.toList).1 = q1 at hsp
      generalize (modSplit p.data.toList).2 = q at hm hmc hsp
      replace hpa := Lib.hid hpa
      replace hvo := Lib.hid hvo
      replace hsp := Lib.hid hsp
      replace hm := Lib.hid hm
      replace hmc := Lib.hid hmc
      clear h1 h2
      go_enter Tryz.func41, Tryz.ntmps41
      go_wp2_with fail
      refine (hpa.out _).mono ?_
      rintro e w1 ⟨rfl, hb⟩
      replace hB := below_step hB hb
      replace hz := hz.below hb
      clear hb
      have c0 := hz.c0
      have c1 := hz.c1
      go_wp2_with fail
      refine (hvo.out _).mono ?_
      rintro e w2 ⟨⟨vv, rfl, hS⟩, hb⟩
      replace hB := below_step hB hb
      replace hz := hz.below hb
      clear hb
      obtain ⟨a, n, cap, L, rfl, _, _, _, _⟩ := hS
      clear c0 c1
      have hb := below_alloc w2 (.cells #[.int .i64 (n0 : Nat), .int .i64 (n1 : Nat), .int .i64 (n2 : Nat), .slice a n cap] 130)
      have hy := box4_alloc w2 (.int .i64 (n0 : Nat)) (.int .i64 (n1 : Nat)) (.int .i64 (n2 : Nat)) (.slice a n cap) 130
      replace hB := below_step hB hb
      replace hz := hz.below hb
      clear hb
      have c0 := hz.c0
      have c1 := hz.c1
      go_wp2_with fail
      refine (hsp.out _).mono ?_
      rintro e w4 ⟨rfl, hb⟩
      clear c0 c1
      replace hB := below_step hB hb
      replace hz := hz.below hb
      replace hy := hy.below hb
      clear hb
      have z0 := hy.c0
      clear hy hz
      rcases hmc.out with ⟨rfl, h⟩ | ⟨rfl, h⟩ | ⟨h, h'⟩ | ⟨h, rfl⟩
      · have HF : Hid (R = 4) := Lib.hid (by rw [hm.out, if_pos (.inl ⟨rfl, h⟩)])
        have hi : (1 : Int) < (n0 : Int) := by omega
        clear hm hmc h
        go_wp2_with fail
        go_ret
        rw [HF.out]
        exact ⟨rfl, hB⟩
      · have HF : Hid (R = 0) := Lib.hid (by rw [hm.out, if_neg (by omega)])
        have hi : ¬ (1 : Int) < (n0 : Int) := by omega
        clear hm hmc h
        go_wp2_with fail
        go_ret
        rw [HF.out]
        exact ⟨rfl, hB⟩
      · have HF : Hid (R = 4) := Lib.hid (by rw [hm.out, if_pos (.inr ⟨h, h'⟩)])
        have hi : (0 : Int) < (q : Int) := by omega
        have hi0 : ((q : Int) == 0) = false := beq_eq_false_iff_ne.2 (by omega)
        have hi1 : ((n0 : Int) == (q : Int)) = false := beq_eq_false_iff_ne.2 (by omega)
        have hi2 : ((n0 : Int) != (q : Int)) = true := bne_iff_ne.2 (by omega)
        clear hm hmc h h'
        go_wp2_with fail
        go_ret
        rw [HF.out]
        exact ⟨rfl, hB⟩
      · have HF : Hid (R = 0) := Lib.hid (by rw [hm.out, if_neg (by omega)])
        have hi : (0 : Int) < (n0 : Int) := by omega
        have hi0 : ((n0 : Int) == 0) = false := beq_eq_false_iff_ne.2 (by omega)
        clear hm hmc h
        go_wp2_with fail
        go_ret
        rw [HF.out]
        exact ⟨rfl, hB⟩
    · rw [modErr_ver h1 h2]
      have hpos : (0 : Int) < (verErr v.data.toList : Int) := by omega
      generalize verErr v.data.toList = q at hvo hpos
      replace hpa := Lib.hid hpa
      replace hvo := Lib.hid hvo
      clear h1 h2 hsp
      go_enter Tryz.func41, Tryz.ntmps41
      go_wp2_with fail
      refine (hpa.out _).mono ?_
      rintro e w1 ⟨rfl, hb⟩
      replace hB := below_step hB hb
      replace hz := hz.below hb
      clear hb
      have c0 := hz.c0
      have c1 := hz.c1
      go_wp2_with fail
      refine (hvo.out _).mono ?_
      rintro e w2 ⟨⟨vv, rfl, hS⟩, hb⟩
      replace hB := below_step hB hb
      clear hb
      obtain ⟨a, n, cap, L, rfl, _, _, _, _⟩ := hS
      clear c0 c1 hz
      go_wp2_with fail
      go_ret
      exact ⟨rfl, hB.alloc hB.size _⟩
  · rw [modErr_path h1]
    have hpos : (0 : Int) < (pathErr p.data.toList : Int) := by omega
    generalize pathErr p.data.toList = q at hpa hpos
    replace hpa := Lib.hid hpa
    clear h1 hvo hsp
    go_enter Tryz.func41, Tryz.ntmps41
    go_wp2_with fail
    refine (hpa.out _).mono ?_
    rintro e w1 ⟨rfl, hb⟩
    replace hB := below_step hB hb
    clear hb
    go_wp2_with fail
    go_ret
    exact ⟨rfl, hB⟩

end Go.Proofs.Pw

/- R.IsAhead, R.ReadMod. Conditions: texts of at most 1000000000 bytes. -/
namespace Go.Proofs.Pw
open Go.RowKit
open Go.Lib hiding intOf

set_option maxHeartbeats 1000000 in
theorem isAhead_calls (p v q u : ByteArray) (w : World) (hv : v.size ≤ 1000000000) (hu : u.size ≤ 1000000000) :
    Calls Tryz.prog 71 #[.agg #[.string p, .string v], .agg #[.string q, .string u]] w fun e w' => e = .returned (.bool (modAhead (p.data.toList, v.data.toList) (q.data.toList, u.data.toList))) ∧ Below w.heap.size w w' := by
  have hm := ahead_eq p v q u
  have hl := fun W => isLess_calls v u W hv hu
  have hb1 := below_alloc w (.cells #[.string p, .string v] 26)
  have hB := below_step hb1 (below_alloc _ (.cells #[.string q, .string u] 26))
  generalize modAhead (p.data.toList, v.data.toList) (q.data.toList, u.data.toList) = R at hm ⊢
  generalize verLess v.data.toList u.data.toList = X at hl hm
  replace hm := Lib.hid hm
  replace hl := Lib.hid hl
  clear hb1
  cases h2 : (p.toList == q.toList) with
  | true =>
    have h3 : p.toList = q.toList := beq_iff_eq.1 h2
    have h4 : p = q := by rw [toList_data, toList_data] at h3; exact bytes_ext.1 h3
    subst h4
    have HF : Hid (R = X) := Lib.hid (by rw [hm.out, toList_data, bytesLess_iff, compareBytes_ord.self]; simp)
    clear h2 h3
    go_enter Tryz.func71, Tryz.ntmps71
    go_wp2_with fail
    refine (hl.out _).mono ?_
    rintro e w1 ⟨rfl, hb⟩
    replace hB := below_step hB hb
    clear hb
    go_wp2_with fail
    go_ret
    rw [HF.out]
    exact ⟨rfl, hB⟩
  | false =>
    have HF : Hid (R = Op.bytesLess p.toList q.toList) := Lib.hid (by rw [hm.out, h2]; simp)
    have h3 : p.toList ≠ q.toList := beq_eq_false_iff_ne.1 h2
    have h4 : p ≠ q := fun e => h3 (by rw [e])
    have h5 : (p.toList != q.toList) = true := bne_iff_ne.2 h3
    go_enter Tryz.func71, Tryz.ntmps71
    go_wp2_with fail
    go_ret
    rw [HF.out]
    exact ⟨rfl, hB⟩

theorem refCut_at (s : ByteArray) (w : World) (hs : s.size ≤ 1000000000) :
    Calls Tryz.prog 78 #[.string s, .int .u8 64] w fun e w' => (∃ v, e = .returned v ∧ StrsAt w' v (split s.data.toList [64]) ∧ NewRow w v) ∧ Below w.heap.size w w' := refCut_calls s 64 w hs

end Go.Proofs.Pw

/- References of files: Bare, Fine, reqsError, FileFault. Conditions: texts of at most 1000000 bytes, lists of at most 1000000. -/
namespace Go.Proofs.Pw
open Go.RowKit
open Go.Lib hiding intOf

def fltV (r : Nat × Int) : Value := .agg #[.int .i64 (r.1 : Nat), .int .i64 r.2]
theorem refBare_calls (k : Nat) (w : World) : Calls Tryz.prog 69 #[.int .i64 (k : Nat)] w fun e w' => e = .returned (fltV (k, -1)) ∧ Below w.heap.size w w' := by
  have hB := below_alloc w (.cells #[.int .i64 0, .int .i64 0] 35)
  obtain ⟨z0, z1, zf⟩ := box2_alloc w (.int .i64 0) (.int .i64 0) 35
  go_enter Tryz.func69, Tryz.ntmps69
  go_wp2_with fail
  refine bodyPost_ret (v := .agg #[.int .i64 (k : Nat), .int .i64 (-1)]) (by simp [results, Tryz.results69, go_sem, *]) rfl ?_
  first
  | exact ⟨rfl, (hB.setCell (Nat.le_refl _) _).setCell (Nat.le_refl _) _⟩
  | exact ⟨rfl, below_alloc _ _⟩
theorem refFine_calls (w : World) : Calls Tryz.prog 72 #[] w fun e w' => e = .returned (fltV (0, -1)) ∧ Below w.heap.size w w' := by
  have hB := below_alloc w (.cells #[.int .i64 0, .int .i64 0] 35)
  obtain ⟨z0, z1, zf⟩ := box2_alloc w (.int .i64 0) (.int .i64 0) 35
  go_enter Tryz.func72, Tryz.ntmps72
  go_wp2_with fail
  refine bodyPost_ret (v := .agg #[.int .i64 0, .int .i64 (-1)]) (by simp [results, Tryz.results72, go_sem, *]) rfl ?_
  first
  | exact ⟨rfl, (hB.setCell (Nat.le_refl _) _).setCell (Nat.le_refl _) _⟩
  | exact ⟨rfl, below_alloc _ _⟩

/-- what reqsError answers -/
def rqP (r : Nat × Int) : Nat × Int := if r.1 = 0 then (0, 0) else r
set_option maxHeartbeats 4000000 in
set_option maxRecDepth 100000 in
theorem reqsError_calls (own : ByteArray) (rv : Value) (R : List Md) (w : World) (hr : ModsAt w rv R) (hs : Short R) :
    Calls Tryz.prog 70 #[rv, .string own] w fun e w' => e = .returned (.tuple #[.int .i64 ((rqP (firstE (reqE own.data.toList R) R.length)).1 : Nat), .int .i64 (rqP (firstE (reqE own.data.toList R) R.length)).2]) ∧ Below w.heap.size w w' := by
  obtain ⟨a, n, cap, P, V, rfl, rfl, hnc, hcap, hc⟩ := hr
  have hP : Hid (∀ j, j < n → (P j).size ≤ 1000000 ∧ (V j).size ≤ 1000000) := Lib.hid (short_F hs).2
  have hn : n ≤ 1000000 := (short_F hs).1
  rw [mdF_length]
  replace hc := Lib.hid hc
  clear hs
  go_enter Tryz.func70, Tryz.ntmps70
  go_wp2_with fail
  go_loopw [6] (fun i wr => ∃ k : Nat, k ≤ n ∧ i = .int .i64 k ∧ Below w.heap.size w wr ∧ Hid (∀ j, j < k → reqE own.data.toList (mdF n P V) j = 0)) (fun i _ => n - (intOf i).toNat)
  case atStart => exact ⟨0, Nat.zero_le _, rfl, Below.refl _ _, Lib.hid (fun j hj => absurd hj (Nat.not_lt_zero _))⟩
  case round =>
    obtain ⟨k, hk, rfl, hBk, HA⟩ := hrel
    by_cases hlt : k < n
    · have hkn : (k : Int) < (n : Int) := by omega
      obtain ⟨b1, o1, ea, c0, c1⟩ := hc.out k hlt
      replace c0 := Below.cell_some hBk c0
      replace c1 := Below.cell_some hBk c1
      have hme := refModErr_calls (P k) (V k) wr (by have := (hP.out k hlt).1; omega) (by have := (hP.out k hlt).2; omega)
      have hR : reqE own.data.toList (mdF n P V) k = if modErr (P k).data.toList (V k).data.toList ≠ 0 then modErr (P k).data.toList (V k).data.toList else if (P k).data.toList = own.data.toList then 3 else if 0 < k ∧ compareBytes (P k).data.toList (mdAt (mdF n P V) (k - 1)).1 ≤ 0 then 8 else 0 := by
        unfold reqE
        rw [mdAt_mdF hlt]; rfl
      subst ea
      by_cases h0 : modErr (P k).data.toList (V k).data.toList = 0
      · rw [if_neg (by simp [h0])] at hR
        rw [h0] at hme
        by_cases hp : (P k).data.toList = own.data.toList
        · rw [if_pos hp] at hR
          have HF : Hid (rqP (firstE (reqE own.data.toList (mdF n P V)) n) = (3, (k : Int))) := Lib.hid (by rw [firstE_hit (by rw [hR]; decide) HA.out hlt, hR]; rfl)
          have hpb := bytes_eq.1 hp
          have hp1 : ((P k).toList == own.toList) = true := by rw [hpb]; simp
          replace hme := Lib.hid hme
          clear h0 hp hR hpb
          go_wp2_with fail
          refine hme.out.mono ?_
          rintro e w2 ⟨rfl, hb⟩
          replace c0 := Below.cell_some hb c0
          have hB2 := below_step hBk hb
          clear hb
          go_wp2_with fail
          go_ret2
          rw [HF.out]
          exact ⟨rfl, hB2⟩
        · rw [if_neg hp] at hR
          have hp1 : ((P k).toList == own.toList) = false := by rw [toList_data, toList_data]; exact beq_eq_false_iff_ne.2 hp
          have hp2 : (P k).toList ≠ own.toList := by rw [toList_data, toList_data]; exact hp
          have hp3 : P k ≠ own := fun e => hp (by rw [e])
          by_cases hi0 : k = 0
          · subst hi0
            rw [if_neg (by omega)] at hR
            have HN : Hid (∀ j, j < 0 + 1 → reqE own.data.toList (mdF n P V) j = 0) := Lib.hid (fun j hj => by
              obtain rfl : j = 0 := by omega
              exact hR)
            replace hme := Lib.hid hme
            simp only [Nat.zero_mul, Nat.add_zero] at c0 c1
            clear h0 hp hR
            go_wp2_with fail
            refine hme.out.mono ?_
            rintro e w2 ⟨rfl, hb⟩
            replace c0 := Below.cell_some hb c0
            have hB2 := below_step hBk hb
            clear hb
            go_wp2_with fail
            refine wp_region_quiet_patch (by kernel_rfl) (by kernel_rfl) ?_
            repeat (go_big_quiet_step (fail))
            refine wpQuiet_nil ?_
            intro _ hw'
            obtain ⟨⟨dq, osq⟩, hw''⟩ := hw'
            subst hw''
            have hb := below_patch w2 dq osq
            replace hB2 := below_step hB2 hb
            clear hb
            generalize patch w2 dq osq = w3 at hB2 ⊢
            clear c0
            go_wp2_with fail
            go_roundw
            case rel => exact ⟨1, by omega, by go_num, hB2, HN⟩
            case measure => simp [intOf]; omega
          · obtain ⟨m, rfl⟩ : ∃ m, k = m + 1 := ⟨k - 1, by omega⟩
            rw [Nat.add_sub_cancel, mdAt_mdF (show m < n by omega)] at hR
            have hle := leq_eq (P (m + 1)) (P m)
            have hk0 : (0 : Int) < ((m + 1 : Nat) : Int) := by omega
            have hk1 : ((m + 1 : Nat) : Int) - 1 = (m : Int) := by omega
            have hkw := wrap_nat m (by omega)
            have hkn2 : (m : Int) < (n : Int) := by omega
            obtain ⟨b2, o2, e1, c3, _⟩ := hc.out m (by omega)
            injection e1 with e1
            injection e1 with e1 e2
            subst e1 e2
            replace c3 := Below.cell_some hBk c3
            by_cases hc0 : compareBytes (P (m + 1)).data.toList (P m).data.toList ≤ 0
            · rw [if_pos ⟨Nat.succ_pos m, hc0⟩] at hR
              rw [decide_eq_true hc0] at hle
              have HF : Hid (rqP (firstE (reqE own.data.toList (mdF n P V)) n) = (8, ((m + 1 : Nat) : Int))) := Lib.hid (by rw [firstE_hit (by rw [hR]; decide) HA.out hlt, hR]; rfl)
              replace hme := Lib.hid hme
              clear h0 hp hR hc0
              go_wp2_with fail
              refine hme.out.mono ?_
              rintro e w2 ⟨rfl, hb⟩
              replace c0 := Below.cell_some hb c0
              replace c3 := Below.cell_some hb c3
              have hB2 := below_step hBk hb
              clear hb
              go_wp2_with fail
              have kqc0 := fun d os => cell_patch (d := d) (os := os) c0
              have kqc3 := fun d os => cell_patch (d := d) (os := os) c3
              refine wp_region_quiet_patch (by kernel_rfl) (by kernel_rfl) ?_
              repeat (go_big_quiet_step (fail))
              refine wpQuiet_nil ?_
              intro _ hw'
              obtain ⟨⟨dq, osq⟩, hw''⟩ := hw'
              subst hw''
              clear kqc0 kqc3
              have hb := below_patch w2 dq osq
              replace hB2 := below_step hB2 hb
              clear hb
              generalize patch w2 dq osq = w3 at hB2 ⊢
              clear c0 c3
              go_wp2_with fail
              go_ret2
              rw [HF.out]
              exact ⟨rfl, hB2⟩
            · rw [if_neg (fun h => hc0 h.2)] at hR
              rw [decide_eq_false hc0] at hle
              have HN : Hid (∀ j, j < m + 1 + 1 → reqE own.data.toList (mdF n P V) j = 0) := Lib.hid (fun j hj => by
                by_cases e : j = m + 1
                · subst e; exact hR
                · exact HA.out j (by omega))
              replace hme := Lib.hid hme
              clear h0 hp hR hc0
              go_wp2_with fail
              refine hme.out.mono ?_
              rintro e w2 ⟨rfl, hb⟩
              replace c0 := Below.cell_some hb c0
              replace c3 := Below.cell_some hb c3
              have hB2 := below_step hBk hb
              clear hb
              go_wp2_with fail
              have kqc0 := fun d os => cell_patch (d := d) (os := os) c0
              have kqc3 := fun d os => cell_patch (d := d) (os := os) c3
              refine wp_region_quiet_patch (by kernel_rfl) (by kernel_rfl) ?_
              repeat (go_big_quiet_step (fail))
              refine wpQuiet_nil ?_
              intro _ hw'
              obtain ⟨⟨dq, osq⟩, hw''⟩ := hw'
              subst hw''
              clear kqc0 kqc3
              have hb := below_patch w2 dq osq
              replace hB2 := below_step hB2 hb
              clear hb
              generalize patch w2 dq osq = w3 at hB2 ⊢
              clear c0 c3
              go_wp2_with fail
              go_roundw
              case rel => exact ⟨m + 1 + 1, by omega, by go_num, hB2, HN⟩
              case measure => simp [intOf]; omega
      · rw [if_pos h0] at hR
        have HF : Hid (rqP (firstE (reqE own.data.toList (mdF n P V)) n) = (modErr (P k).data.toList (V k).data.toList, (k : Int))) := Lib.hid (by rw [firstE_hit (by rw [hR]; exact h0) HA.out hlt, hR]; unfold rqP; rw [if_neg h0])
        generalize modErr (P k).data.toList (V k).data.toList = c at *
        have hc9 : (0 : Int) < (c : Int) := by omega
        replace hme := Lib.hid hme
        clear h0 hR
        go_wp2_with fail
        refine hme.out.mono ?_
        rintro e w2 ⟨rfl, hb⟩
        have hB2 := below_step hBk hb
        clear hb
        go_wp2_with fail
        go_ret2
        rw [HF.out]
        exact ⟨rfl, hB2⟩
    · obtain rfl : n = k := by omega
      have HF : Hid (rqP (firstE (reqE own.data.toList (mdF n P V)) n) = (0, 0)) := Lib.hid (by rw [firstE_none HA.out]; rfl)
      go_wp2_with fail
      go_ret2
      rw [HF.out]
      exact ⟨rfl, hBk⟩
end Go.Proofs.Pw

/- R.FileFault. Conditions: texts of at most 1000000 bytes, lists of at most 1000000. -/
namespace Go.Proofs.Pw
open Go.RowKit
open Go.Lib hiding intOf

set_option maxHeartbeats 8000000 in
set_option maxRecDepth 100000 in
theorem refFault_calls (path : ByteArray) (rv xv : Value) (reqs excl : List Md) (w : World) (hr : ModsAt w rv reqs) (hx : ModsAt w xv excl) (hp : path.size ≤ 1000000) (hsr : Short reqs) (hsx : Short excl) :
    Calls Tryz.prog 17 #[.agg #[.string path, rv, xv]] w fun e w' => e = .returned (fltV (fileErr ⟨path.data.toList, reqs, excl⟩)) ∧ Below w.heap.size w w' := by
  have HRM := Lib.hid hr
  obtain ⟨a, n, cap, P, V, rfl, rfl, hnc, hcap, hc⟩ := hr
  obtain ⟨a2, m, cap2, Q, U, rfl, rfl, hmc, hcap2, hc2⟩ := hx
  have HSR := Lib.hid hsr
  obtain ⟨hn, hPV⟩ := short_F hsr
  obtain ⟨hm, hQU⟩ := short_F hsx
  have hb1 := below_alloc w (.cells #[.string path, .slice a n cap, .slice a2 m cap2] 24)
  have hb2 := below_alloc (w.alloc (.cells #[.string path, .slice a n cap, .slice a2 m cap2] 24)) (.cells #[.int .i64 0, .int .i64 0] 35)
  have hB := below_step hb1 hb2
  have hz := (box3_alloc w (.string path) (.slice a n cap) (.slice a2 m cap2) 24).below hb2
  have hy := box2_alloc (w.alloc (.cells #[.string path, .slice a n cap, .slice a2 m cap2] 24)) (.int .i64 0) (.int .i64 0) 35
  simp only [World.size_alloc] at hy
  have HFE : Hid (fileErr ⟨path.data.toList, mdF n P V, mdF m Q U⟩ = if pathErr path.data.toList ≠ 0 then (pathErr path.data.toList, -1) else if 20 < n ∨ 20 < m then (7, -1) else orE (firstE (reqE path.data.toList (mdF n P V)) n) (orE (firstE (excE (mdF m Q U)) m) (firstE (claE (mdF n P V) (mdF m Q U)) n))) := Lib.hid (by
    unfold fileErr
    simp only [mdF_length])
  have hpe := fun W => refPath_calls path W (by omega)
  have HP := Lib.hid hPV
  have HQ := Lib.hid hQU
  replace hc := Lib.hid hc
  replace hc2 := Lib.hid hc2
  replace hpe := Lib.hid hpe
  clear hb1 hb2 hPV hQU hsr hsx
  obtain ⟨z0, z1, z2⟩ := id hz
  go_enter Tryz.func17, Tryz.ntmps17
  go_wp2_with fail
  generalize (w.alloc (.cells #[.string path, .slice a n cap, .slice a2 m cap2] 24)).alloc (.cells #[.int .i64 0, .int .i64 0] 35) = w1 at *
  refine (hpe.out _).mono ?_
  rintro e w2 ⟨rfl, hb⟩
  replace hz := hz.below hb
  replace hy := hy.below hb
  replace hB := below_step hB hb
  clear z0 z1 z2 hb hpe
  obtain ⟨z0, z1, z2⟩ := id hz
  by_cases h0 : pathErr path.data.toList = 0
  · have HF1 : Hid (fileErr ⟨path.data.toList, mdF n P V, mdF m Q U⟩ = if 20 < n ∨ 20 < m then (7, -1) else orE (firstE (reqE path.data.toList (mdF n P V)) n) (orE (firstE (excE (mdF m Q U)) m) (firstE (claE (mdF n P V) (mdF m Q U)) n))) := Lib.hid (by rw [HFE.out, if_neg (by simp [h0])])
    rw [h0]
    clear h0 HFE
    by_cases hbig : 20 < n ∨ 20 < m
    · have HF : Hid (fileErr ⟨path.data.toList, mdF n P V, mdF m Q U⟩ = (7, -1)) := Lib.hid (by rw [HF1.out, if_pos hbig])
      have hba := fun W => refBare_calls 7 W
      unfold fltV at hba
      replace hba := Lib.hid hba
      by_cases hn20 : 20 < n
      · have hn20' : (20 : Int) < (n : Int) := by omega
        clear hbig
        go_wp2_with fail
        refine (hba.out _).mono ?_
        rintro e w3 ⟨rfl, hb⟩
        have hB3 := below_step hB hb
        obtain ⟨y0, y1, yf⟩ := hy.below hb
        go_wp2_with fail
        refine bodyPost_ret (v := fltV (7, -1)) (by simp [results, Tryz.results17, fltV, go_sem, *]) rfl ?_
        rw [HF.out]
        exact ⟨rfl, (hB3.setCell (p := ⟨w.heap.size + 1, 0, none⟩) (Nat.le_succ _) _).setCell (p := ⟨w.heap.size + 1, 1, none⟩) (Nat.le_succ _) _⟩
      · have hn20' : ¬ (20 : Int) < (n : Int) := by omega
        have hm20' : (20 : Int) < (m : Int) := by omega
        clear hbig
        go_wp2_with fail
        refine (hba.out _).mono ?_
        rintro e w3 ⟨rfl, hb⟩
        have hB3 := below_step hB hb
        obtain ⟨y0, y1, yf⟩ := hy.below hb
        go_wp2_with fail
        refine bodyPost_ret (v := fltV (7, -1)) (by simp [results, Tryz.results17, fltV, go_sem, *]) rfl ?_
        rw [HF.out]
        exact ⟨rfl, (hB3.setCell (p := ⟨w.heap.size + 1, 0, none⟩) (Nat.le_succ _) _).setCell (p := ⟨w.heap.size + 1, 1, none⟩) (Nat.le_succ _) _⟩
    · have hn20' : ¬ (20 : Int) < (n : Int) := by omega
      have hm20' : ¬ (20 : Int) < (m : Int) := by omega
      have HF2 : Hid (fileErr ⟨path.data.toList, mdF n P V, mdF m Q U⟩ = orE (firstE (reqE path.data.toList (mdF n P V)) n) (orE (firstE (excE (mdF m Q U)) m) (firstE (claE (mdF n P V) (mdF m Q U)) n))) := Lib.hid (by rw [HF1.out, if_neg hbig])
      have hre := reqsError_calls path (.slice a n cap) (mdF n P V) w2 (HRM.out.below hB) HSR.out
      rw [mdF_length] at hre
      generalize hr1 : firstE (reqE path.data.toList (mdF n P V)) n = r1 at *
      by_cases hz1 : r1.1 = 0
      · have hrq : rqP r1 = (0, 0) := by unfold rqP; rw [if_pos hz1]
        rw [hrq] at hre
        have HF3 : Hid (fileErr ⟨path.data.toList, mdF n P V, mdF m Q U⟩ = orE (firstE (excE (mdF m Q U)) m) (firstE (claE (mdF n P V) (mdF m Q U)) n)) := Lib.hid (by rw [HF2.out]; unfold orE; rw [if_neg (by simp [hz1])])
        replace hre := Lib.hid hre
        clear hz1 hrq hr1 hbig HF2 HF1
        go_wp2_with fail
        refine hre.out.mono ?_
        rintro e w3 ⟨rfl, hb⟩
        replace hz := hz.below hb
        replace hy := hy.below hb
        replace hB := below_step hB hb
        clear z0 z1 z2 hb hre hn20' hm20'
        obtain ⟨z0, z1, z2⟩ := id hz
        go_wp2_with fail
        go_loopw [5] (fun i wr => ∃ k : Nat, k ≤ m ∧ i = .int .i64 k ∧ Below w3.heap.size w3 wr ∧ Hid (∀ j, j < k → excE (mdF m Q U) j = 0)) (fun i _ => m - (intOf i).toNat)
        case atStart => exact ⟨0, Nat.zero_le _, rfl, Below.refl _ _, Lib.hid (fun j hj => absurd hj (Nat.not_lt_zero _))⟩
        case round =>
          obtain ⟨k, hk, rfl, hBk, HA⟩ := hrel
          have x2 := Below.cell_some hBk z2
          have hyk := hy.below hBk
          have hBw := below_step hB hBk
          have hc3 : ∀ j, j < m → ∃ b o, a2 = some ⟨b, o, none⟩ ∧ wr.cell? ⟨b, o + j * 2, none⟩ = some (.string (Q j)) ∧ wr.cell? ⟨b, o + j * 2 + 1, none⟩ = some (.string (U j)) := fun j hj => let ⟨b, o, e, h1, h2⟩ := hc2.out j hj; ⟨b, o, e, Below.cell_some hBw h1, Below.cell_some hBw h2⟩
          replace hc3 := Lib.hid hc3
          by_cases hlt : k < m
          · have hkn : (k : Int) < (m : Int) := by omega
            obtain ⟨b1, o1, ea, c0, c1⟩ := hc3.out k hlt
            have hme := refModErr_calls (Q k) (U k) wr (by have := (HQ.out k hlt).1; omega) (by have := (HQ.out k hlt).2; omega)
            have hR : excE (mdF m Q U) k = if modErr (Q k).data.toList (U k).data.toList ≠ 0 then modErr (Q k).data.toList (U k).data.toList else if 0 < k ∧ modAhead (mdAt (mdF m Q U) (k - 1)) ((Q k).data.toList, (U k).data.toList) = false then 8 else 0 := by
              unfold excE
              rw [mdAt_mdF hlt]; rfl
            by_cases h0 : modErr (Q k).data.toList (U k).data.toList = 0
            · rw [if_neg (by simp [h0])] at hR
              rw [h0] at hme
              by_cases hi0 : k = 0
              · subst hi0
                subst ea
                rw [if_neg (fun h => absurd h.1 (Nat.lt_irrefl _))] at hR
                have HN : Hid (∀ j, j < 0 + 1 → excE (mdF m Q U) j = 0) := Lib.hid (fun j hj => by
                  obtain rfl : j = 0 := by omega
                  exact hR)
                replace hme := Lib.hid hme
                simp only [Nat.zero_mul, Nat.add_zero] at c0 c1
                clear h0 hR hyk hBw
                go_wp2_with fail
                refine hme.out.mono ?_
                rintro e w4 ⟨rfl, hb⟩
                have hB4 := below_step hBk hb
                clear hb
                go_wp2_with fail
                go_roundw
                case rel => exact ⟨1, by omega, by go_num, hB4, HN⟩
                case measure => simp [intOf]; omega
              · obtain ⟨q, rfl⟩ : ∃ q, k = q + 1 := ⟨k - 1, by omega⟩
                rw [Nat.add_sub_cancel, mdAt_mdF (show q < m by omega)] at hR
                have hk0 : (0 : Int) < ((q + 1 : Nat) : Int) := by omega
                have hk1 : ((q + 1 : Nat) : Int) - 1 = (q : Int) := by omega
                have hkw := wrap_nat q (by omega)
                have hkn2 : (q : Int) < (m : Int) := by omega
                have hkn3 : (q : Int) + 1 < (m : Int) := by omega
                have hkn4 : ((q : Int) + 1).toNat = q + 1 := by omega
                have hkn5 : (0 : Int) ≤ (q : Int) + 1 := by omega
                have hkn6 : ¬ ((q : Int) + 1 < 0) := by omega
                have hkn7 : ((q : Int) + 1 - 1) = (q : Int) := by omega
                obtain ⟨b2, o2, e1, c3, c4⟩ := hc3.out q (by omega)
                rw [ea] at e1
                injection e1 with e1
                injection e1 with e1 e2
                subst e1 e2 ea
                have hia := fun W => isAhead_calls (Q q) (U q) (Q (q + 1)) (U (q + 1)) W (by have := (HQ.out q (by omega)).2; omega) (by have := (HQ.out (q + 1) hlt).2; omega)
                replace hme := Lib.hid hme
                cases hX : modAhead ((Q q).data.toList, (U q).data.toList) ((Q (q + 1)).data.toList, (U (q + 1)).data.toList) with
                | true =>
                  rw [if_neg (fun h => by rw [hX] at h; cases h.2)] at hR
                  rw [hX] at hia
                  have HN : Hid (∀ j, j < q + 1 + 1 → excE (mdF m Q U) j = 0) := Lib.hid (fun j hj => by
                    by_cases e : j = q + 1
                    · subst e; exact hR
                    · exact HA.out j (by omega))
                  replace hia := Lib.hid hia
                  clear h0 hR hX hyk hBw
                  go_wp2_with fail
                  refine hme.out.mono ?_
                  rintro e w4 ⟨rfl, hb⟩
                  have hB4 := below_step hBk hb
                  replace x2 := Below.cell_some hb x2
                  replace c0 := Below.cell_some hb c0
                  replace c1 := Below.cell_some hb c1
                  replace c3 := Below.cell_some hb c3
                  replace c4 := Below.cell_some hb c4
                  clear hb hBk
                  go_wp2_with fail
                  have kqx2 := fun d os => cell_patch (d := d) (os := os) x2
                  have kqc0 := fun d os => cell_patch (d := d) (os := os) c0
                  have kqc1 := fun d os => cell_patch (d := d) (os := os) c1
                  have kqc3 := fun d os => cell_patch (d := d) (os := os) c3
                  have kqc4 := fun d os => cell_patch (d := d) (os := os) c4
                  refine wp_region_quiet_patch (by kernel_rfl) (by kernel_rfl) ?_
                  repeat (go_big_quiet_step ((go_at_call 71; exact Calls.patch_of (hia.out _))))
                  refine wpQuiet_nil ?_
                  intro _ hw'
                  obtain ⟨⟨dq, osq⟩, hw''⟩ := hw'
                  subst hw''
                  clear kqx2 kqc0 kqc1 kqc3 kqc4
                  have hb := below_patch w4 dq osq
                  replace hB4 := below_step hB4 hb
                  clear hb
                  generalize patch w4 dq osq = w5 at hB4 ⊢
                  clear x2 c0 c1 c3 c4
                  go_wp2_with fail
                  go_roundw
                  case rel => exact ⟨q + 1 + 1, by omega, by go_num, hB4, HN⟩
                  case measure => simp [intOf]; omega
                | false =>
                  rw [if_pos ⟨Nat.succ_pos q, hX⟩] at hR
                  rw [hX] at hia
                  have HF : Hid (fileErr ⟨path.data.toList, mdF n P V, mdF m Q U⟩ = (8, ((q + 1 : Nat) : Int))) := Lib.hid (by rw [HF3.out]; unfold orE; rw [firstE_hit (by rw [hR]; decide) HA.out hlt, hR, if_pos (by simp)])
                  replace hia := Lib.hid hia
                  clear h0 hR hX hBk
                  go_wp2_with fail
                  refine hme.out.mono ?_
                  rintro e w4 ⟨rfl, hb⟩
                  replace hBw := below_step hBw hb
                  replace hyk := hyk.below hb
                  replace x2 := Below.cell_some hb x2
                  replace c0 := Below.cell_some hb c0
                  replace c1 := Below.cell_some hb c1
                  replace c3 := Below.cell_some hb c3
                  replace c4 := Below.cell_some hb c4
                  clear hb
                  go_wp2_with fail
                  have kqx2 := fun d os => cell_patch (d := d) (os := os) x2
                  have kqc0 := fun d os => cell_patch (d := d) (os := os) c0
                  have kqc1 := fun d os => cell_patch (d := d) (os := os) c1
                  have kqc3 := fun d os => cell_patch (d := d) (os := os) c3
                  have kqc4 := fun d os => cell_patch (d := d) (os := os) c4
                  refine wp_region_quiet_patch (by kernel_rfl) (by kernel_rfl) ?_
                  repeat (go_big_quiet_step ((go_at_call 71; exact Calls.patch_of (hia.out _))))
                  refine wpQuiet_nil ?_
                  intro _ hw'
                  obtain ⟨⟨dq, osq⟩, hw''⟩ := hw'
                  subst hw''
                  clear kqx2 kqc0 kqc1 kqc3 kqc4
                  have hb := below_patch w4 dq osq
                  replace hBw := below_step hBw hb
                  replace hyk := hyk.below hb
                  clear hb
                  generalize patch w4 dq osq = w5 at hBw hyk ⊢
                  clear x2 c0 c1 c3 c4
                  obtain ⟨y0, y1, yf⟩ := hyk
                  go_wp2_with fail
                  refine bodyPost_ret (v := fltV (8, ((q + 1 : Nat) : Int))) (by simp [results, Tryz.results17, fltV, go_sem, *]) rfl ?_
                  rw [HF.out]
                  exact ⟨rfl, (hBw.setCell (p := ⟨w.heap.size + 1, 0, none⟩) (Nat.le_succ _) _).setCell (p := ⟨w.heap.size + 1, 1, none⟩) (Nat.le_succ _) _⟩
            · rw [if_pos h0] at hR
              have HF : Hid (fileErr ⟨path.data.toList, mdF n P V, mdF m Q U⟩ = (modErr (Q k).data.toList (U k).data.toList, (k : Int))) := Lib.hid (by rw [HF3.out]; unfold orE; rw [firstE_hit (by rw [hR]; exact h0) HA.out hlt, hR, if_pos h0])
              generalize modErr (Q k).data.toList (U k).data.toList = c at *
              have hc9 : (0 : Int) < (c : Int) := by omega
              have hc8 : ((c : Int) == 0) = false := beq_eq_false_iff_ne.2 (by omega)
              subst ea
              replace hme := Lib.hid hme
              clear h0 hR hBk
              go_wp2_with fail
              refine hme.out.mono ?_
              rintro e w4 ⟨rfl, hb⟩
              replace hBw := below_step hBw hb
              obtain ⟨y0, y1, yf⟩ := hyk.below hb
              clear hb
              go_wp2_with fail
              refine bodyPost_ret (v := fltV (c, (k : Int))) (by simp [results, Tryz.results17, fltV, go_sem, *]) rfl ?_
              rw [HF.out]
              exact ⟨rfl, (hBw.setCell (p := ⟨w.heap.size + 1, 0, none⟩) (Nat.le_succ _) _).setCell (p := ⟨w.heap.size + 1, 1, none⟩) (Nat.le_succ _) _⟩
          · obtain rfl : m = k := by omega
            have HF4 : Hid (fileErr ⟨path.data.toList, mdF n P V, mdF m Q U⟩ = firstE (claE (mdF n P V) (mdF m Q U)) n) := Lib.hid (by rw [HF3.out]; unfold orE; rw [firstE_none HA.out, if_neg (by simp)])
            have x1 := Below.cell_some hBk z1
            clear HF3 HA hlt hk z0 z1 z2 hBk hz hy hB hc3
            go_wp2_with fail
            generalize wr = w9 at *
            go_loopw [8] (fun i wr => ∃ k : Nat, k ≤ n ∧ i = .int .i64 k ∧ Below w9.heap.size w9 wr ∧ Hid (∀ j, j < k → claE (mdF n P V) (mdF m Q U) j = 0)) (fun i _ => n - (intOf i).toNat)
            case atStart => exact ⟨0, Nat.zero_le _, rfl, Below.refl _ _, Lib.hid (fun j hj => absurd hj (Nat.not_lt_zero _))⟩
            case round =>
              obtain ⟨k, hk, rfl, hBk, HA⟩ := hrel
              have x5 := Below.cell_some hBk x1
              by_cases hlt : k < n
              · have hkn : (k : Int) < (n : Int) := by omega
                go_wp2_with fail
                obtain ⟨b1, o1, ea, c0, c1⟩ := hc.out k hlt
                replace c0 := (hBw.cell (lt_of_cell c0)).trans c0
                replace c1 := (hBw.cell (lt_of_cell c1)).trans c1
                subst ea
                clear x5
                go_loopw [9] (fun i wr => ∃ q : Nat, q ≤ m ∧ i = .int .i64 q ∧ Below w9.heap.size w9 wr ∧ Hid (∀ j, j < q → ((Q j).data.toList, (U j).data.toList) ≠ ((P k).data.toList, (V k).data.toList))) (fun i _ => m - (intOf i).toNat)
                case atStart => exact ⟨0, Nat.zero_le _, rfl, hBk, Lib.hid (fun j hj => absurd hj (Nat.not_lt_zero _))⟩
                case round =>
                  clear hBk
                  obtain ⟨q, hq, rfl, hBk, HA2⟩ := hrel
                  have x6 := Below.cell_some hBk x1
                  have x7 := Below.cell_some hBk x2
                  by_cases hq2 : q < m
                  · have hqn : (q : Int) < (m : Int) := by omega
                    have hg := Tryz.md_guard
                    have he := md_eql (P k) (V k) (Q q) (U q)
                    obtain ⟨b2, o2, eb, d0, d1⟩ := hc2.out q hq2
                    replace d0 := Below.cell_some hBk ((hBw.cell (lt_of_cell d0)).trans d0)
                    replace d1 := Below.cell_some hBk ((hBw.cell (lt_of_cell d1)).trans d1)
                    have e0 := Below.cell_some hBk c0
                    have e1 := Below.cell_some hBk c1
                    subst eb
                    by_cases hm2 : ((Q q).data.toList, (U q).data.toList) = ((P k).data.toList, (V k).data.toList)
                    · have hcl : claE (mdF n P V) (mdF m Q U) k = 9 := by
                        unfold claE
                        rw [mdAt_mdF hlt, if_pos]
                        rw [← hm2]
                        exact List.mem_of_getElem? (mdF_get m Q U q hq2)
                      have HF : Hid (fileErr ⟨path.data.toList, mdF n P V, mdF m Q U⟩ = (9, (k : Int))) := Lib.hid (by rw [HF4.out, firstE_hit (by rw [hcl]; decide) HA.out hlt, hcl])
                      have hd : decide (P k = Q q ∧ V k = U q) = true := decide_eq_true (bytes_pair.1 hm2.symm)
                      simp only [hd] at he
                      have hBx := below_step hBw hBk
                      have hyx := hyk.below hBk
                      clear hm2 hcl hd hBk
                      go_wp2_with fail
                      have kqx6 := fun d os => cell_patch (d := d) (os := os) x6
                      have kqx7 := fun d os => cell_patch (d := d) (os := os) x7
                      have kqd0 := fun d os => cell_patch (d := d) (os := os) d0
                      have kqd1 := fun d os => cell_patch (d := d) (os := os) d1
                      have kqe0 := fun d os => cell_patch (d := d) (os := os) e0
                      have kqe1 := fun d os => cell_patch (d := d) (os := os) e1
                      refine wp_region_quiet_patch (by kernel_rfl) (by kernel_rfl) ?_
                      repeat (go_big_quiet_step (fail))
                      refine wpQuiet_nil ?_
                      intro _ hw'
                      obtain ⟨⟨dq, osq⟩, hw''⟩ := hw'
                      subst hw''
                      clear kqx6 kqx7 kqd0 kqd1 kqe0 kqe1
                      have hb := below_patch wr dq osq
                      replace hBx := below_step hBx hb
                      replace hyx := hyx.below hb
                      clear hb
                      generalize patch wr dq osq = wq1 at hBx hyx ⊢
                      clear x6 x7 d0 d1 e0 e1
                      obtain ⟨y0, y1, yf⟩ := hyx
                      go_wp2_with fail
                      refine bodyPost_ret (v := fltV (9, (k : Int))) (by simp [results, Tryz.results17, fltV, go_sem, *]) rfl ?_
                      rw [HF.out]
                      exact ⟨rfl, (hBx.setCell (p := ⟨w.heap.size + 1, 0, none⟩) (Nat.le_succ _) _).setCell (p := ⟨w.heap.size + 1, 1, none⟩) (Nat.le_succ _) _⟩
                    · have hd : decide (P k = Q q ∧ V k = U q) = false := decide_eq_false (fun h => hm2 (bytes_pair.2 h).symm)
                      simp only [hd] at he
                      have HN2 : Hid (∀ j, j < q + 1 → ((Q j).data.toList, (U j).data.toList) ≠ ((P k).data.toList, (V k).data.toList)) := Lib.hid (fun j hj => by
                        by_cases e : j = q
                        · subst e; exact hm2
                        · exact HA2.out j (by omega))
                      clear hm2 hd
                      go_wp2_with fail
                      have kqx6 := fun d os => cell_patch (d := d) (os := os) x6
                      have kqx7 := fun d os => cell_patch (d := d) (os := os) x7
                      have kqd0 := fun d os => cell_patch (d := d) (os := os) d0
                      have kqd1 := fun d os => cell_patch (d := d) (os := os) d1
                      have kqe0 := fun d os => cell_patch (d := d) (os := os) e0
                      have kqe1 := fun d os => cell_patch (d := d) (os := os) e1
                      refine wp_region_quiet_patch (by kernel_rfl) (by kernel_rfl) ?_
                      repeat (go_big_quiet_step (fail))
                      refine wpQuiet_nil ?_
                      intro _ hw'
                      obtain ⟨⟨dq, osq⟩, hw''⟩ := hw'
                      subst hw''
                      clear kqx6 kqx7 kqd0 kqd1 kqe0 kqe1
                      have hb := below_patch wr dq osq
                      replace hBk := below_step hBk hb
                      clear hb
                      generalize patch wr dq osq = wq1 at hBk ⊢
                      clear x6 x7 d0 d1 e0 e1
                      go_wp2_with fail
                      go_roundw
                      case rel => exact ⟨q + 1, by omega, by go_num, hBk, HN2⟩
                      case measure => simp [intOf]; omega
                  · obtain rfl : m = q := by omega
                    have hcl : claE (mdF n P V) (mdF m Q U) k = 0 := by
                      unfold claE
                      rw [mdAt_mdF hlt, if_neg]
                      intro hmem
                      obtain ⟨i, hi⟩ := List.getElem?_of_mem hmem
                      have hil : i < m := by have := (List.getElem?_eq_some_iff.1 hi).1; rwa [mdF_length] at this
                      rw [mdF_get m Q U i hil] at hi
                      exact HA2.out i hil (Option.some.inj hi)
                    have HN : Hid (∀ j, j < k + 1 → claE (mdF n P V) (mdF m Q U) j = 0) := Lib.hid (fun j hj => by
                      by_cases e : j = k
                      · subst e; exact hcl
                      · exact HA.out j (by omega))
                    clear hcl
                    go_wp2_with fail
                    go_roundw
                    case rel => exact ⟨k + 1, by omega, by go_num, hBk, HN⟩
                    case measure => simp [intOf]; omega
              · obtain rfl : n = k := by omega
                have HF : Hid (fileErr ⟨path.data.toList, mdF n P V, mdF m Q U⟩ = (0, -1)) := Lib.hid (by rw [HF4.out, firstE_none HA.out])
                have hfi := fun W => refFine_calls W
                unfold fltV at hfi
                have hBx := below_step hBw hBk
                replace hfi := Lib.hid hfi
                go_wp2_with fail
                refine (hfi.out _).mono ?_
                rintro e w7 ⟨rfl, hb⟩
                have hB7 := below_step hBx hb
                obtain ⟨y0, y1, yf⟩ := (hyk.below hBk).below hb
                go_wp2_with fail
                refine bodyPost_ret (v := fltV (0, -1)) (by simp [results, Tryz.results17, fltV, go_sem, *]) rfl ?_
                rw [HF.out]
                exact ⟨rfl, (hB7.setCell (p := ⟨w.heap.size + 1, 0, none⟩) (Nat.le_succ _) _).setCell (p := ⟨w.heap.size + 1, 1, none⟩) (Nat.le_succ _) _⟩
      · have hrq : rqP r1 = r1 := by unfold rqP; rw [if_neg hz1]
        rw [hrq] at hre
        have HF : Hid (fileErr ⟨path.data.toList, mdF n P V, mdF m Q U⟩ = r1) := Lib.hid (by rw [HF2.out]; unfold orE; rw [if_pos hz1])
        obtain ⟨rc, rat⟩ := r1
        have hrc : (0 : Int) < (rc : Int) := by simp at hz1; omega
        replace hre := Lib.hid hre
        clear hz1 hrq hr1 hbig
        go_wp2_with fail
        refine hre.out.mono ?_
        rintro e w3 ⟨rfl, hb⟩
        have hB3 := below_step hB hb
        obtain ⟨y0, y1, yf⟩ := hy.below hb
        go_wp2_with fail
        refine bodyPost_ret (v := fltV (rc, rat)) (by simp [results, Tryz.results17, fltV, go_sem, *]) rfl ?_
        rw [HF.out]
        exact ⟨rfl, (hB3.setCell (p := ⟨w.heap.size + 1, 0, none⟩) (Nat.le_succ _) _).setCell (p := ⟨w.heap.size + 1, 1, none⟩) (Nat.le_succ _) _⟩
  · have HF : Hid (fileErr ⟨path.data.toList, mdF n P V, mdF m Q U⟩ = (pathErr path.data.toList, -1)) := Lib.hid (by rw [HFE.out, if_pos h0])
    generalize pathErr path.data.toList = c at *
    have hc9 : (0 : Int) < (c : Int) := by omega
    have hba := fun W => refBare_calls c W
    unfold fltV at hba
    replace hba := Lib.hid hba
    clear h0
    go_wp2_with fail
    refine (hba.out _).mono ?_
    rintro e w3 ⟨rfl, hb⟩
    have hB3 := below_step hB hb
    obtain ⟨y0, y1, yf⟩ := hy.below hb
    go_wp2_with fail
    refine bodyPost_ret (v := fltV (c, -1)) (by simp [results, Tryz.results17, fltV, go_sem, *]) rfl ?_
    rw [HF.out]
    exact ⟨rfl, (hB3.setCell (p := ⟨w.heap.size + 1, 0, none⟩) (Nat.le_succ _) _).setCell (p := ⟨w.heap.size + 1, 1, none⟩) (Nat.le_succ _) _⟩
end Go.Proofs.Pw

/- R.FileText. Conditions: texts of at most 1000000 bytes, lists of at most 1000000. -/
namespace Go.Proofs.Pw
open Go.RowKit
open Go.Lib hiding intOf

theorem mlines_take {w : Str} {n : Nat} {P V : Nat → ByteArray} {k : Nat} (h : k < n) : mlines w ((mdF n P V).take (k + 1)) = mlines w ((mdF n P V).take k) ++ (mline w ((P k).data.toList, (V k).data.toList) ++ [10]) := by
  rw [mdF_take_succ n P V k h, mlines_snoc]
theorem bytes_toArr (b : ByteArray) : (⟨b.data.toList.toArray⟩ : ByteArray) = b := by
  obtain ⟨⟨l⟩⟩ := b
  rfl
theorem flt_code (k : Nat) (x : Int) (w : World) : (Instr.field 35 (.agg #[.int .i64 (k : Nat), .int .i64 x]) 0).run Tryz.prog w = .ok (.int .i64 (k : Nat)) w := by kernel_rfl
set_option maxHeartbeats 8000000 in
set_option maxRecDepth 100000 in
theorem refText_calls (path : ByteArray) (rv xv : Value) (reqs excl : List Md) (w : World) (hr : ModsAt w rv reqs) (hx : ModsAt w xv excl) (hp : path.size ≤ 1000000) (hsr : Short reqs) (hsx : Short excl) :
    Calls Tryz.prog 19 #[.agg #[.string path, rv, xv]] w fun e w' => e = .returned (.string ⟨(fileText ⟨path.data.toList, reqs, excl⟩).toArray⟩) ∧ Below w.heap.size w w' := by
  have hB := below_alloc w (.cells #[.string path, rv, xv] 24)
  have hff := refFault_calls path rv xv reqs excl (w.alloc (.cells #[.string path, rv, xv] 24)) (hr.below hB) (hx.below hB) hp hsr hsx
  obtain ⟨a, n, cap, P, V, rfl, rfl, hnc, hcap, hc⟩ := hr
  obtain ⟨a2, m, cap2, Q, U, rfl, rfl, hmc, hcap2, hc2⟩ := hx
  have HP := Lib.hid (short_F hsr).2
  have HQ := Lib.hid (short_F hsx).2
  have hz := box3_alloc w (.string path) (.slice a n cap) (.slice a2 m cap2) 24
  generalize hf0 : (⟨path.data.toList, mdF n P V, mdF m Q U⟩ : Fl) = f at *
  have HF0 := Lib.hid hf0
  generalize hr0 : fileErr f = r at *
  have HR0 := Lib.hid hr0
  replace hff := Lib.hid hff
  replace hc := Lib.hid hc
  replace hc2 := Lib.hid hc2
  clear hf0 hr0 hsr hsx
  obtain ⟨z0, z1, z2⟩ := id hz
  go_enter Tryz.func19, Tryz.ntmps19
  go_wp2_with fail
  generalize w.alloc (.cells #[.string path, .slice a n cap, .slice a2 m cap2] 24) = w1 at *
  refine hff.out.mono ?_
  rintro e w3 ⟨rfl, hb⟩
  replace hz := hz.below hb
  replace hB := below_step hB hb
  clear z0 z1 z2 hb hff
  obtain ⟨z0, z1, z2⟩ := id hz
  obtain ⟨rc, rat⟩ := r
  have hfd := flt_code rc rat
  unfold fltV
  by_cases h0 : rc = 0
  · subst h0
    replace hfd : ∀ W, (Instr.field 35 (.agg #[.int .i64 0, .int .i64 rat]) 0).run Tryz.prog W = .ok (.int .i64 0) W := hfd
    have hRi := right_of (f := f) (by rw [HR0.out])
    have hn20 : n ≤ 20 := by have := hRi.reqs; rw [← HF0.out] at this; simp only [mdF_length] at this; exact this
    have hm20 : m ≤ 20 := by have := hRi.excl; rw [← HF0.out] at this; simp only [mdF_length] at this; exact this
    have HT : Hid (fileText f = modW ++ [32] ++ path.data.toList ++ [10] ++ mlines reqW (mdF n P V) ++ mlines excW (mdF m Q U)) := Lib.hid (by
      unfold fileText
      rw [if_pos (by rw [HR0.out])]
      unfold fileTxt
      rw [← HF0.out])
    clear hRi
    obtain ⟨S0, hS0⟩ : ∃ S0 : ByteArray, S0 = ⟨#[109, 111, 100, 117, 108, 101, 32]⟩ ++ path ++ ⟨#[10]⟩ := ⟨_, rfl⟩
    have hs0 : S0.size ≤ 1000010 := by rw [hS0]; simp [ByteArray.size_append]; have : (⟨#[109, 111, 100, 117, 108, 101, 32]⟩ : ByteArray).size = 7 := rfl; have : (⟨#[10]⟩ : ByteArray).size = 1 := rfl; omega
    have hS1 : Hid (S0.data.toList = modW ++ [32] ++ path.data.toList ++ [10]) := Lib.hid (by rw [hS0]; simp [modW])
    go_wp2_with fail
    rw [← hS0]
    clear hS0 hfd
    go_loopw [3, 4] (fun s i wr => ∃ (k : Nat) (S : ByteArray), k ≤ n ∧ i = .int .i64 k ∧ s = .string S ∧ S.size ≤ 1000010 + k * 3000000 ∧ Hid (S.data.toList = S0.data.toList ++ mlines reqW ((mdF n P V).take k)) ∧ Below w3.heap.size w3 wr) (fun _ i _ => n - (intOf i).toNat)
    case atStart => exact ⟨0, S0, Nat.zero_le _, rfl, rfl, by omega, Lib.hid (by simp [mlines_nil]), Below.refl _ _⟩
    case round =>
      obtain ⟨k, S, hk, rfl, rfl, hSs, hTk, hBk⟩ := hrel
      have x1 := Below.cell_some hBk z1
      have hBw := below_step hB hBk
      by_cases hlt : k < n
      · have hkn : (k : Int) < (n : Int) := by omega
        obtain ⟨b1, o1, ea, c0, c1⟩ := hc.out k hlt
        replace c0 := (hBw.cell (lt_of_cell c0)).trans c0
        replace c1 := (hBw.cell (lt_of_cell c1)).trans c1
        have hPk := (HP.out k hlt).1
        have hVk := (HP.out k hlt).2
        subst ea
        obtain ⟨S', hS'⟩ : ∃ S' : ByteArray, S' = S ++ ⟨#[114, 101, 113, 117, 105, 114, 101, 32]⟩ ++ P k ++ ⟨#[32]⟩ ++ V k ++ ⟨#[10]⟩ := ⟨_, rfl⟩
        have hsz : S'.size ≤ 1000010 + (k + 1) * 3000000 := by
          rw [hS']
          simp only [ByteArray.size_append]
          have h8 : (⟨#[114, 101, 113, 117, 105, 114, 101, 32]⟩ : ByteArray).size = 8 := rfl
          have h1 : (⟨#[32]⟩ : ByteArray).size = 1 := rfl
          have h2 : (⟨#[10]⟩ : ByteArray).size = 1 := rfl
          omega
        have hN : Hid (S'.data.toList = S0.data.toList ++ mlines reqW ((mdF n P V).take (k + 1))) := Lib.hid (by
          rw [mlines_take hlt, ← List.append_assoc, ← hTk.out, hS']
          simp [mline, reqW])
        go_wp2_with fail
        have kqx1 := fun d os => cell_patch (d := d) (os := os) x1
        have kqc0 := fun d os => cell_patch (d := d) (os := os) c0
        have kqc1 := fun d os => cell_patch (d := d) (os := os) c1
        refine wp_region_quiet_patch (by kernel_rfl) (by kernel_rfl) ?_
        repeat (go_big_quiet_step (fail))
        refine wpQuiet_nil ?_
        intro _ hw'
        obtain ⟨⟨dq, osq⟩, hw''⟩ := hw'
        subst hw''
        clear kqx1 kqc0 kqc1
        have hb := below_patch wr dq osq
        replace hBk := below_step hBk hb
        clear hb
        generalize patch wr dq osq = wq1 at hBk ⊢
        go_wp2_with fail
        rw [← hS']
        go_roundw
        case rel => exact ⟨k + 1, S', by omega, by go_num, rfl, hsz, hN, hBk⟩
        case measure => simp [intOf]; omega
      · obtain rfl : n = k := by omega
        rw [mdF_take_all] at hTk
        have x2 := Below.cell_some hBk z2
        obtain ⟨S1, hS1e⟩ : ∃ S1 : ByteArray, S1 = S := ⟨_, rfl⟩
        subst hS1e
        have hs1 : S1.size ≤ 100000000 := by omega
        clear hSs hlt hk z0 z1 z2 hz hs0
        go_wp2_with fail
        clear x1
        generalize wr = w9 at *
        go_loopw [3, 5] (fun s i wr => ∃ (k : Nat) (S : ByteArray), k ≤ m ∧ i = .int .i64 k ∧ s = .string S ∧ S.size ≤ 100000000 + k * 3000000 ∧ Hid (S.data.toList = S1.data.toList ++ mlines excW ((mdF m Q U).take k)) ∧ Below w9.heap.size w9 wr) (fun _ i _ => m - (intOf i).toNat)
        case atStart => exact ⟨0, S1, Nat.zero_le _, rfl, rfl, by omega, Lib.hid (by simp [mlines_nil]), Below.refl _ _⟩
        case round =>
          obtain ⟨k, S, hk, rfl, rfl, hSs, hTe, hBe⟩ := hrel
          replace x2 := Below.cell_some hBe x2
          have hBw2 := below_step hBw hBe
          by_cases hlt : k < m
          · have hkn : (k : Int) < (m : Int) := by omega
            obtain ⟨b1, o1, ea, c0, c1⟩ := hc2.out k hlt
            replace c0 := (hBw2.cell (lt_of_cell c0)).trans c0
            replace c1 := (hBw2.cell (lt_of_cell c1)).trans c1
            have hPk := (HQ.out k hlt).1
            have hVk := (HQ.out k hlt).2
            subst ea
            obtain ⟨S', hS'⟩ : ∃ S' : ByteArray, S' = S ++ ⟨#[101, 120, 99, 108, 117, 100, 101, 32]⟩ ++ Q k ++ ⟨#[32]⟩ ++ U k ++ ⟨#[10]⟩ := ⟨_, rfl⟩
            have hsz : S'.size ≤ 100000000 + (k + 1) * 3000000 := by
              rw [hS']
              simp only [ByteArray.size_append]
              have h8 : (⟨#[101, 120, 99, 108, 117, 100, 101, 32]⟩ : ByteArray).size = 8 := rfl
              have h1 : (⟨#[32]⟩ : ByteArray).size = 1 := rfl
              have h2 : (⟨#[10]⟩ : ByteArray).size = 1 := rfl
              omega
            have hN : Hid (S'.data.toList = S1.data.toList ++ mlines excW ((mdF m Q U).take (k + 1))) := Lib.hid (by
              rw [mlines_take hlt, ← List.append_assoc, ← hTe.out, hS']
              simp [mline, excW])
            go_wp2_with fail
            have kqx2 := fun d os => cell_patch (d := d) (os := os) x2
            have kqc0 := fun d os => cell_patch (d := d) (os := os) c0
            have kqc1 := fun d os => cell_patch (d := d) (os := os) c1
            refine wp_region_quiet_patch (by kernel_rfl) (by kernel_rfl) ?_
            repeat (go_big_quiet_step (fail))
            refine wpQuiet_nil ?_
            intro _ hw'
            obtain ⟨⟨dq, osq⟩, hw''⟩ := hw'
            subst hw''
            clear kqx2 kqc0 kqc1
            have hb := below_patch wr dq osq
            replace hBe := below_step hBe hb
            clear hb
            generalize patch wr dq osq = wq1 at hBe ⊢
            go_wp2_with fail
            rw [← hS']
            go_roundw
            case rel => exact ⟨k + 1, S', by omega, by go_num, rfl, hsz, hN, hBe⟩
            case measure => simp [intOf]; omega
          · obtain rfl : m = k := by omega
            rw [mdF_take_all] at hTe
            go_wp2_with fail
            go_ret
            refine ⟨?_, hBw2⟩
            rw [HT.out, ← hS1.out, ← hTk.out, ← hTe.out, bytes_toArr]
            rfl
  · have HT : Hid (fileText f = []) := Lib.hid (by unfold fileText; rw [if_neg (by rw [HR0.out]; exact h0)])
    have hc9 : (0 : Int) < (rc : Int) := by omega
    clear h0
    go_wp2_with fail
    go_ret
    rw [HT.out]
    exact ⟨rfl, hB⟩
end Go.Proofs.Pw

/- R.DropOf. Conditions: texts of at most 1000000 bytes, lists of at most 900000. -/
namespace Go.Proofs.Pw
open Go.RowKit
open Go.Lib hiding intOf

/-- what SetOf and DropOf hand back -/
def RSetOut (g : Fl × Nat) (w : World) (e : Ending) (w' : World) : Prop :=
  (∃ (p : ByteArray) (r x : Value), e = .returned (.tuple #[.agg #[.string p, r, x], .int .i64 (g.2 : Nat)]) ∧ p.data.toList = g.1.path ∧ ModsAt w' r g.1.reqs ∧ ModsAt w' x g.1.excl) ∧ Below w.heap.size w w'
theorem rsetOut_err {w w' : World} {k : Nat} (h : Below w.heap.size w w') : RSetOut (noFl, k) w (.returned (.tuple #[.agg #[.string ⟨#[]⟩, .slice none 0 0, .slice none 0 0], .int .i64 (k : Nat)])) w' :=
  ⟨⟨⟨#[]⟩, _, _, rfl, rfl, ModsAt.nil _, ModsAt.nil _⟩, h⟩
theorem fileDrop_eq (f : Fl) (p : Str) : fileDrop f p = if (fileErr f).1 ≠ 0 then (noFl, (fileErr f).1) else if findI (fun m : Md => decide (m.1 = p)) f.reqs < 0 then (noFl, 5) else ({ f with reqs := f.reqs.filter fun m => !decide (m.1 = p) }, 0) := rfl

set_option maxHeartbeats 8000000 in
set_option maxRecDepth 100000 in
theorem dropOf_calls (path s : ByteArray) (rv xv : Value) (reqs excl : List Md) (w : World) (hr : ModsAt w rv reqs) (hx : ModsAt w xv excl) (hp : path.size ≤ 1000000) (hsr : Short reqs) (hsx : Short excl) :
    Calls Tryz.prog 27 #[.agg #[.string path, rv, xv], .string s] w (RSetOut (fileDrop ⟨path.data.toList, reqs, excl⟩ s.data.toList) w) := by
  obtain ⟨i0, hi, hz0, hz1, hz2⟩ := info_parts Tryz.infoMod
  have HR := Lib.hid hr
  have HX := Lib.hid hx
  obtain ⟨a, n, cap, P, V, rfl, rfl, hnc, hcap, hc⟩ := hr
  obtain ⟨a2, m, cap2, Q, U, rfl, rfl, hmc, hcap2, hc2⟩ := hx
  have hb1 := below_alloc w (.cells #[.string path, .slice a n cap, .slice a2 m cap2] 24)
  have hb2 := below_alloc (w.alloc (.cells #[.string path, .slice a n cap, .slice a2 m cap2] 24)) (.cells #[.string ⟨#[]⟩, .slice none 0 0, .slice none 0 0] 24)
  have hB := below_step hb1 hb2
  have hz := (box3f_alloc w (.string path) (.slice a n cap) (.slice a2 m cap2) 24).below hb2
  have hy := box3f_alloc (w.alloc (.cells #[.string path, .slice a n cap, .slice a2 m cap2] 24)) (.string ⟨#[]⟩) (.slice none 0 0) (.slice none 0 0) 24
  simp only [World.size_alloc] at hy
  have hff := refFault_calls path (.slice a n cap) (.slice a2 m cap2) (mdF n P V) (mdF m Q U) _ (HR.out.below hB) (HX.out.below hB) hp hsr hsx
  generalize hf0 : (⟨path.data.toList, mdF n P V, mdF m Q U⟩ : Fl) = f at *
  have HF0 := Lib.hid hf0
  generalize hr0 : fileErr f = r at *
  have HR0 := Lib.hid hr0
  have hn : n ≤ 1000000 := (short_F hsr).1
  replace hff := Lib.hid hff
  replace hc := Lib.hid hc
  replace hc2 := Lib.hid hc2
  clear hf0 hr0 hsr hsx hb1 hb2
  obtain ⟨z0, z1, z2, zf⟩ := id hz
  go_enter Tryz.func27, Tryz.ntmps27
  go_wp2_with fail
  generalize hw1 : (w.alloc (.cells #[.string path, .slice a n cap, .slice a2 m cap2] 24)).alloc (.cells #[.string ⟨#[]⟩, .slice none 0 0, .slice none 0 0] 24) = w1 at *
  have hs1 : w1.heap.size = w.heap.size + 2 := by rw [← hw1]; simp
  clear hw1
  refine hff.out.mono ?_
  rintro e w2 ⟨rfl, hb⟩
  have hs2 := hb.size
  obtain ⟨rc, rat⟩ := r
  have hbf := below_alloc w2 (.cells #[.int .i64 (rc : Nat), .int .i64 rat] 35)
  have hf2 := box2_alloc w2 (.int .i64 (rc : Nat)) (.int .i64 rat) 35
  replace hb := below_step hb hbf
  replace hz := hz.below hb
  replace hy := hy.below hb
  replace hB := below_step hB hb
  clear z0 z1 z2 zf hb hff hbf
  obtain ⟨z0, z1, z2, zf⟩ := id hz
  obtain ⟨y0, y1, y2, yf⟩ := id hy
  obtain ⟨f0, f1, ff⟩ := id hf2
  unfold fltV
  have n1 : w.heap.size ≠ w.heap.size + 1 := by omega
  have n2 : w.heap.size + 1 ≠ w.heap.size := by omega
  have n3 : w2.heap.size ≠ w.heap.size + 1 := by omega
  have n4 : w.heap.size + 1 ≠ w2.heap.size := by omega
  by_cases h0 : rc = 0
  · subst h0
    clear z0 z1 z2 zf y0 y1 y2 yf f0 f1 ff
    replace hz : Box3f (w2.alloc (.cells #[.int .i64 0, .int .i64 rat] 35)) w.heap.size (.string path) (.slice a n cap) (.slice a2 m cap2) := hz
    replace hy : Box3f (w2.alloc (.cells #[.int .i64 0, .int .i64 rat] 35)) (w.heap.size + 1) (.string ⟨#[]⟩) (.slice none 0 0) (.slice none 0 0) := hy
    replace hf2 : Box2 (w2.alloc (.cells #[.int .i64 0, .int .i64 rat] 35)) w2.heap.size (.int .i64 0) (.int .i64 rat) := hf2
    replace hB : Below w.heap.size w (w2.alloc (.cells #[.int .i64 0, .int .i64 rat] 35)) := hB
    obtain ⟨z0, z1, z2, zf⟩ := id hz
    obtain ⟨y0, y1, y2, yf⟩ := id hy
    obtain ⟨f0, f1, ff⟩ := id hf2
    have hRi := right_of (f := f) (by rw [HR0.out])
    have hn20 : n ≤ 20 := by have := hRi.reqs; rw [← HF0.out] at this; simp only [mdF_length] at this; exact this
    clear hRi
    have hfp := fun (W : World) (hb : Below w.heap.size w W) => findPath_calls (.slice a n cap) (mdF n P V) s W (HR.out.below hb)
    have hreqs : f.reqs = mdF n P V := by rw [← HF0.out]
    have HQ := Lib.hid hreqs
    by_cases hneg : findI (fun m : Md => decide (m.1 = s.data.toList)) (mdF n P V) < 0
    · have HD : Hid (fileDrop f s.data.toList = (noFl, 5)) := Lib.hid (by rw [fileDrop_eq, HR0.out, if_neg (by simp), hreqs, if_pos hneg])
      generalize findI (fun m : Md => decide (m.1 = s.data.toList)) (mdF n P V) = x at *
      replace hfp := Lib.hid hfp
      clear hreqs
      go_wp2_with fail
      generalize w2.alloc (.cells #[.int .i64 0, .int .i64 rat] 35) = w3 at *
      refine (hfp.out _ hB).mono ?_
      rintro e w' ⟨rfl, rfl⟩
      go_wp2_with fail
      refine bodyPost_ret (v := .tuple #[.agg #[.string ⟨#[]⟩, .slice none 0 0, .slice none 0 0], .int .i64 5]) (by simp [results, Tryz.results27, go_sem, *]) rfl ?_
      rw [HD.out]
      exact rsetOut_err (((hB.setCell (p := ⟨w.heap.size + 1, 0, none⟩) (Nat.le_succ _) _).setCell (p := ⟨w.heap.size + 1, 1, none⟩) (Nat.le_succ _) _).setCell (p := ⟨w.heap.size + 1, 2, none⟩) (Nat.le_succ _) _)
    · have HD : Hid (fileDrop f s.data.toList = ({ f with reqs := f.reqs.filter fun m => !decide (m.1 = s.data.toList) }, 0)) := Lib.hid (by rw [fileDrop_eq, HR0.out, if_neg (by simp), if_neg (by rw [hreqs]; exact hneg)])
      generalize findI (fun m : Md => decide (m.1 = s.data.toList)) (mdF n P V) = x at *
      have hx2 : decide (x < 0) = false := decide_eq_false hneg
      replace hfp := Lib.hid hfp
      clear hreqs
      go_wp2_with fail
      generalize w2.alloc (.cells #[.int .i64 0, .int .i64 rat] 35) = w3 at *
      refine (hfp.out _ hB).mono ?_
      rintro e w' ⟨rfl, rfl⟩
      have hs3 : w.heap.size + 1 < w3.heap.size := lt_of_cell y0
      clear hneg hfp f0 f1 ff
      go_wp2_with fail
      go_loopw [7, 8] (fun o i wr => ∃ (k : Nat) (L : List (ByteArray × ByteArray)), k ≤ n ∧ i = .int .i64 k ∧ Hid (wr.ownsRow w3.heap.size 26 2 o L.length (mdVs L)) ∧ L.length ≤ k ∧ Hid (mdTs L = ((mdF n P V).take k).filter fun m => !decide (m.1 = s.data.toList)) ∧ Below w3.heap.size w3 wr) (fun _ i _ => n - (intOf i).toNat)
      case atStart => exact ⟨0, [], Nat.zero_le _, rfl, Lib.hid (World.ownsRow_nil _ _ _ _), Nat.le_refl _, Lib.hid (by simp [mdTs]), Below.refl _ _⟩
      case round =>
        obtain ⟨k, L, hk, rfl, hO, hLk, hT, hBk⟩ := hrel
        have x1 := Below.cell_some hBk z1
        have hBw := below_step hB hBk
        obtain ⟨ao, no, co, rfl⟩ := own_form hO.out
        by_cases hlt : k < n
        · have hkn : (k : Int) < (n : Int) := by omega
          obtain ⟨b1, o1, ea, c0, c1⟩ := hc.out k hlt
          replace c0 := (hBw.cell (lt_of_cell c0)).trans c0
          replace c1 := (hBw.cell (lt_of_cell c1)).trans c1
          subst ea
          by_cases hps : (P k).data.toList = s.data.toList
          · have hp0 : P k = s := bytes_eq.1 hps
            have hp1 : ((P k).toList != s.toList) = false := by rw [hp0]; simp
            have hp2 : ((P k).toList == s.toList) = true := by rw [hp0]; simp
            have hN : Hid (mdTs L = ((mdF n P V).take (k + 1)).filter fun m => !decide (m.1 = s.data.toList)) := Lib.hid (by
              rw [mdF_take_succ n P V k hlt, List.filter_append, ← hT.out]
              simp [hps])
            clear hps hp0
            go_wp2_with fail
            go_roundw
            case rel => exact ⟨k + 1, L, by omega, by go_num, hO, by omega, hN, hBk⟩
            case measure => simp [intOf]; omega
          · have hp2 : (P k).toList ≠ s.toList := by rw [toList_data, toList_data]; exact hps
            have hp1 : ((P k).toList != s.toList) = true := bne_iff_ne.2 hp2
            have hp3 : ((P k).toList == s.toList) = false := beq_eq_false_iff_ne.2 hp2
            have hN : Hid (mdTs (L ++ [(P k, V k)]) = ((mdF n P V).take (k + 1)).filter fun m => !decide (m.1 = s.data.toList)) := Lib.hid (by
              rw [mdF_take_succ n P V k hlt, List.filter_append, ← hT.out]
              simp [hps, mdTs])
            have hown := Lib.hid (fun q (e : (Value.slice ao no co).ownBlock = some q) => (hO.out.lt q e).1)
            clear hps
            go_wp2_with (at_builtin; refine wpList_append_own _ rfl _ _ 22 rfl w3.heap.size 26 i0 (.agg #[.string ⟨#[]⟩, .string ⟨#[]⟩]) 2 32 Tryz.underlying22 hi hz0 hz1 hz2 rfl (by decide) _ _ _ rfl (hO.out.alloc _) ⟨wr.heap.size, 0, none⟩ 1 1 [.string (P k), .string (V k)] rfl rfl (cell_two_new _ _ _ _) (by intro u hu; simp at hu; rcases hu with rfl | rfl <;> rfl) (by unfold maxLen; omega) (by omega) (by have := hBk.size; simp; omega) ?_; intro o' w4 hown4 hgrow4 _)
            go_roundw
            case rel =>
              refine ⟨k + 1, L ++ [(P k, V k)], by omega, by go_num, Lib.hid ?_, by simp; omega, hN, ?_⟩
              · rw [List.length_append, List.length_singleton, ← mdVs_snoc]
                exact hown4
              · exact (hBk.alloc hBk.size _).grown hgrow4 (by have := hBk.size; simp; omega) hown.out
            case measure => simp [intOf]; omega
        · obtain rfl : n = k := by omega
          rw [mdF_take_all] at hT
          have hM := modsAt_own hO.out
          rw [hT.out] at hM
          have hMx := HX.out.below hBw
          have hne := own_ne (b := w.heap.size) hO.out (by omega)
          have hne1 := own_ne (b := w.heap.size + 1) hO.out (by omega)
          have hzb := hz.below hBk
          have hyb := hy.below hBk
          clear x1 hT hlt hk hz hy z0 z1 z2 zf y0 y1 y2 yf
          obtain ⟨z0, z1, z2, zf⟩ := id hzb
          obtain ⟨y0, y1, y2, yf⟩ := id hyb
          have hge := own_ge hO.out
          have hcN : ∀ q n' m', Value.slice ao no co = .slice (some q) n' m' → q.block ≠ w.heap.size := fun q n' m' e => by have := hge q n' m' e; omega
          have hcN1 : ∀ q n' m', Value.slice ao no co = .slice (some q) n' m' → q.block ≠ w.heap.size + 1 := fun q n' m' e => by have := hge q n' m' e; omega
          have hMf := (((hM.other (c := w.heap.size) (k := 1) hcN (.slice ao no co)).other (c := w.heap.size + 1) (k := 0) hcN1 (.string path)).other (c := w.heap.size + 1) (k := 1) hcN1 (.slice ao no co)).other (c := w.heap.size + 1) (k := 2) hcN1 (.slice a2 m cap2)
          have hBf := (((hBw.setCell (p := ⟨w.heap.size, 1, none⟩) (Nat.le_refl _) (.slice ao no co)).setCell (p := ⟨w.heap.size + 1, 0, none⟩) (Nat.le_succ _) (.string path)).setCell (p := ⟨w.heap.size + 1, 1, none⟩) (Nat.le_succ _) (.slice ao no co)).setCell (p := ⟨w.heap.size + 1, 2, none⟩) (Nat.le_succ _) (.slice a2 m cap2)
          have hFin := Lib.hid (And.intro hMf (And.intro (HX.out.below hBf) hBf))
          clear hMf hBf hM hMx hcN hcN1 hge hne hne1
          go_wp2_with fail
          refine bodyPost_ret (v := .tuple #[.agg #[.string path, .slice ao no co, .slice a2 m cap2], .int .i64 0]) (by simp [results, Tryz.results27, go_sem, *]) rfl ?_
          rw [HD.out]
          refine ⟨⟨path, _, _, rfl, ?_, ?_, ?_⟩, hFin.out.2.2⟩
          · rw [← HF0.out]
          · show ModsAt _ _ (f.reqs.filter _)
            rw [HQ.out]; exact hFin.out.1
          · show ModsAt _ _ f.excl
            rw [← HF0.out]; exact hFin.out.2.1
  · have HD : Hid (fileDrop f s.data.toList = (noFl, rc)) := Lib.hid (by rw [fileDrop_eq, HR0.out, if_pos h0])
    have hc9 : (0 : Int) < (rc : Int) := by omega
    clear h0
    go_wp2_with fail
    generalize w2.alloc (.cells #[.int .i64 (rc : Nat), .int .i64 rat] 35) = w3 at *
    go_region
    all_goals
      go_wp2_with fail
      refine bodyPost_ret (v := .tuple #[.agg #[.string ⟨#[]⟩, .slice none 0 0, .slice none 0 0], .int .i64 (rc : Nat)]) (by simp [results, Tryz.results27, go_sem, *]) rfl ?_
      rw [HD.out]
      exact rsetOut_err (((hB.drew.setCell (p := ⟨w.heap.size + 1, 0, none⟩) (Nat.le_succ _) _).setCell (p := ⟨w.heap.size + 1, 1, none⟩) (Nat.le_succ _) _).setCell (p := ⟨w.heap.size + 1, 2, none⟩) (Nat.le_succ _) _)
end Go.Proofs.Pw

/- Plain mathematics: the references' ReadFile and SetOf say what package file's functions do. No program in sight. -/
namespace Go.Proofs.Pw
open Go.Lib hiding intOf

def refLines (f : Fl) (i : Nat) : List Str → Fl × Option Nat
  | [] => (f, none)
  | [x] => if x ≠ [] ∨ i = 0 then (noFl, some i) else (f, none)
  | x :: y :: r => if (lineF f x i).1 = true then refLines (lineF f x i).2 (i + 1) (y :: r) else (noFl, some i)
theorem refLines_cons {f : Fl} {i : Nat} {x : Str} {r : List Str} (h : r ≠ []) : refLines f i (x :: r) = if (lineF f x i).1 = true then refLines (lineF f x i).2 (i + 1) r else (noFl, some i) := by
  cases r with
  | nil => exact absurd rfl h
  | cons y r => rfl
theorem split_not_nil (s : Str) (c : UInt8) : split s [c] ≠ [] := by
  rw [split_eq]
  have : ∀ (l acc : Str), cutAt c acc l ≠ [] := by
    intro l
    induction l with
    | nil => intro acc; simp [cutAt]
    | cons b l ih =>
      intro acc
      unfold cutAt
      split
      · simp
      · exact ih _
  exact this s []
theorem refLines_eq : ∀ (n : Nat) (f : Fl) (i : Nat) (s : Str), s.length < n → refLines f i (split s [10]) = readF n f i s
  | 0, _, _, _, h => absurd h (Nat.not_lt_zero _)
  | n + 1, f, i, s, h => by
    by_cases hm : (10 : UInt8) ∈ s
    · obtain ⟨a, b, rfl, ha⟩ := mem_at hm
      have e1 : split (a ++ 10 :: b) [10] = a :: split b [10] := by
        rw [split_hit (i := a.length) (by simp) (index_byte_at ha), List.take_left]
        rw [show a.length + ([10] : Str).length = (a ++ [10]).length by simp, show a ++ 10 :: b = (a ++ [10]) ++ b by simp, List.drop_left]
      rw [e1, refLines_cons (split_not_nil _ _), readF, cut_at ha]
      by_cases hl : (lineF f a i).1 = true
      · rw [if_pos hl, if_neg (by simp), if_pos ⟨rfl, hl⟩]
        exact refLines_eq n _ _ _ (by simp at h; omega)
      · rw [if_neg hl, if_neg (by simp), if_neg (fun h => hl h.2)]
    · have hi := index_no (s := s) (sub := [10]) (by simp) (by intro c hc; simp at hc; subst hc; exact hm)
      have hc : cut s [10] = (s, [], false) := by unfold cut; rw [hi, if_neg (by decide)]
      rw [split_none hi, readF, hc]
      unfold refLines
      by_cases h1 : s = [] ∧ i ≠ 0
      · rw [if_pos h1, if_neg (by rintro (h2 | h2) <;> simp_all)]
      · have h4 : s ≠ [] ∨ i = 0 := by
          by_cases h2 : s = []
          · right
            by_cases h3 : i = 0
            · exact h3
            · exact absurd ⟨h2, h3⟩ h1
          · exact .inl h2
        rw [if_pos h4, if_neg h1, if_neg (fun h => by cases h.1)]

def setR (m : Md) : List Md → Bool → List Md → List Md
  | acc, d, [] => if d then acc else acc ++ [m]
  | acc, d, x :: r => if d = false ∧ 0 ≤ compareBytes x.1 m.1 then (if x.1 = m.1 then setR m (acc ++ [m]) true r else setR m (acc ++ [m] ++ [x]) true r) else setR m (acc ++ [x]) d r
theorem setR_done (m : Md) : ∀ (l acc : List Md), setR m acc true l = acc ++ l
  | [], acc => by simp [setR]
  | x :: r, acc => by rw [setR, if_neg (by simp), setR_done m r]; simp
theorem setR_eq (m : Md) : ∀ (l acc : List Md), setR m acc false l = acc ++ setAt l m
  | [], acc => by simp [setR, setAt, lowAt]
  | x :: r, acc => by
    rw [setR]
    by_cases h : compareBytes x.1 m.1 < 0
    · rw [if_neg (by omega), setR_eq m r]
      have e : setAt (x :: r) m = x :: setAt r m := by
        unfold setAt
        rw [show lowAt m.1 (x :: r) = lowAt m.1 r + 1 by rw [lowAt, if_pos h]]
        simp only [List.getElem?_cons_succ, List.take_succ_cons, List.drop_succ_cons, List.cons_append]
        split <;> rfl
      rw [e]; simp
    · rw [if_pos ⟨rfl, by omega⟩]
      have e : setAt (x :: r) m = if x.1 = m.1 then m :: r else m :: x :: r := by
        unfold setAt
        rw [show lowAt m.1 (x :: r) = 0 by rw [lowAt, if_neg h]]
        simp
      rw [e]
      by_cases h2 : x.1 = m.1
      · rw [if_pos h2, if_pos h2, setR_done]; simp
      · rw [if_neg h2, if_neg h2, setR_done]; simp
end Go.Proofs.Pw

/- R.SetOf. Conditions: texts of at most 1000000 bytes, lists of at most 900000. -/
namespace Go.Proofs.Pw
open Go.RowKit
open Go.Lib hiding intOf

theorem mdF_drop {n k : Nat} {P V : Nat → ByteArray} (h : k < n) : (mdF n P V).drop k = ((P k).data.toList, (V k).data.toList) :: (mdF n P V).drop (k + 1) := by
  have hl : k < (mdF n P V).length := by rw [mdF_length]; exact h
  rw [List.drop_eq_getElem_cons hl]
  have := mdF_get n P V k h
  rw [List.getElem?_eq_getElem hl] at this
  rw [Option.some.inj this]
theorem box2_other {w : World} {b c k : Nat} {v0 v1 : Value} (h : Box2 w b v0 v1) (hc : b ≠ c) (v : Value) : Box2 (w.setCell ⟨c, k, none⟩ v) b v0 v1 :=
  ⟨by rw [set_blk v hc]; exact h.c0, by rw [set_blk v hc]; exact h.c1, fun j => by have := h.fr j; simpa using this⟩
theorem box2_st {w : World} {b : Nat} {v0 v1 : Value} (h : Box2 w b v0 v1) (u0 u1 : Value) : Box2 ((w.setCell ⟨b, 0, none⟩ u0).setCell ⟨b, 1, none⟩ u1) b u0 u1 := by
  obtain ⟨h0, h1, hf⟩ := h
  refine ⟨by simp [go_sem, *], by simp [go_sem, *], fun j => by have := hf j; simpa using this⟩
theorem setAt_short {l : List Md} {p v : Str} (hl : l.length ≤ 20) (h : ∀ m ∈ l, m.1.length ≤ 1000000 ∧ m.2.length ≤ 1000000) (hp : p.length ≤ 1000000) (hv : v.length ≤ 1000000) : Short (setAt l (p, v)) :=
  ⟨by have := setAt_len_le l (p, v); omega, fun x hx => by
    rcases setAt_mem hx with rfl | hx
    · exact ⟨hp, hv⟩
    · exact h x hx⟩
set_option maxHeartbeats 8000000 in
set_option maxRecDepth 100000 in
theorem setOf_calls (path mp mv : ByteArray) (rv xv : Value) (reqs excl : List Md) (w : World) (hr : ModsAt w rv reqs) (hx : ModsAt w xv excl) (hp : path.size ≤ 1000000) (hsr : Short reqs) (hsx : Short excl) (hmp : mp.size ≤ 1000000) (hmv : mv.size ≤ 1000000) :
    Calls Tryz.prog 24 #[.agg #[.string path, rv, xv], .agg #[.string mp, .string mv]] w (RSetOut (fileSet ⟨path.data.toList, reqs, excl⟩ (mp.data.toList, mv.data.toList)) w) := by
  obtain ⟨i0, hi, hz0, hz1, hz2⟩ := info_parts Tryz.infoMod
  have HR := Lib.hid hr
  have HX := Lib.hid hx
  have HSX := Lib.hid hsx
  have HSR := Lib.hid hsr
  obtain ⟨a, n, cap, P, V, rfl, rfl, hnc, hcap, hc⟩ := hr
  obtain ⟨a2, m, cap2, Q, U, rfl, rfl, hmc, hcap2, hc2⟩ := hx
  have hb1 := below_alloc w (.cells #[.string path, .slice a n cap, .slice a2 m cap2] 24)
  have hb2 := below_alloc (w.alloc (.cells #[.string path, .slice a n cap, .slice a2 m cap2] 24)) (.cells #[.string mp, .string mv] 26)
  have hb3 := below_alloc ((w.alloc (.cells #[.string path, .slice a n cap, .slice a2 m cap2] 24)).alloc (.cells #[.string mp, .string mv] 26)) (.cells #[.string ⟨#[]⟩, .slice none 0 0, .slice none 0 0] 24)
  have hB := below_step (below_step hb1 hb2) hb3
  have hz := ((box3f_alloc w (.string path) (.slice a n cap) (.slice a2 m cap2) 24).below hb2).below hb3
  have hm := (box2_alloc (w.alloc (.cells #[.string path, .slice a n cap, .slice a2 m cap2] 24)) (.string mp) (.string mv) 26).below hb3
  have hy := box3f_alloc ((w.alloc (.cells #[.string path, .slice a n cap, .slice a2 m cap2] 24)).alloc (.cells #[.string mp, .string mv] 26)) (.string ⟨#[]⟩) (.slice none 0 0) (.slice none 0 0) 24
  simp only [World.size_alloc] at hy hm
  have hff := refFault_calls path (.slice a n cap) (.slice a2 m cap2) (mdF n P V) (mdF m Q U) _ (HR.out.below hB) (HX.out.below hB) hp hsr hsx
  generalize hf0 : (⟨path.data.toList, mdF n P V, mdF m Q U⟩ : Fl) = f at *
  have HF0 := Lib.hid hf0
  generalize hr0 : fileErr f = r at *
  have HR0 := Lib.hid hr0
  have HP := Lib.hid (short_F hsr).2
  replace hff := Lib.hid hff
  replace hc := Lib.hid hc
  replace hc2 := Lib.hid hc2
  clear hf0 hr0 hsr hsx hb1 hb2 hb3
  obtain ⟨z0, z1, z2, zf⟩ := id hz
  go_enter Tryz.func24, Tryz.ntmps24
  go_wp2_with fail
  generalize hw1 : ((w.alloc (.cells #[.string path, .slice a n cap, .slice a2 m cap2] 24)).alloc (.cells #[.string mp, .string mv] 26)).alloc (.cells #[.string ⟨#[]⟩, .slice none 0 0, .slice none 0 0] 24) = w1 at *
  have hs1 : w1.heap.size = w.heap.size + 3 := by rw [← hw1]; simp
  clear hw1
  refine hff.out.mono ?_
  rintro e w2 ⟨rfl, hb⟩
  have hs2 := hb.size
  obtain ⟨rc, rat⟩ := r
  have hbf := below_alloc w2 (.cells #[.int .i64 (rc : Nat), .int .i64 rat] 35)
  have hf2 := box2_alloc w2 (.int .i64 (rc : Nat)) (.int .i64 rat) 35
  replace hb := below_step hb hbf
  replace hz := hz.below hb
  replace hy := hy.below hb
  replace hm := hm.below hb
  replace hB := below_step hB hb
  clear z0 z1 z2 zf hb hff hbf
  unfold fltV
  have n1 : w.heap.size + 2 ≠ w2.heap.size := by omega
  have n2 : w2.heap.size ≠ w.heap.size + 2 := by omega
  by_cases h0 : rc = 0
  · subst h0
    replace hz : Box3f (w2.alloc (.cells #[.int .i64 0, .int .i64 rat] 35)) w.heap.size (.string path) (.slice a n cap) (.slice a2 m cap2) := hz
    replace hy : Box3f (w2.alloc (.cells #[.int .i64 0, .int .i64 rat] 35)) (w.heap.size + 2) (.string ⟨#[]⟩) (.slice none 0 0) (.slice none 0 0) := hy
    replace hm : Box2 (w2.alloc (.cells #[.int .i64 0, .int .i64 rat] 35)) (w.heap.size + 1) (.string mp) (.string mv) := hm
    replace hf2 : Box2 (w2.alloc (.cells #[.int .i64 0, .int .i64 rat] 35)) w2.heap.size (.int .i64 0) (.int .i64 rat) := hf2
    replace hB : Below w.heap.size w (w2.alloc (.cells #[.int .i64 0, .int .i64 rat] 35)) := hB
    obtain ⟨z0, z1, z2, zf⟩ := id hz
    obtain ⟨y0, y1, y2, yf⟩ := id hy
    obtain ⟨m0, m1, mf⟩ := id hm
    obtain ⟨f0, f1, ff⟩ := id hf2
    have hRi := right_of (f := f) (by rw [HR0.out])
    have hn20 : n ≤ 20 := by have := hRi.reqs; rw [← HF0.out] at this; simp only [mdF_length] at this; exact this
    clear hRi
    have HS := Lib.hid (setAt_short (p := mp.data.toList) (v := mv.data.toList) (l := mdF n P V) (by rw [mdF_length]; exact hn20) HSR.out.2 (by rw [Array.length_toList]; exact hmp) (by rw [Array.length_toList]; exact hmv))
    go_wp2_with fail
    generalize hw3 : w2.alloc (.cells #[.int .i64 0, .int .i64 rat] 35) = w3 at *
    have hs3 : w2.heap.size < w3.heap.size := by rw [← hw3]; simp
    clear hw3
    go_loopw [7, 8, 9] (fun o d i wr => ∃ (k : Nat) (L : List (ByteArray × ByteArray)) (D : Bool), k ≤ n ∧ i = .int .i64 k ∧ d = .bool D ∧ Hid (wr.ownsRow w3.heap.size 26 2 o L.length (mdVs L)) ∧ L.length ≤ k + D.toNat ∧ Hid (setR (mp.data.toList, mv.data.toList) (mdTs L) D ((mdF n P V).drop k) = setAt (mdF n P V) (mp.data.toList, mv.data.toList)) ∧ Below w3.heap.size w3 wr) (fun _ _ i _ => n - (intOf i).toNat)
    case atStart => exact ⟨0, [], false, Nat.zero_le _, rfl, rfl, Lib.hid (World.ownsRow_nil _ _ _ _), by simp, Lib.hid (by rw [List.drop_zero, setR_eq]; simp [mdTs]), Below.refl _ _⟩
    case round =>
      obtain ⟨k, L, D, hk, rfl, rfl, hO, hLk, hT, hBk⟩ := hrel
      have cx1 := Below.cell_some hBk z1
      have cm0 := Below.cell_some hBk m0
      have cm1 := Below.cell_some hBk m1
      have hBw := below_step hB hBk
      obtain ⟨ao, no, co, rfl⟩ := own_form hO.out
      have hown := Lib.hid (fun q (e : (Value.slice ao no co).ownBlock = some q) => (hO.out.lt q e).1)
      by_cases hlt : k < n
      · have hkn : (k : Int) < (n : Int) := by omega
        obtain ⟨b1, o1, ea, c0w, c1w⟩ := hc.out k hlt
        have c0 := (hBw.cell (lt_of_cell c0w)).trans c0w
        have c1 := (hBw.cell (lt_of_cell c1w)).trans c1w
        rw [mdF_drop hlt] at hT
        have HC := Lib.hid (And.intro c0w c1w)
        subst ea
        clear c0w c1w
        cases D with
        | true =>
          replace hLk : L.length ≤ k + 1 := hLk
          have hN : Hid (setR (mp.data.toList, mv.data.toList) (mdTs (L ++ [(P k, V k)])) true ((mdF n P V).drop (k + 1)) = setAt (mdF n P V) (mp.data.toList, mv.data.toList)) := Lib.hid (by
            rw [← hT.out, setR, if_neg (by simp)]
            simp [mdTs])
          have hOr := hO.out
          clear hO hT
          go_wp2_with fail
          refine wp_region_quiet_patch (by kernel_rfl) (by kernel_rfl) ?_
          repeat (go_big_quiet_step (fail))
          refine wpQuiet_nil ?_
          intro _ hw'
          obtain ⟨⟨dq, osq⟩, hw''⟩ := hw'
          subst hw''
          have hb := below_patch wr dq osq
          replace hBk := below_step hBk hb
          replace hOr := hOr.below hb
          replace cx1 := Below.cell_some hb cx1
          replace c0 := Below.cell_some hb c0
          replace c1 := Below.cell_some hb c1
          clear hb
          generalize patch wr dq osq = w5 at hBk hOr cx1 c0 c1 ⊢
          have HO := Lib.hid hOr
          clear hOr
          go_wp2_with (at_builtin; refine wpList_append_own _ rfl _ _ 22 rfl w3.heap.size 26 i0 (.agg #[.string ⟨#[]⟩, .string ⟨#[]⟩]) 2 32 Tryz.underlying22 hi hz0 hz1 hz2 rfl (by decide) _ _ _ rfl (HO.out.alloc _) ⟨w5.heap.size, 0, none⟩ 1 1 [.string (P k), .string (V k)] rfl rfl (cell_two_new _ _ _ _) (by intro u hu; simp at hu; rcases hu with rfl | rfl <;> rfl) (by unfold maxLen; omega) (by omega) (by have := hBk.size; simp; omega) ?_; intro o' w4 hown4 hgrow4 _)
          go_roundw
          case rel =>
            refine ⟨k + 1, L ++ [(P k, V k)], true, by omega, by go_num, rfl, Lib.hid ?_, by simp [Bool.toNat]; omega, hN, ?_⟩
            · rw [List.length_append, List.length_singleton, ← mdVs_snoc]
              exact hown4
            · exact (hBk.alloc hBk.size _).grown hgrow4 (by have := hBk.size; simp; omega) hown.out
          case measure => simp [intOf]; omega
        | false =>
          replace hLk : L.length ≤ k := hLk
          by_cases hge : 0 ≤ compareBytes (P k).data.toList mp.data.toList
          · have hbl : Op.bytesLess (P k).toList mp.toList = false := by rw [toList_data, toList_data, bytesLess_iff]; exact decide_eq_false (by omega)
            have hOr := hO.out
            have HG := Lib.hid hge
            clear hO hge
            go_wp2_with fail
            have kqcx1 := fun d os => cell_patch (d := d) (os := os) cx1
            have kqc0 := fun d os => cell_patch (d := d) (os := os) c0
            have kqcm0 := fun d os => cell_patch (d := d) (os := os) cm0
            refine wp_region_quiet_patch (by kernel_rfl) (by kernel_rfl) ?_
            repeat (go_big_quiet_step (fail))
            refine wpQuiet_nil ?_
            intro _ hw'
            obtain ⟨⟨dq, osq⟩, hw''⟩ := hw'
            subst hw''
            clear kqcx1 kqc0 kqcm0
            have hb := below_patch wr dq osq
            replace hBk := below_step hBk hb
            replace hOr := hOr.below hb
            replace cx1 := Below.cell_some hb cx1
            replace c0 := Below.cell_some hb c0
            replace c1 := Below.cell_some hb c1
            replace cm0 := Below.cell_some hb cm0
            replace cm1 := Below.cell_some hb cm1
            clear hb
            generalize patch wr dq osq = w5 at hBk hOr cx1 c0 c1 cm0 cm1 ⊢
            have HO := Lib.hid hOr
            clear hOr
            go_wp2_with (at_builtin; refine wpList_append_own _ rfl _ _ 22 rfl w3.heap.size 26 i0 (.agg #[.string ⟨#[]⟩, .string ⟨#[]⟩]) 2 32 Tryz.underlying22 hi hz0 hz1 hz2 rfl (by decide) _ _ _ rfl (HO.out.alloc _) ⟨w5.heap.size, 0, none⟩ 1 1 [.string mp, .string mv] rfl rfl (cell_two_new _ _ _ _) (by intro u hu; simp at hu; rcases hu with rfl | rfl <;> rfl) (by unfold maxLen; omega) (by omega) (by have := hBk.size; simp; omega) ?_; intro o' w4 hown4 hgrow4 _)
            have hBk4 := (hBk.alloc hBk.size _).grown hgrow4 (by have := hBk.size; simp; omega) hown.out
            have hBw4 := below_step hB hBk4
            rw [mdVs_snoc, show L.length + 1 = (L ++ [(mp, mv)]).length by simp] at hown4
            obtain ⟨a4, n4, c4, rfl⟩ := own_form hown4
            replace cx1 := Below.cell_some hBk4 z1
            replace cm0 := Below.cell_some hBk4 m0
            replace cm1 := Below.cell_some hBk4 m1
            replace c0 := (hBw4.cell (lt_of_cell HC.out.1)).trans HC.out.1
            replace c1 := (hBw4.cell (lt_of_cell HC.out.2)).trans HC.out.2
            have hown5 := Lib.hid (fun q (e : (Value.slice a4 n4 c4).ownBlock = some q) => (hown4.lt q e).1)
            clear hBk hBw hBw4 HO hgrow4
            by_cases hpe : (P k).data.toList = mp.data.toList
            · have hp0 := bytes_eq.1 hpe
              have hp1 : ((P k).toList == mp.toList) = true := by rw [hp0]; simp
              have hN : Hid (setR (mp.data.toList, mv.data.toList) (mdTs (L ++ [(mp, mv)])) true ((mdF n P V).drop (k + 1)) = setAt (mdF n P V) (mp.data.toList, mv.data.toList)) := Lib.hid (by
                rw [← hT.out, setR, if_pos ⟨rfl, HG.out⟩, if_pos hpe]
                simp [mdTs])
              clear hpe hp0 hT
              go_wp2_with fail
              have kqcx1 := fun d os => cell_patch (d := d) (os := os) cx1
              have kqc0 := fun d os => cell_patch (d := d) (os := os) c0
              have kqcm0 := fun d os => cell_patch (d := d) (os := os) cm0
              refine wp_region_quiet_patch (by kernel_rfl) (by kernel_rfl) ?_
              repeat (go_big_quiet_step (fail))
              refine wpQuiet_nil ?_
              intro _ hw'
              obtain ⟨⟨dq, osq⟩, hw''⟩ := hw'
              subst hw''
              clear kqcx1 kqc0 kqcm0
              have hb := below_patch w4 dq osq
              replace hBk4 := below_step hBk4 hb
              replace hown4 := hown4.below hb
              clear hb
              generalize patch w4 dq osq = w6 at hBk4 hown4 ⊢
              clear cx1 c0 c1 cm0 cm1
              have HO4 := Lib.hid hown4
              clear hown4
              go_wp2_with fail
              go_roundw
              case rel => exact ⟨k + 1, L ++ [(mp, mv)], true, by omega, by go_num, rfl, HO4, by simp [Bool.toNat]; omega, hN, hBk4⟩
              case measure => simp [intOf]; omega
            · have hp1 : ((P k).toList == mp.toList) = false := by rw [toList_data, toList_data]; exact beq_eq_false_iff_ne.2 hpe
              have hp2 : (P k).toList ≠ mp.toList := by rw [toList_data, toList_data]; exact hpe
              have hN : Hid (setR (mp.data.toList, mv.data.toList) (mdTs (L ++ [(mp, mv)] ++ [(P k, V k)])) true ((mdF n P V).drop (k + 1)) = setAt (mdF n P V) (mp.data.toList, mv.data.toList)) := Lib.hid (by
                rw [← hT.out, setR, if_pos ⟨rfl, HG.out⟩, if_neg hpe]
                simp [mdTs])
              have hlen2 : (L ++ [(mp, mv)]).length ≤ k + 1 := by simp; omega
              clear hpe hT
              go_wp2_with fail
              have kqcx1 := fun d os => cell_patch (d := d) (os := os) cx1
              have kqc0 := fun d os => cell_patch (d := d) (os := os) c0
              have kqcm0 := fun d os => cell_patch (d := d) (os := os) cm0
              refine wp_region_quiet_patch (by kernel_rfl) (by kernel_rfl) ?_
              repeat (go_big_quiet_step (fail))
              refine wpQuiet_nil ?_
              intro _ hw'
              obtain ⟨⟨dq, osq⟩, hw''⟩ := hw'
              subst hw''
              clear kqcx1 kqc0 kqcm0
              have hb := below_patch w4 dq osq
              replace hBk4 := below_step hBk4 hb
              replace hown4 := hown4.below hb
              replace cx1 := Below.cell_some hb cx1
              replace c0 := Below.cell_some hb c0
              replace c1 := Below.cell_some hb c1
              clear hb
              generalize patch w4 dq osq = w6 at hBk4 hown4 cx1 c0 c1 ⊢
              clear cm0 cm1
              have HO4 := Lib.hid hown4
              clear hown4
              go_wp2_with (at_builtin; refine wpList_append_own _ rfl _ _ 22 rfl w3.heap.size 26 i0 (.agg #[.string ⟨#[]⟩, .string ⟨#[]⟩]) 2 32 Tryz.underlying22 hi hz0 hz1 hz2 rfl (by decide) _ _ _ rfl (HO4.out.alloc _) ⟨w6.heap.size, 0, none⟩ 1 1 [.string (P k), .string (V k)] rfl rfl (cell_two_new _ _ _ _) (by intro u hu; simp at hu; rcases hu with rfl | rfl <;> rfl) (by unfold maxLen; omega) (by omega) (by have := hBk4.size; simp; omega) ?_; intro o7 w7 hown7 hgrow7 _)
              go_roundw
              case rel =>
                refine ⟨k + 1, L ++ [(mp, mv)] ++ [(P k, V k)], true, by omega, by go_num, rfl, Lib.hid ?_, by simp [Bool.toNat]; omega, hN, ?_⟩
                · rw [show (L ++ [(mp, mv)] ++ [(P k, V k)]).length = (L ++ [(mp, mv)]).length + 1 by simp, ← mdVs_snoc]
                  exact hown7
                · exact (hBk4.alloc hBk4.size _).grown hgrow7 (by have := hBk4.size; simp; omega) hown5.out
              case measure => simp [intOf]; omega
          · have hbl : Op.bytesLess (P k).toList mp.toList = true := by rw [toList_data, toList_data, bytesLess_iff]; exact decide_eq_true (by omega)
            have hN : Hid (setR (mp.data.toList, mv.data.toList) (mdTs (L ++ [(P k, V k)])) false ((mdF n P V).drop (k + 1)) = setAt (mdF n P V) (mp.data.toList, mv.data.toList)) := Lib.hid (by
              rw [← hT.out, setR, if_neg (fun h => hge h.2)]
              simp [mdTs])
            have hOr := hO.out
            clear hO hge hT
            go_wp2_with fail
            have kqcx1 := fun d os => cell_patch (d := d) (os := os) cx1
            have kqc0 := fun d os => cell_patch (d := d) (os := os) c0
            have kqcm0 := fun d os => cell_patch (d := d) (os := os) cm0
            refine wp_region_quiet_patch (by kernel_rfl) (by kernel_rfl) ?_
            repeat (go_big_quiet_step (fail))
            refine wpQuiet_nil ?_
            intro _ hw'
            obtain ⟨⟨dq, osq⟩, hw''⟩ := hw'
            subst hw''
            clear kqcx1 kqc0 kqcm0
            have hb := below_patch wr dq osq
            replace hBk := below_step hBk hb
            replace hOr := hOr.below hb
            replace cx1 := Below.cell_some hb cx1
            replace c0 := Below.cell_some hb c0
            replace c1 := Below.cell_some hb c1
            clear hb
            generalize patch wr dq osq = w5 at hBk hOr cx1 c0 c1 ⊢
            clear cm0 cm1
            have HO := Lib.hid hOr
            clear hOr
            go_wp2_with (at_builtin; refine wpList_append_own _ rfl _ _ 22 rfl w3.heap.size 26 i0 (.agg #[.string ⟨#[]⟩, .string ⟨#[]⟩]) 2 32 Tryz.underlying22 hi hz0 hz1 hz2 rfl (by decide) _ _ _ rfl (HO.out.alloc _) ⟨w5.heap.size, 0, none⟩ 1 1 [.string (P k), .string (V k)] rfl rfl (cell_two_new _ _ _ _) (by intro u hu; simp at hu; rcases hu with rfl | rfl <;> rfl) (by unfold maxLen; omega) (by omega) (by have := hBk.size; simp; omega) ?_; intro o' w4 hown4 hgrow4 _)
            go_roundw
            case rel =>
              refine ⟨k + 1, L ++ [(P k, V k)], false, by omega, by go_num, rfl, Lib.hid ?_, by simp [Bool.toNat]; omega, hN, ?_⟩
              · rw [List.length_append, List.length_singleton, ← mdVs_snoc]
                exact hown4
              · exact (hBk.alloc hBk.size _).grown hgrow4 (by have := hBk.size; simp; omega) hown.out
            case measure => simp [intOf]; omega
      · obtain rfl : n = k := by omega
        rw [List.drop_eq_nil_of_le (by rw [mdF_length]; exact Nat.le_refl _)] at hT
        clear hlt hk HSR hm m0 m1 mf
        cases D with
        | true =>
          have hT2 : mdTs L = setAt (mdF n P V) (mp.data.toList, mv.data.toList) := by rw [← hT.out, setR, if_pos rfl]
          have hOo := hO.out
          clear hT hBw hO cm0 cm1
          clear z0 z1 z2 zf
          have hZ0 := hz.below hBk
          have hM := modsAt_own hOo
          rw [hT2] at hM
          have hge := own_ge hOo
          have hcN : ∀ q n' m', (Value.slice ao no co) = .slice (some q) n' m' → q.block ≠ w.heap.size := fun q n' m' e => by have := hge q n' m' e; omega
          have hcN2 : ∀ q n' m', (Value.slice ao no co) = .slice (some q) n' m' → q.block ≠ w.heap.size + 2 := fun q n' m' e => by have := hge q n' m' e; omega
          have hcF : ∀ q n' m', (Value.slice ao no co) = .slice (some q) n' m' → q.block ≠ w2.heap.size := fun q n' m' e => by have := hge q n' m' e; omega
          have hBq := below_step hB hBk
          have hY0 := hy.below hBk
          have hE0 := hf2.below hBk
          have hM1 := hM.other hcN (Value.slice ao no co) (k := 1)
          have hB1 := hBq.setCell (p := ⟨w.heap.size, 1, none⟩) (Nat.le_refl _) (Value.slice ao no co)
          have hZ1 := hZ0.set1 (Value.slice ao no co)
          have hY1 := hY0.other (show w.heap.size + 2 ≠ w.heap.size by omega) (Value.slice ao no co) (k := 1)
          have hE1 := box2_other hE0 (show w2.heap.size ≠ w.heap.size by omega) (Value.slice ao no co) (k := 1)
          have hc17 := refFault_calls path (Value.slice ao no co) (.slice a2 m cap2) _ (mdF m Q U) _ hM1 (HX.out.below hB1) hp HS.out HSX.out
          have HXl := HX
          generalize hr2 : fileErr ⟨path.data.toList, setAt (mdF n P V) (mp.data.toList, mv.data.toList), mdF m Q U⟩ = r2 at *
          have HR2 := Lib.hid hr2
          obtain ⟨rc2, rat2⟩ := r2
          have HZ := Lib.hid hZ1
          have HY := Lib.hid hY1
          have HE := Lib.hid hE1
          have HM := Lib.hid hM1
          have HB1 := Lib.hid hB1
          replace hc17 := Lib.hid hc17
          clear hM1 hB1 hZ1 hY1 hE1 hr2 hM hBq hge hY0 hE0 hz hy hf2 y0 y1 y2 yf f0 f1 ff
          obtain ⟨z0, z1, z2, zf⟩ := id hZ0
          clear hZ0
          go_wp2_with fail
          generalize World.setCell wr ⟨w.heap.size, 1, none⟩ (Value.slice ao no co) = wq at *
          refine hc17.out.mono ?_
          rintro e w8 ⟨rfl, hb8⟩
          have hB8 := below_step HB1.out hb8
          have hM8 := HM.out.below hb8
          have hZ8 := HZ.out.below hb8
          have hY8 := HY.out.below hb8
          have hE8 := HE.out.below hb8
          clear z0 z1 z2 zf hc17 HZ HY HE HM HB1 hb8
          unfold fltV
          have hle2 : w.heap.size ≤ w2.heap.size := by omega
          by_cases h02 : rc2 = 0
          · subst h02
            have HD : Hid (fileSet f (mp.data.toList, mv.data.toList) = ({ f with reqs := setAt f.reqs (mp.data.toList, mv.data.toList) }, 0)) := Lib.hid (fileSet_ok (by rw [HR0.out]) (by rw [← HF0.out]; exact congrArg Prod.fst HR2.out))
            have hE9 := box2_st hE8 (.int .i64 0) (.int .i64 rat2)
            have hZ9 := (hZ8.other (show w.heap.size ≠ w2.heap.size by omega) (.int .i64 0) (k := 0)).other (show w.heap.size ≠ w2.heap.size by omega) (.int .i64 rat2) (k := 1)
            have hY9 := (hY8.other (show w.heap.size + 2 ≠ w2.heap.size by omega) (.int .i64 0) (k := 0)).other (show w.heap.size + 2 ≠ w2.heap.size by omega) (.int .i64 rat2) (k := 1)
            have hM9 := (hM8.other hcF (.int .i64 0) (k := 0)).other hcF (.int .i64 rat2) (k := 1)
            have hB9 := (hB8.setCell (p := ⟨w2.heap.size, 0, none⟩) hle2 (.int .i64 0)).setCell (p := ⟨w2.heap.size, 1, none⟩) hle2 (.int .i64 rat2)
            have hMf := ((hM9.other hcN2 (.string path) (k := 0)).other hcN2 (Value.slice ao no co) (k := 1)).other hcN2 (.slice a2 m cap2) (k := 2)
            have hBf := ((hB9.setCell (p := ⟨w.heap.size + 2, 0, none⟩) (by show w.heap.size ≤ w.heap.size + 2; omega) (.string path)).setCell (p := ⟨w.heap.size + 2, 1, none⟩) (by show w.heap.size ≤ w.heap.size + 2; omega) (Value.slice ao no co)).setCell (p := ⟨w.heap.size + 2, 2, none⟩) (by show w.heap.size ≤ w.heap.size + 2; omega) (.slice a2 m cap2)
            have hFin := Lib.hid (And.intro hMf (And.intro (HX.out.below hBf) hBf))
            have HZ := Lib.hid hZ9
            have HY := Lib.hid hY9
            have HE := Lib.hid hE9
            clear hMf hBf hM8 hM9 hB8 hB9 hZ8 hY8 hZ9 hY9 hE9 hcN hcN2 hcF hle2
            obtain ⟨e0, e1, ef⟩ := id hE8
            clear hE8
            obtain ⟨g0, g1, gf⟩ := HE.out
            obtain ⟨z0, z1, z2, zf⟩ := HZ.out
            obtain ⟨y0, y1, y2, yf⟩ := HY.out
            clear HE HZ HY
            go_wp2_with fail
            refine bodyPost_ret (v := .tuple #[.agg #[.string path, (Value.slice ao no co), .slice a2 m cap2], .int .i64 0]) (by simp [results, Tryz.results24, go_sem, *]) rfl ?_
            rw [HD.out]
            refine ⟨⟨path, _, _, rfl, ?_, ?_, ?_⟩, hFin.out.2.2⟩
            · rw [← HF0.out]
            · show ModsAt _ _ (setAt f.reqs _)
              rw [← HF0.out]; exact hFin.out.1
            · show ModsAt _ _ f.excl
              rw [← HF0.out]; exact hFin.out.2.1
          · have HD : Hid (fileSet f (mp.data.toList, mv.data.toList) = (noFl, rc2)) := Lib.hid (by
              have e := congrArg Prod.fst HR2.out
              have e2 := fileSet_err2 (f := f) (m := (mp.data.toList, mv.data.toList)) (by rw [HR0.out]) (by rw [← HF0.out]; rw [e]; exact h02)
              rw [e2, ← HF0.out, e])
            have hc9 : (0 : Int) < (rc2 : Int) := by omega
            have hE9 := box2_st hE8 (.int .i64 (rc2 : Nat)) (.int .i64 rat2)
            have hY9 := (hY8.other (show w.heap.size + 2 ≠ w2.heap.size by omega) (.int .i64 (rc2 : Nat)) (k := 0)).other (show w.heap.size + 2 ≠ w2.heap.size by omega) (.int .i64 rat2) (k := 1)
            have hB9 := (hB8.setCell (p := ⟨w2.heap.size, 0, none⟩) hle2 (.int .i64 (rc2 : Nat))).setCell (p := ⟨w2.heap.size, 1, none⟩) hle2 (.int .i64 rat2)
            have HB9 := Lib.hid hB9
            have HY := Lib.hid hY9
            have HE := Lib.hid hE9
            clear hM8 hB8 hB9 hZ8 hY8 hY9 hE9 hcN hcN2 hcF hle2 h02
            obtain ⟨e0, e1, ef⟩ := id hE8
            clear hE8
            obtain ⟨g0, g1, gf⟩ := HE.out
            obtain ⟨y0, y1, y2, yf⟩ := HY.out
            clear HE HY
            go_wp2_with fail
            generalize (w8.setCell ⟨w2.heap.size, 0, none⟩ (.int .i64 (rc2 : Nat))).setCell ⟨w2.heap.size, 1, none⟩ (.int .i64 rat2) = w9 at *
            clear e0 e1 ef
            go_region
            all_goals
              go_wp2_with fail
              refine bodyPost_ret (v := .tuple #[.agg #[.string ⟨#[]⟩, .slice none 0 0, .slice none 0 0], .int .i64 (rc2 : Nat)]) (by simp [results, Tryz.results24, go_sem, *]) rfl ?_
              rw [HD.out]
              exact rsetOut_err (((HB9.out.drew.setCell (p := ⟨w.heap.size + 2, 0, none⟩) (by show w.heap.size ≤ w.heap.size + 2; omega) _).setCell (p := ⟨w.heap.size + 2, 1, none⟩) (by show w.heap.size ≤ w.heap.size + 2; omega) _).setCell (p := ⟨w.heap.size + 2, 2, none⟩) (by show w.heap.size ≤ w.heap.size + 2; omega) _)
        | false =>
          have hT2 : mdTs (L ++ [(mp, mv)]) = setAt (mdF n P V) (mp.data.toList, mv.data.toList) := by
            rw [← hT.out, setR, if_neg (by simp)]
            simp [mdTs]
          replace hLk : L.length ≤ n := hLk
          have HO := hO
          clear hT hBw hO y0 y1 y2 yf f0 f1 ff z0 z2 zf
          go_wp2_with (at_builtin; refine wpList_append_own _ rfl _ _ 22 rfl w3.heap.size 26 i0 (.agg #[.string ⟨#[]⟩, .string ⟨#[]⟩]) 2 32 Tryz.underlying22 hi hz0 hz1 hz2 rfl (by decide) _ _ _ rfl (HO.out.alloc _) ⟨wr.heap.size, 0, none⟩ 1 1 [.string mp, .string mv] rfl rfl (cell_two_new _ _ _ _) (by intro u hu; simp at hu; rcases hu with rfl | rfl <;> rfl) (by unfold maxLen; omega) (by omega) (by have := hBk.size; simp; omega) ?_; intro o' w4 hown4 hgrow4 _; have hBk4 := (hBk.alloc hBk.size _).grown hgrow4 (by have := hBk.size; simp; omega) hown.out; clear hgrow4 cx1 z1 cm0 cm1 HO; rw [mdVs_snoc, show L.length + 1 = (L ++ [(mp, mv)]).length by simp] at hown4; obtain ⟨a4, n4, c4, rfl⟩ := own_form hown4; have hZ0 := hz.below hBk4; obtain ⟨z0, z1, z2, zf⟩ := id hZ0; replace hown4 := Lib.hid hown4)
          obtain ⟨y0, y1, y2, yf⟩ := id hy
          obtain ⟨f0, f1, ff⟩ := id hf2
          have hM := modsAt_own hown4.out
          rw [hT2] at hM
          have hge := own_ge hown4.out
          have hcN : ∀ q n' m', (Value.slice a4 n4 c4) = .slice (some q) n' m' → q.block ≠ w.heap.size := fun q n' m' e => by have := hge q n' m' e; omega
          have hcN2 : ∀ q n' m', (Value.slice a4 n4 c4) = .slice (some q) n' m' → q.block ≠ w.heap.size + 2 := fun q n' m' e => by have := hge q n' m' e; omega
          have hcF : ∀ q n' m', (Value.slice a4 n4 c4) = .slice (some q) n' m' → q.block ≠ w2.heap.size := fun q n' m' e => by have := hge q n' m' e; omega
          have hBq := below_step hB hBk4
          have hY0 := hy.below hBk4
          have hE0 := hf2.below hBk4
          have hM1 := hM.other hcN (Value.slice a4 n4 c4) (k := 1)
          have hB1 := hBq.setCell (p := ⟨w.heap.size, 1, none⟩) (Nat.le_refl _) (Value.slice a4 n4 c4)
          have hZ1 := hZ0.set1 (Value.slice a4 n4 c4)
          have hY1 := hY0.other (show w.heap.size + 2 ≠ w.heap.size by omega) (Value.slice a4 n4 c4) (k := 1)
          have hE1 := box2_other hE0 (show w2.heap.size ≠ w.heap.size by omega) (Value.slice a4 n4 c4) (k := 1)
          have hc17 := refFault_calls path (Value.slice a4 n4 c4) (.slice a2 m cap2) _ (mdF m Q U) _ hM1 (HX.out.below hB1) hp HS.out HSX.out
          have HXl := HX
          generalize hr2 : fileErr ⟨path.data.toList, setAt (mdF n P V) (mp.data.toList, mv.data.toList), mdF m Q U⟩ = r2 at *
          have HR2 := Lib.hid hr2
          obtain ⟨rc2, rat2⟩ := r2
          have HZ := Lib.hid hZ1
          have HY := Lib.hid hY1
          have HE := Lib.hid hE1
          have HM := Lib.hid hM1
          have HB1 := Lib.hid hB1
          replace hc17 := Lib.hid hc17
          clear hM1 hB1 hZ1 hY1 hE1 hr2 hM hBq hge hY0 hE0 hz hy hf2 y0 y1 y2 yf f0 f1 ff
          generalize World.setCell w4 ⟨w.heap.size, 1, none⟩ (Value.slice a4 n4 c4) = wq at *
          refine hc17.out.mono ?_
          rintro e w8 ⟨rfl, hb8⟩
          have hB8 := below_step HB1.out hb8
          have hM8 := HM.out.below hb8
          have hZ8 := HZ.out.below hb8
          have hY8 := HY.out.below hb8
          have hE8 := HE.out.below hb8
          clear z0 z1 z2 zf hc17 HZ HY HE HM HB1 hb8
          unfold fltV
          have hle2 : w.heap.size ≤ w2.heap.size := by omega
          by_cases h02 : rc2 = 0
          · subst h02
            have HD : Hid (fileSet f (mp.data.toList, mv.data.toList) = ({ f with reqs := setAt f.reqs (mp.data.toList, mv.data.toList) }, 0)) := Lib.hid (fileSet_ok (by rw [HR0.out]) (by rw [← HF0.out]; exact congrArg Prod.fst HR2.out))
            have hE9 := box2_st hE8 (.int .i64 0) (.int .i64 rat2)
            have hZ9 := (hZ8.other (show w.heap.size ≠ w2.heap.size by omega) (.int .i64 0) (k := 0)).other (show w.heap.size ≠ w2.heap.size by omega) (.int .i64 rat2) (k := 1)
            have hY9 := (hY8.other (show w.heap.size + 2 ≠ w2.heap.size by omega) (.int .i64 0) (k := 0)).other (show w.heap.size + 2 ≠ w2.heap.size by omega) (.int .i64 rat2) (k := 1)
            have hM9 := (hM8.other hcF (.int .i64 0) (k := 0)).other hcF (.int .i64 rat2) (k := 1)
            have hB9 := (hB8.setCell (p := ⟨w2.heap.size, 0, none⟩) hle2 (.int .i64 0)).setCell (p := ⟨w2.heap.size, 1, none⟩) hle2 (.int .i64 rat2)
            have hMf := ((hM9.other hcN2 (.string path) (k := 0)).other hcN2 (Value.slice a4 n4 c4) (k := 1)).other hcN2 (.slice a2 m cap2) (k := 2)
            have hBf := ((hB9.setCell (p := ⟨w.heap.size + 2, 0, none⟩) (by show w.heap.size ≤ w.heap.size + 2; omega) (.string path)).setCell (p := ⟨w.heap.size + 2, 1, none⟩) (by show w.heap.size ≤ w.heap.size + 2; omega) (Value.slice a4 n4 c4)).setCell (p := ⟨w.heap.size + 2, 2, none⟩) (by show w.heap.size ≤ w.heap.size + 2; omega) (.slice a2 m cap2)
            have hFin := Lib.hid (And.intro hMf (And.intro (HX.out.below hBf) hBf))
            have HZ := Lib.hid hZ9
            have HY := Lib.hid hY9
            have HE := Lib.hid hE9
            clear hMf hBf hM8 hM9 hB8 hB9 hZ8 hY8 hZ9 hY9 hE9 hcN hcN2 hcF hle2
            obtain ⟨e0, e1, ef⟩ := id hE8
            clear hE8
            obtain ⟨g0, g1, gf⟩ := HE.out
            obtain ⟨z0, z1, z2, zf⟩ := HZ.out
            obtain ⟨y0, y1, y2, yf⟩ := HY.out
            clear HE HZ HY
            go_wp2_with fail
            refine bodyPost_ret (v := .tuple #[.agg #[.string path, (Value.slice a4 n4 c4), .slice a2 m cap2], .int .i64 0]) (by simp [results, Tryz.results24, go_sem, *]) rfl ?_
            rw [HD.out]
            refine ⟨⟨path, _, _, rfl, ?_, ?_, ?_⟩, hFin.out.2.2⟩
            · rw [← HF0.out]
            · show ModsAt _ _ (setAt f.reqs _)
              rw [← HF0.out]; exact hFin.out.1
            · show ModsAt _ _ f.excl
              rw [← HF0.out]; exact hFin.out.2.1
          · have HD : Hid (fileSet f (mp.data.toList, mv.data.toList) = (noFl, rc2)) := Lib.hid (by
              have e := congrArg Prod.fst HR2.out
              have e2 := fileSet_err2 (f := f) (m := (mp.data.toList, mv.data.toList)) (by rw [HR0.out]) (by rw [← HF0.out]; rw [e]; exact h02)
              rw [e2, ← HF0.out, e])
            have hc9 : (0 : Int) < (rc2 : Int) := by omega
            have hE9 := box2_st hE8 (.int .i64 (rc2 : Nat)) (.int .i64 rat2)
            have hY9 := (hY8.other (show w.heap.size + 2 ≠ w2.heap.size by omega) (.int .i64 (rc2 : Nat)) (k := 0)).other (show w.heap.size + 2 ≠ w2.heap.size by omega) (.int .i64 rat2) (k := 1)
            have hB9 := (hB8.setCell (p := ⟨w2.heap.size, 0, none⟩) hle2 (.int .i64 (rc2 : Nat))).setCell (p := ⟨w2.heap.size, 1, none⟩) hle2 (.int .i64 rat2)
            have HB9 := Lib.hid hB9
            have HY := Lib.hid hY9
            have HE := Lib.hid hE9
            clear hM8 hB8 hB9 hZ8 hY8 hY9 hE9 hcN hcN2 hcF hle2 h02
            obtain ⟨e0, e1, ef⟩ := id hE8
            clear hE8
            obtain ⟨g0, g1, gf⟩ := HE.out
            obtain ⟨y0, y1, y2, yf⟩ := HY.out
            clear HE HY
            go_wp2_with fail
            generalize (w8.setCell ⟨w2.heap.size, 0, none⟩ (.int .i64 (rc2 : Nat))).setCell ⟨w2.heap.size, 1, none⟩ (.int .i64 rat2) = w9 at *
            clear e0 e1 ef
            go_region
            all_goals
              go_wp2_with fail
              refine bodyPost_ret (v := .tuple #[.agg #[.string ⟨#[]⟩, .slice none 0 0, .slice none 0 0], .int .i64 (rc2 : Nat)]) (by simp [results, Tryz.results24, go_sem, *]) rfl ?_
              rw [HD.out]
              exact rsetOut_err (((HB9.out.drew.setCell (p := ⟨w.heap.size + 2, 0, none⟩) (by show w.heap.size ≤ w.heap.size + 2; omega) _).setCell (p := ⟨w.heap.size + 2, 1, none⟩) (by show w.heap.size ≤ w.heap.size + 2; omega) _).setCell (p := ⟨w.heap.size + 2, 2, none⟩) (by show w.heap.size ≤ w.heap.size + 2; omega) _)
  · have HD : Hid (fileSet f (mp.data.toList, mv.data.toList) = (noFl, rc)) := Lib.hid (by unfold fileSet; rw [HR0.out, if_pos h0])
    have hc9 : (0 : Int) < (rc : Int) := by omega
    obtain ⟨y0, y1, y2, yf⟩ := id hy
    obtain ⟨f0, f1, ff⟩ := id hf2
    clear h0
    go_wp2_with fail
    generalize w2.alloc (.cells #[.int .i64 (rc : Nat), .int .i64 rat] 35) = w3 at *
    go_region
    all_goals
      go_wp2_with fail
      refine bodyPost_ret (v := .tuple #[.agg #[.string ⟨#[]⟩, .slice none 0 0, .slice none 0 0], .int .i64 (rc : Nat)]) (by simp [results, Tryz.results24, go_sem, *]) rfl ?_
      rw [HD.out]
      exact rsetOut_err (((hB.drew.setCell (p := ⟨w.heap.size + 2, 0, none⟩) (by show w.heap.size ≤ w.heap.size + 2; omega) _).setCell (p := ⟨w.heap.size + 2, 1, none⟩) (by show w.heap.size ≤ w.heap.size + 2; omega) _).setCell (p := ⟨w.heap.size + 2, 2, none⟩) (by show w.heap.size ≤ w.heap.size + 2; omega) _)
end Go.Proofs.Pw
