/- Ut: walks and plain laws, joined: RefV2 RefO VoMath RefSort IdxVers. Conditions: at each theorem. -/
import Derived.Test.YtnkcobdgaldkfaaGreatDoorUte
import Derived.Deep.CutRange
import Derived.Deep.CutBlock
import Derived.Test.YtnkcobdgaldkfaaGreatDoorUtb
import Derived.RegionTactic
import Derived.BigRegion
import Derived.Test.YtnkcobdgaldkfaaGreatDoorUta
import Derived.Test.YtnkcobdgaldkfaaGreatDoorUtd
import Derived.Lib.AppendZeros
import Derived.Deep.Upon
import Derived.Deep.Onto
import Derived.Test.YtnkcobdgaldkfaaGreatDoorUtc

namespace Go.Proofs.Pw
open Go.RowKit
open Go.Lib hiding intOf
theorem partErr_bad {s : ByteArray} {k : Nat} (h : k < s.size) (hb : isPartByte s[k] = false) : partErr s.data.toList = 1 := by
  apply partErr_text
  refine .inr (.inr ?_)
  rw [Bool.eq_false_iff]
  intro e
  have := List.all_eq_true.1 e _ (byte_mem s k h)
  rw [hb] at this
  cases this
theorem partErr_good {s : ByteArray} (h1 : 1 ≤ s.size) (h8 : s.size ≤ 8) (ha : (s.data.toList.take s.size).all isPartByte = true) : partErr s.data.toList = if areDigits s.data.toList then (numberOf s.data.toList).2 else 0 := by
  rw [take_size] at ha
  unfold partErr
  rw [if_neg]
  rintro (h | h | h)
  · rw [size_eq, h] at h1; simp at h1
  · rw [← size_eq] at h; omega
  · rw [ha] at h; cases h
theorem partErr_size {s : ByteArray} (h : s.size < 1 ∨ 8 < s.size) : partErr s.data.toList = 1 := by
  apply partErr_text
  rcases h with h | h
  · refine .inl (List.length_eq_zero_iff.1 (by rw [← size_eq]; omega))
  · exact .inr (.inl (by rw [← size_eq]; exact h))
theorem isPartByte_iff (c : UInt8) : isPartByte c = true ↔ (97 ≤ (c.toNat : Int) ∧ (c.toNat : Int) ≤ 122) ∨ (65 ≤ (c.toNat : Int) ∧ (c.toNat : Int) ≤ 90) ∨ (48 ≤ (c.toNat : Int) ∧ (c.toNat : Int) ≤ 57) ∨ (c.toNat : Int) = 45 := by
  unfold isPartByte isDig isLetter
  have e : (c == 45) = decide (c.toNat = 45) := by
    rw [Bool.eq_iff_iff, beq_iff_eq, decide_eq_true_eq]
    constructor
    · rintro rfl; rfl
    · intro h; exact UInt8.toNat_inj.1 (by rw [h]; rfl)
  rw [e]
  simp only [Bool.or_eq_true, decide_eq_true_eq]
  omega
def CellsOver (w : World) (B : Nat) (a : Option Addr) (n : Nat) (P : Nat → ByteArray) : Prop := ∀ j, j < n → ∃ b o, a = some ⟨b, o, none⟩ ∧ B < b ∧ w.cell? ⟨b, o + j, none⟩ = some (.string (P j))
theorem CellsOver.set {w : World} {B B' n : Nat} {a : Option Addr} {P : Nat → ByteArray} (h : CellsOver w B a n P) (hB : B' ≤ B) (i : Nat) (u : Value) : CellsOver (w.setCell ⟨B', i, none⟩ u) B a n P := by
  intro j hj
  obtain ⟨b, o, rfl, h1, h2⟩ := h j hj
  refine ⟨b, o, rfl, h1, ?_⟩
  rw [World.cell?_setCell_other _ _ _ _ (by intro e; injection e with e1 _ _; omega)]
  exact h2
theorem CellsOver.strs {w : World} {B n cap : Nat} {a : Option Addr} {P : Nat → ByteArray} (h : CellsOver w B a n P) (hn : n ≤ cap) (hc : cap ≤ 9223372036854775807) : StrsAt w (.slice a n cap) (lstF n P) :=
  ⟨a, n, cap, P, rfl, rfl, hn, hc, fun j hj => let ⟨b, o, e, _, h2⟩ := h j hj; ⟨b, o, e, h2⟩⟩
theorem cutAt_len (c : UInt8) : ∀ (l acc : Str), (cutAt c acc l).length ≤ l.length + 1
  | [], acc => by simp [cutAt]
  | b :: l, acc => by
    rw [cutAt]
    split
    · have := cutAt_len c l []
      simp only [List.length_cons]; omega
    · have := cutAt_len c l (acc ++ [b])
      simp only [List.length_cons]; omega
theorem split_len (c : UInt8) (s : Str) : (split s [c]).length ≤ s.length + 1 := by rw [split_eq]; exact cutAt_len c s []
theorem extract_size_le (s : ByteArray) (a b : Nat) : (s.extract a b).size ≤ s.size := by rw [ByteArray.size_extract]; omega
theorem refCut_dot (s : ByteArray) (w : World) (hs : s.size ≤ 1000000000) :
    Calls Tryz.prog 131 #[.string s, .int .u8 46] w fun e w' => (∃ v, e = .returned v ∧ StrsAt w' v (split s.data.toList [46]) ∧ NewRow w v) ∧ Below w.heap.size w w' := refCut_calls s 46 w hs
theorem byte_ne_int {b c : UInt8} {n : Int} (hn : n = c.toNat) (h : b ≠ c) : ((b.toNat : Int) == n) = false :=
  beq_eq_false_iff_ne.2 fun e => h (UInt8.toNat_inj.1 (by rw [hn] at e; exact_mod_cast e))
theorem byte_classes (c : Int) :
    ((97 ≤ c ∧ c ≤ 122 ∧ 65 ≤ c ∧ ¬ c ≤ 90 ∧ 48 ≤ c ∧ ¬ c ≤ 57) ∨ (¬ 97 ≤ c ∧ c ≤ 122 ∧ 65 ≤ c ∧ c ≤ 90 ∧ 48 ≤ c ∧ ¬ c ≤ 57) ∨ (¬ 97 ≤ c ∧ c ≤ 122 ∧ ¬ 65 ≤ c ∧ c ≤ 90 ∧ 48 ≤ c ∧ c ≤ 57) ∨ c = 45) ∨
    ((c == 45) = false ∧ ¬ ((97 ≤ c ∧ c ≤ 122) ∨ (65 ≤ c ∧ c ≤ 90) ∨ (48 ≤ c ∧ c ≤ 57)) ∧
      ((¬ 97 ≤ c ∧ c ≤ 122 ∧ ¬ 65 ≤ c ∧ c ≤ 90 ∧ ¬ 48 ≤ c ∧ c ≤ 57) ∨ (¬ 97 ≤ c ∧ c ≤ 122 ∧ ¬ 65 ≤ c ∧ c ≤ 90 ∧ 48 ≤ c ∧ ¬ c ≤ 57) ∨ (¬ 97 ≤ c ∧ c ≤ 122 ∧ 65 ≤ c ∧ ¬ c ≤ 90 ∧ 48 ≤ c ∧ ¬ c ≤ 57) ∨ (97 ≤ c ∧ ¬ c ≤ 122 ∧ 65 ≤ c ∧ ¬ c ≤ 90 ∧ 48 ≤ c ∧ ¬ c ≤ 57))) := by
  have e : (c == 45) = false ↔ c ≠ 45 := by rw [beq_eq_false_iff_ne]
  rw [e]
  omega
theorem drop1_cut (s : ByteArray) (k : Nat) (hk : k < s.size) (h1 : 1 ≤ k) (h45 : s[k] = 45) (hno : (45 : UInt8) ∉ (s.data.toList.take k).drop 1) :
    cut (s.data.toList.drop 1) [45] = ((s.extract 1 k).data.toList, (s.extract (k + 1) s.size).data.toList, true) := by
  have e : s.data.toList.drop 1 = (s.data.toList.take k).drop 1 ++ 45 :: s.data.toList.drop (k + 1) := by
    conv => lhs; rw [← List.take_append_drop k s.data.toList]
    rw [List.drop_append_of_le_length (by rw [List.length_take, ← size_eq]; omega), drop_cons s k hk, h45]
  rw [e, cut_at hno, extract_take_drop s 1 k (by omega), extract_to_end]
theorem drop1_none (s : ByteArray) (hno : (45 : UInt8) ∉ (s.data.toList.take s.size).drop 1) :
    cut (s.data.toList.drop 1) [45] = ((s.extract 1 s.size).data.toList, (⟨#[]⟩ : ByteArray).data.toList, false) := by
  rw [take_size] at hno
  rw [cut_no hno, extract_to_end]
theorem take_drop1_snoc (s : ByteArray) (k : Nat) (h : k < s.size) (c : UInt8) (h0 : k = 0 ∨ s[k] ≠ c) (hno : c ∉ (s.data.toList.take k).drop 1) : c ∉ (s.data.toList.take (k + 1)).drop 1 := by
  rw [take_snoc s k h]
  rcases Nat.eq_zero_or_pos k with rfl | hk
  · simp
  · rw [List.drop_append_of_le_length (by rw [List.length_take, ← size_eq]; omega)]
    simp only [List.mem_append, List.mem_singleton, not_or]
    exact ⟨hno, fun e => (h0.resolve_left (by omega)) e.symm⟩
set_option maxHeartbeats 2000000 in
set_option maxRecDepth 100000 in
theorem refVerOf_v (s : ByteArray) (w : World) (hs : s.size ≤ 1000000000) (hp : hasPrefix s.data.toList [118] = true) :
    Calls Tryz.prog 89 #[.string s] w fun e w' => (∃ v, e = .returned (.tuple #[.agg #[.int .i64 (verNum s.data.toList 0 : Nat), .int .i64 (verNum s.data.toList 1 : Nat), .int .i64 (verNum s.data.toList 2 : Nat), v], .int .i64 (verErr s.data.toList : Nat)]) ∧ StrsAt w' v (verPre s.data.toList)) ∧ Below w.heap.size w w' := by
  have hbA := below_alloc w (.cells #[.int .i64 0, .int .i64 0, .int .i64 0, .slice none 0 0] 108)
  have hzA := box4_alloc w (.int .i64 0) (.int .i64 0) (.int .i64 0) (.slice none 0 0) 108
  have h1 : 1 ≤ s.size := by
    rcases Nat.eq_zero_or_pos s.size with h | h
    · have : s.data.toList = [] := List.length_eq_zero_iff.1 (by rw [← size_eq]; exact h)
      rw [this] at hp; cases hp
    · exact h
  have h118 : (s[0].toNat : Int) = 118 := by
    rw [hasPrefix_byte s h1] at hp
    have : s[0] = 118 := of_decide_eq_true hp
    rw [this]; rfl
  have ht := trimPrefix_byte s hp
  have HP := Lib.hid hp
  have HT := Lib.hid ht
  have HW : Hid (verWords s.data.toList = split (cut (s.data.toList.drop 1) [45]).1 [46]) := Lib.hid (by unfold verWords; rw [ht])
  have HR : Hid (verPres s.data.toList = if (cut (s.data.toList.drop 1) [45]).2.2 then split (cut (s.data.toList.drop 1) [45]).2.1 [46] else []) := Lib.hid (by unfold verPres; rw [ht])
  clear hp ht
  have h00 : ((s.size : Int) == 0) = false := beq_eq_false_iff_ne.2 (by omega)
  go_enter Tryz.func89, Tryz.ntmps89
  go_upto_block 0 with fail
  generalize hwA : w.alloc (.cells #[.int .i64 0, .int .i64 0, .int .i64 0, .slice none 0 0] 108) = wA at hbA hzA ⊢
  clear hwA
  go_cut [4, 5, 6, 7] from 33 to 53 (fun h p b _ wx => ∃ (H R : ByteArray) (B : Bool), h = .string H ∧ p = .string R ∧ b = .bool B ∧ wx = wA ∧ H.size ≤ s.size ∧ R.size ≤ s.size ∧ Hid (cut (s.data.toList.drop 1) [45] = (H.data.toList, R.data.toList, B)))
  case first =>
    go_wp2_with fail
    go_loop [4, 5, 6, 7] (fun h p b i => ∃ (k : Nat) (H R : ByteArray) (B : Bool), k ≤ s.size ∧ i = .int .i64 k ∧ h = .string H ∧ p = .string R ∧ b = .bool B ∧ H.size ≤ s.size ∧ R.size ≤ s.size ∧
        Hid (if B = true then cut (s.data.toList.drop 1) [45] = (H.data.toList, R.data.toList, true) else (H = s.extract 1 s.size ∧ R = ⟨#[]⟩ ∧ (45 : UInt8) ∉ (s.data.toList.take k).drop 1))) (fun _ _ _ i => s.size - (intOf i).toNat)
    case atStart => exact ⟨0, s.extract 1 s.size, ⟨#[]⟩, false, Nat.zero_le _, rfl, rfl, rfl, rfl, extract_size_le s _ _, Nat.zero_le _, Lib.hid ⟨rfl, rfl, by simp⟩⟩
    case round =>
      obtain ⟨k, H, R, B, hk, rfl, rfl, rfl, rfl, hH, hR, HC⟩ := hrel
      cases B with
      | true =>
        have HC2 : Hid (cut (s.data.toList.drop 1) [45] = (H.data.toList, R.data.toList, true)) := HC
        clear HC
        by_cases hlt : k < s.size
        all_goals
          go_wp2_with fail
          go_meet
          exact ⟨H, R, true, rfl, rfl, rfl, rfl, hH, hR, HC2⟩
      | false =>
        obtain ⟨rfl, rfl, hno⟩ : H = s.extract 1 s.size ∧ R = ⟨#[]⟩ ∧ (45 : UInt8) ∉ (s.data.toList.take k).drop 1 := HC.out
        have HN := Lib.hid hno
        clear HC hno
        by_cases hlt : k < s.size
        · by_cases h45 : s[k] = 45
          · have hk1 : 1 ≤ k := by
              rcases Nat.eq_zero_or_pos k with rfl | h
              · rw [h45] at h118; exact absurd h118 (by decide)
              · exact h
            have h45' : (s[k].toNat : Int) = 45 := by rw [h45]; rfl
            have HX := Lib.hid (drop1_cut s k hlt hk1 h45 HN.out)
            clear h45
            go_wp2_with fail
            go_round
            case rel => exact ⟨k + 1, s.extract 1 k, s.extract (k + 1) s.size, true, by omega, by go_num, rfl, rfl, rfl, extract_size_le s _ _, extract_size_le s _ _, HX⟩
            case measure => simp [intOf]; omega
          · have h45' : ((s[k].toNat : Int) == 45) = false := byte_ne_int (c := 45) rfl h45
            have HX := Lib.hid (take_drop1_snoc s k hlt 45 (.inr h45) HN.out)
            clear h45
            go_wp2_with fail
            go_round
            case rel => exact ⟨k + 1, _, _, false, by omega, by go_num, rfl, rfl, rfl, hH, hR, Lib.hid ⟨rfl, rfl, HX.out⟩⟩
            case measure => simp [intOf]; omega
        · obtain rfl : k = s.size := by omega
          have HX := Lib.hid (drop1_none s HN.out)
          go_wp2_with fail
          go_meet
          exact ⟨_, _, false, rfl, rfl, rfl, rfl, hH, hR, HX⟩
  case rest =>
    obtain ⟨H, R, B, rfl, rfl, rfl, rfl, hH, hR, HC⟩ := hcut
    have HW2 : Hid (verWords s.data.toList = split H.data.toList [46]) := Lib.hid (by rw [HW.out, HC.out])
    have HR2 : Hid (verPres s.data.toList = if B = true then split R.data.toList [46] else []) := Lib.hid (by rw [HR.out, HC.out])
    have hH9 := Nat.le_trans hH hs
    have hR9 := Nat.le_trans hR hs
    clear HW HR HC hH hR
    go_wp2_with fail
    refine (refCut_dot H wc hH9).mono ?_
    rintro e w1 ⟨⟨v, rfl, hS, hNew⟩, hb1⟩
    obtain ⟨a, n, cap, L, rfl, hl, hn, hcap, hc⟩ := hS
    have hz1 := hzA.below hb1
    have hb01 := below_step hbA hb1
    have hnl : (verWords s.data.toList).length = n := by rw [HW2.out, hl, lstF_length]
    have hLs := lstF_mem_le (by decide) hl.symm
    have hH9' : H.data.toList.length ≤ 1000000000 := by rw [← size_eq]; exact hH9
    have HL : Hid (lstF n L = verWords s.data.toList) := Lib.hid (by rw [HW2.out, hl])
    have HC := Lib.hid hc
    have hLs9 : ∀ j, j < n → (L j).size ≤ 4000000000 := fun j hj => Nat.le_trans (hLs j hj) (by omega)
    have HN := Lib.hid hnl
    obtain ⟨z0, z1, z2, z3, zf⟩ := id hz1
    have zf0 := zf 0
    have zf1 := zf 1
    have zf2 := zf 2
    have zf3 := zf 3
    clear zf HW2 hl hc hLs hH9' hnl hH9 hNew hzA
    by_cases h3 : n = 3
    case neg =>
      have HF : Hid (verErr s.data.toList = 1) := Lib.hid (by unfold verErr; rw [if_pos (.inr (by rw [HN.out]; exact h3))])
      have h3' : ((n : Int) == 3) = false := beq_eq_false_iff_ne.2 (by omega)
      clear h3
      go_wp2_with fail
      refine bodyPost_ret (v := .tuple #[.agg #[.int .i64 0, .int .i64 0, .int .i64 0, .slice none 0 0], .int .i64 1]) (by simp [results, Tryz.results89, go_sem, *]) rfl ?_
      have hne : verErr s.data.toList ≠ 0 := by rw [HF.out]; decide
      rw [verNum_bad hne, verNum_bad hne, verNum_bad hne, verPre_bad hne, HF.out]
      exact ⟨⟨_, rfl, StrsAt.nil _⟩, (((hb01.setCell (Nat.le_refl _) _).setCell (Nat.le_refl _) _).setCell (Nat.le_refl _) _).setCell (Nat.le_refl _) _⟩
    case pos =>
      subst h3
      clear z0 z1 z2 z3 zf0 zf1 zf2 zf3
      have hVE : Hid (verErr s.data.toList = verErrs s.data.toList) := Lib.hid (verErr_is HP.out HN.out)
      go_upto_block 2 with fail
      have hbB := below_alloc w1 (.cells #[.int .i64 0, .int .i64 0, .int .i64 0, .slice none 0 0] 108)
      have hNB := nbox_alloc w1 108 L
      have hBs : w1.heap.size < (w1.alloc (.cells #[.int .i64 0, .int .i64 0, .int .i64 0, .slice none 0 0] 108)).heap.size := by simp
      have hwz : w.heap.size < w1.heap.size := lt_of_cell hz1.c0
      go_cut [10, 11, 12, 13] from 61 to 84 (fun b _ _ _ wx => ∃ B' : Bool, b = .bool B' ∧ Below w1.heap.size w1 wx ∧ NBox wx w1.heap.size L 3 (.slice none 0 0) ∧ Hid (numErrs (verWords s.data.toList) 0 = bndN B'))
      case first =>
        go_wp2_with fail
        go_loopw [10, 11, 12, 13] (fun b i _ _ wr => ∃ (k : Nat) (B' : Bool), k ≤ 3 ∧ i = .int .i64 k ∧ b = .bool B' ∧ Below w1.heap.size w1 wr ∧ NBox wr w1.heap.size L k (.slice none 0 0) ∧ Hid (numErrs ((lstF 3 L).take k) 0 = bndN B')) (fun _ i _ _ _ => 3 - (intOf i).toNat)
        case atStart => exact ⟨0, false, by omega, rfl, rfl, hbB, hNB, Lib.hid rfl⟩
        case round =>
          obtain ⟨k, B', hk, rfl, rfl, hbr, hN⟩ := hrel
          obtain ⟨hN, HB⟩ := hN
          by_cases hlt : k < 3
          · obtain ⟨b1, o1, rfl, hck⟩ := HC.out k hlt
            replace hck := Below.cell_some hbr hck
            have hzr := hz1.below hbr
            obtain ⟨z0, z1, z2, z3, zf⟩ := id hzr
            have zf0 := zf 0
            have zf1 := zf 1
            have zf2 := zf 2
            have zf3 := zf 3
            have hn1 := hN.c k hlt
            have hn2 := hN.fr k
            have hcall := refNumber_calls (L k) wr (hLs9 k hlt)
            have hle := (numberOf_le (L k).data.toList).2
            have hmem : (L k).data.toList ∈ verWords s.data.toList := by rw [← HL.out]; exact List.mem_of_getElem? (lstF_get 3 L k hlt)
            have hsn := numErrs_snoc ((lstF 3 L).take k) (L k).data.toList 0
            rw [← lstF_take_succ 3 L k hlt] at hsn
            have hstp := hN.step hlt
            by_cases he1 : (numberOf (L k).data.toList).2 = 1
            · have HF : Hid (verErr s.data.toList = 1) := Lib.hid (by rw [hVE.out]; exact verErrs_num hmem he1)
              rw [he1] at hcall
              generalize (numberOf (L k).data.toList).1 = nk at hcall
              clear hsn hle he1 zf hmem hstp hn1 hn2 hzr
              go_wp2_with fail
              refine hcall.mono ?_
              rintro e w5 ⟨rfl, hw5⟩
              subst hw5
              clear hcall
              go_wp2_with fail
              refine bodyPost_ret (v := .tuple #[.agg #[.int .i64 0, .int .i64 0, .int .i64 0, .slice none 0 0], .int .i64 1]) (by simp [results, Tryz.results89, go_sem, *]) rfl ?_
              have hne : verErr s.data.toList ≠ 0 := by rw [HF.out]; decide
              rw [verNum_bad hne, verNum_bad hne, verNum_bad hne, verPre_bad hne, HF.out]
              exact ⟨⟨_, rfl, StrsAt.nil _⟩, ((((below_step hb01 hbr).setCell (Nat.le_refl _) _).setCell (Nat.le_refl _) _).setCell (Nat.le_refl _) _).setCell (Nat.le_refl _) _⟩
            · have HS : Hid (numErrs ((lstF 3 L).take (k + 1)) 0 = bndN (B' || decide (0 < (numberOf (L k).data.toList).2))) := Lib.hid (by rw [hsn, HB.out, bndN_step B' he1 hle])
              have he1' : (((numberOf (L k).data.toList).2 : Int) == 1) = false := beq_eq_false_iff_ne.2 (by omega)
              have hbst : Below w1.heap.size w1 (wr.setCell ⟨w1.heap.size, k, none⟩ (.int .i64 ((numberOf (L k).data.toList).1 : Nat))) := hbr.setCell (Nat.le_refl _) _
              generalize (numberOf (L k).data.toList).2 = ek at hcall he1' HS
              generalize (numberOf (L k).data.toList).1 = nk at hcall hstp hbst
              clear hsn hle he1 zf hmem z0 z1 z2 z3 zf0 zf1 zf2 zf3 hzr
              cases B' with
              | true =>
                go_wp2_with fail
                refine hcall.mono ?_
                rintro e w5 ⟨rfl, hw5⟩
                subst hw5
                clear hcall
                go_wp2_with fail
                go_roundw
                case rel => exact ⟨k + 1, true, by omega, by go_num, rfl, hbst, hstp, HS⟩
                case measure => simp [intOf]; omega
              | false =>
                by_cases h0 : 0 < ek
                · have HS2 : Hid (numErrs ((lstF 3 L).take (k + 1)) 0 = bndN true) := Lib.hid (by rw [HS.out, decide_eq_true h0]; rfl)
                  clear HS
                  have h0' : (0 : Int) < (ek : Int) := by omega
                  go_wp2_with fail
                  refine hcall.mono ?_
                  rintro e w5 ⟨rfl, hw5⟩
                  subst hw5
                  clear hcall
                  go_wp2_with fail
                  go_roundw
                  case rel => exact ⟨k + 1, true, by omega, by go_num, rfl, hbst, hstp, HS2⟩
                  case measure => simp [intOf]; omega
                · have HS2 : Hid (numErrs ((lstF 3 L).take (k + 1)) 0 = bndN false) := Lib.hid (by rw [HS.out, decide_eq_false h0]; rfl)
                  clear HS
                  obtain rfl : ek = 0 := by omega
                  go_wp2_with fail
                  refine hcall.mono ?_
                  rintro e w5 ⟨rfl, hw5⟩
                  subst hw5
                  clear hcall
                  go_wp2_with fail
                  go_roundw
                  case rel => exact ⟨k + 1, false, by omega, by go_num, rfl, hbst, hstp, HS2⟩
                  case measure => simp [intOf]; omega
          · obtain rfl : k = 3 := by omega
            have HS : Hid (numErrs (verWords s.data.toList) 0 = bndN B') := Lib.hid (by rw [← HB.out, lstF_take_all, HL.out])
            go_wp2_with fail
            go_meet
            exact ⟨B', rfl, hbr, hN, HS⟩
      case rest =>
        obtain ⟨B', rfl, hbr, hN, HB⟩ := hcut
        clear hbB hNB
        go_upto_if 85 with fail
        go_cut [] from 86 to 88 (fun wx => ∃ (a' : Option Addr) (n' cap' : Nat) (P : Nat → ByteArray), NBox wx w1.heap.size L 3 (.slice a' n' cap') ∧ Below w1.heap.size w1 wx ∧ n' ≤ cap' ∧ cap' ≤ 9223372036854775807 ∧ n' ≤ 1000000001 ∧ Hid (lstF n' P = verPres s.data.toList) ∧ (∀ j, j < n' → ∃ b o, a' = some ⟨b, o, none⟩ ∧ w1.heap.size < b ∧ wx.cell? ⟨b, o + j, none⟩ = some (.string (P j))) ∧ ∀ j, j < n' → (P j).size ≤ 4000000000)
        case first =>
          cases B with
          | false =>
            have hPr : Hid (verPres s.data.toList = []) := Lib.hid (by rw [HR2.out]; rfl)
            go_wp2_with fail
            go_meet
            exact ⟨none, 0, 0, fun _ => ByteArray.empty, hN, hbr, Nat.le_refl _, by decide, by decide, Lib.hid (by rw [hPr.out]; rfl), fun j hj => absurd hj (Nat.not_lt_zero _), fun j hj => absurd hj (Nat.not_lt_zero _)⟩
          | true =>
            have hPr : Hid (verPres s.data.toList = split R.data.toList [46]) := Lib.hid (by rw [HR2.out]; rfl)
            go_wp2_with fail
            refine (refCut_dot R wc hR9).mono ?_
            rintro e w2 ⟨⟨v2, rfl, hS2, hNew2⟩, hb2⟩
            obtain ⟨a2, n2, cap2, P, rfl, hl2, hn2, hcap2, hc2⟩ := hS2
            have hN2 := hN.below hb2
            have h3 := hN2.c3
            have hf3 := hN2.fr 3
            have hN3 := hN2.set3 (.slice a2 n2 cap2)
            have hbz : w1.heap.size < wc.heap.size := lt_of_cell hN.c3
            have hb3 : Below w1.heap.size w1 (w2.setCell ⟨w1.heap.size, 3, none⟩ (.slice a2 n2 cap2)) := (below_step hbr hb2).setCell (Nat.le_refl _) _
            have hcells : ∀ j, j < n2 → ∃ b o, a2 = some ⟨b, o, none⟩ ∧ w1.heap.size < b ∧ (w2.setCell ⟨w1.heap.size, 3, none⟩ (.slice a2 n2 cap2)).cell? ⟨b, o + j, none⟩ = some (.string (P j)) := fun j hj => by
              obtain ⟨b, o, rfl, h⟩ := hc2 j hj
              have hq : wc.heap.size ≤ b := hNew2 _ _ _ rfl
              refine ⟨b, o, rfl, by omega, ?_⟩
              rw [World.cell?_setCell_other _ _ _ _ (by intro e; injection e with e1 _ _; omega)]
              exact h
            have HX : Hid (lstF n2 P = verPres s.data.toList) := Lib.hid (by rw [hPr.out, hl2])
            have hsz := lstF_mem_le (by decide) hl2.symm
            have hR9' : R.data.toList.length ≤ 1000000000 := by rw [← size_eq]; exact hR9
            have hn9 : n2 ≤ 1000000001 := by
              have h5 := congrArg List.length hl2
              rw [lstF_length] at h5
              have := split_len 46 R.data.toList
              omega
            have HCl := Lib.hid hcells
            clear hc2 hl2 hNew2 hcells
            go_wp2_with fail
            go_meet
            exact ⟨a2, n2, cap2, P, hN3, hb3, hn2, hcap2, hn9, HX, HCl.out, fun j hj => Nat.le_trans (hsz j hj) (by omega)⟩
        case rest =>
          clear hbr hN
          obtain ⟨a', n', cap', P, hN, hbr, hn', hcap', hn9, HP', hcP, hPs⟩ := hcut
          have HcP := Lib.hid hcP
          have hzr := hz1.below hbr
          have c3 := hN.c3
          have hbw := below_step hb01 hbr
          clear hcP
          go_wp2_with fail
          go_loop [10, 14] (fun b i => ∃ (k : Nat) (C : Bool), k ≤ n' ∧ i = .int .i64 k ∧ b = .bool C ∧ Hid (partErrs ((lstF n' P).take k) (numErrs (verWords s.data.toList) 0) = bndN C)) (fun _ i => n' - (intOf i).toNat)
          case atStart => exact ⟨0, B', by omega, rfl, rfl, HB⟩
          case round =>
            obtain ⟨k, C, hk, rfl, rfl, HC'⟩ := hrel
            by_cases hlt : k < n'
            · obtain ⟨b1, o1, rfl, _, hck⟩ := HcP.out k hlt
              have hmem : (P k).data.toList ∈ verPres s.data.toList := by rw [← HP'.out]; exact List.mem_of_getElem? (lstF_get n' P k hlt)
              have hsn := partErrs_snoc ((lstF n' P).take k) (P k).data.toList (numErrs (verWords s.data.toList) 0)
              rw [← lstF_take_succ n' P k hlt, HC'.out] at hsn
              have HSN := Lib.hid hsn
              have HM := Lib.hid hmem
              have hp4 := hPs k hlt
              clear hsn hmem
              generalize P k = p at hck HSN HM hp4
              by_cases hs1 : p.size < 1
              · have HF : Hid (verErr s.data.toList = 1) := Lib.hid (by rw [hVE.out]; exact verErrs_part HM.out (partErr_size (.inl hs1)))
                obtain ⟨z0, z1, z2, z3, zf⟩ := id hzr
                have zf0 := zf 0
                have zf1 := zf 1
                have zf2 := zf 2
                have zf3 := zf 3
                clear zf
                go_wp2_with fail
                refine bodyPost_ret (v := .tuple #[.agg #[.int .i64 0, .int .i64 0, .int .i64 0, .slice none 0 0], .int .i64 1]) (by simp [results, Tryz.results89, go_sem, *]) rfl ?_
                have hne : verErr s.data.toList ≠ 0 := by rw [HF.out]; decide
                rw [verNum_bad hne, verNum_bad hne, verNum_bad hne, verPre_bad hne, HF.out]
                exact ⟨⟨_, rfl, StrsAt.nil _⟩, ((((hbw).setCell (Nat.le_refl _) _).setCell (Nat.le_refl _) _).setCell (Nat.le_refl _) _).setCell (Nat.le_refl _) _⟩
              · by_cases hs8 : 8 < p.size
                · have HF : Hid (verErr s.data.toList = 1) := Lib.hid (by rw [hVE.out]; exact verErrs_part HM.out (partErr_size (.inr hs8)))
                  obtain ⟨z0, z1, z2, z3, zf⟩ := id hzr
                  have zf0 := zf 0
                  have zf1 := zf 1
                  have zf2 := zf 2
                  have zf3 := zf 3
                  clear zf
                  go_wp2_with fail
                  refine bodyPost_ret (v := .tuple #[.agg #[.int .i64 0, .int .i64 0, .int .i64 0, .slice none 0 0], .int .i64 1]) (by simp [results, Tryz.results89, go_sem, *]) rfl ?_
                  have hne : verErr s.data.toList ≠ 0 := by rw [HF.out]; decide
                  rw [verNum_bad hne, verNum_bad hne, verNum_bad hne, verPre_bad hne, HF.out]
                  exact ⟨⟨_, rfl, StrsAt.nil _⟩, ((((hbw).setCell (Nat.le_refl _) _).setCell (Nat.le_refl _) _).setCell (Nat.le_refl _) _).setCell (Nat.le_refl _) _⟩
                · go_upto_block 6 with fail
                  go_cut [16, 17, 18, 19] from 110 to 162 (fun _ _ _ _ wx => wx = wc ∧ Hid ((p.data.toList.take p.size).all isPartByte = true))
                  case first =>
                    go_wp2_with fail
                    go_loop [16, 17, 18, 19] (fun i _ _ _ => ∃ m : Nat, m ≤ p.size ∧ i = .int .i64 m ∧ Hid ((p.data.toList.take m).all isPartByte = true)) (fun i _ _ _ => p.size - (intOf i).toNat)
                    case atStart => exact ⟨0, Nat.zero_le _, rfl, Lib.hid rfl⟩
                    case round =>
                      obtain ⟨m, hm, rfl, HA⟩ := hrel
                      by_cases hml : m < p.size
                      · have hip := isPartByte_iff p[m]
                        rcases byte_classes (p[m].toNat : Int) with h | h
                        · have hyes : isPartByte p[m] = true := hip.2 (by omega)
                          have HN : Hid ((p.data.toList.take (m + 1)).all isPartByte = true) := Lib.hid (by rw [take_snoc p m hml, List.all_append, HA.out]; simp [hyes])
                          clear hip hyes
                          rcases h with ⟨h1, h2, h3, h4, h5, h6⟩ | ⟨h1, h2, h3, h4, h5, h6⟩ | ⟨h1, h2, h3, h4, h5, h6⟩ | h
                          all_goals
                            go_wp2_with fail
                            go_round
                            case rel => exact ⟨m + 1, by omega, by go_num, HN⟩
                            case measure => simp [intOf]; omega
                        · obtain ⟨hd, hno, h⟩ := h
                          have hnot : isPartByte p[m] = false := by
                            rw [Bool.eq_false_iff]
                            intro e
                            have := hip.1 e
                            have h45 : (p[m].toNat : Int) ≠ 45 := beq_eq_false_iff_ne.1 hd
                            omega
                          have HF : Hid (verErr s.data.toList = 1) := Lib.hid (by rw [hVE.out]; exact verErrs_part HM.out (partErr_bad hml hnot))
                          clear hip hnot hno
                          rcases h with ⟨h1, h2, h3, h4, h5, h6⟩ | ⟨h1, h2, h3, h4, h5, h6⟩ | ⟨h1, h2, h3, h4, h5, h6⟩ | ⟨h1, h2, h3, h4, h5, h6⟩
                          all_goals
                            obtain ⟨z0, z1, z2, z3, zf⟩ := id hzr
                            have zf0 := zf 0
                            have zf1 := zf 1
                            have zf2 := zf 2
                            have zf3 := zf 3
                            clear zf
                            go_wp2_with fail
                            refine bodyPost_ret (v := .tuple #[.agg #[.int .i64 0, .int .i64 0, .int .i64 0, .slice none 0 0], .int .i64 1]) (by simp [results, Tryz.results89, go_sem, *]) rfl ?_
                            have hne : verErr s.data.toList ≠ 0 := by rw [HF.out]; decide
                            rw [verNum_bad hne, verNum_bad hne, verNum_bad hne, verPre_bad hne, HF.out]
                            exact ⟨⟨_, rfl, StrsAt.nil _⟩, ((((hbw).setCell (Nat.le_refl _) _).setCell (Nat.le_refl _) _).setCell (Nat.le_refl _) _).setCell (Nat.le_refl _) _⟩
                      · obtain rfl : m = p.size := by omega
                        go_wp2_with fail
                        go_meet
                        exact ⟨rfl, HA⟩
                  case rest =>
                    obtain ⟨rfl, HA⟩ := hcut
                    have HPE := Lib.hid (partErr_good (by omega) (by omega) HA.out)
                    have hdc := refDigits_calls p wc hp4
                    have hnc := refNumber_calls p wc hp4
                    have hle := (numberOf_le p.data.toList).2
                    have HNC := Lib.hid hnc
                    clear hnc
                    cases hd : areDigits p.data.toList with
                    | false =>
                      have HS : Hid (partErrs ((lstF n' P).take (k + 1)) (numErrs (verWords s.data.toList) 0) = bndN C) := Lib.hid (by
                        rw [HSN.out, HPE.out, hd]
                        show worseN (bndN C) 0 = _
                        unfold worseN
                        rw [if_pos (.inr rfl)])
                      rw [hd] at hdc
                      clear hd hle
                      go_wp2_with fail
                      refine hdc.mono ?_
                      rintro e w5 ⟨rfl, hw5⟩
                      subst hw5
                      clear hdc
                      go_wp2_with fail
                      go_round
                      case rel => exact ⟨k + 1, C, by omega, by go_num, rfl, HS⟩
                      case measure => simp [intOf]; omega
                    | true =>
                      have HE : Hid (partErr p.data.toList = (numberOf p.data.toList).2) := Lib.hid (by rw [HPE.out, hd]; rfl)
                      rw [hd] at hdc
                      clear hd
                      have hnc := HNC.out
                      clear HNC
                      by_cases he1 : (numberOf p.data.toList).2 = 1
                      · have HF : Hid (verErr s.data.toList = 1) := Lib.hid (by rw [hVE.out]; exact verErrs_part HM.out (HE.out.trans he1))
                        rw [he1] at hnc
                        generalize (numberOf p.data.toList).1 = nk at hnc
                        clear he1 hle
                        go_wp2_with fail
                        refine hdc.mono ?_
                        rintro e w5 ⟨rfl, hw5⟩
                        subst hw5
                        clear hdc
                        go_wp2_with fail
                        refine hnc.mono ?_
                        rintro e w5 ⟨rfl, hw5⟩
                        subst hw5
                        clear hnc
                        obtain ⟨z0, z1, z2, z3, zf⟩ := id hzr
                        have zf0 := zf 0
                        have zf1 := zf 1
                        have zf2 := zf 2
                        have zf3 := zf 3
                        clear zf
                        go_wp2_with fail
                        refine bodyPost_ret (v := .tuple #[.agg #[.int .i64 0, .int .i64 0, .int .i64 0, .slice none 0 0], .int .i64 1]) (by simp [results, Tryz.results89, go_sem, *]) rfl ?_
                        have hne : verErr s.data.toList ≠ 0 := by rw [HF.out]; decide
                        rw [verNum_bad hne, verNum_bad hne, verNum_bad hne, verPre_bad hne, HF.out]
                        exact ⟨⟨_, rfl, StrsAt.nil _⟩, ((((hbw).setCell (Nat.le_refl _) _).setCell (Nat.le_refl _) _).setCell (Nat.le_refl _) _).setCell (Nat.le_refl _) _⟩
                      · have HS : Hid (partErrs ((lstF n' P).take (k + 1)) (numErrs (verWords s.data.toList) 0) = bndN (C || decide (0 < (numberOf p.data.toList).2))) := Lib.hid (by rw [HSN.out, HE.out, bndN_step C he1 hle])
                        have he1' : (((numberOf p.data.toList).2 : Int) == 1) = false := beq_eq_false_iff_ne.2 (by omega)
                        generalize (numberOf p.data.toList).2 = ek at hnc he1' HS
                        generalize (numberOf p.data.toList).1 = nk at hnc
                        clear hle he1 HE HPE
                        cases C with
                        | true =>
                          go_wp2_with fail
                          refine hdc.mono ?_
                          rintro e w5 ⟨rfl, hw5⟩
                          subst hw5
                          clear hdc
                          go_wp2_with fail
                          refine hnc.mono ?_
                          rintro e w5 ⟨rfl, hw5⟩
                          subst hw5
                          clear hnc
                          go_wp2_with fail
                          go_round
                          case rel => exact ⟨k + 1, true, by omega, by go_num, rfl, HS⟩
                          case measure => simp [intOf]; omega
                        | false =>
                          by_cases h0 : 0 < ek
                          · have HS2 : Hid (partErrs ((lstF n' P).take (k + 1)) (numErrs (verWords s.data.toList) 0) = bndN true) := Lib.hid (by rw [HS.out, decide_eq_true h0]; rfl)
                            clear HS
                            have h0' : (0 : Int) < (ek : Int) := by omega
                            go_wp2_with fail
                            refine hdc.mono ?_
                            rintro e w5 ⟨rfl, hw5⟩
                            subst hw5
                            clear hdc
                            go_wp2_with fail
                            refine hnc.mono ?_
                            rintro e w5 ⟨rfl, hw5⟩
                            subst hw5
                            clear hnc
                            go_wp2_with fail
                            go_round
                            case rel => exact ⟨k + 1, true, by omega, by go_num, rfl, HS2⟩
                            case measure => simp [intOf]; omega
                          · have HS2 : Hid (partErrs ((lstF n' P).take (k + 1)) (numErrs (verWords s.data.toList) 0) = bndN false) := Lib.hid (by rw [HS.out, decide_eq_false h0]; rfl)
                            clear HS
                            obtain rfl : ek = 0 := by omega
                            go_wp2_with fail
                            refine hdc.mono ?_
                            rintro e w5 ⟨rfl, hw5⟩
                            subst hw5
                            clear hdc
                            go_wp2_with fail
                            refine hnc.mono ?_
                            rintro e w5 ⟨rfl, hw5⟩
                            subst hw5
                            clear hnc
                            go_wp2_with fail
                            go_round
                            case rel => exact ⟨k + 1, false, by omega, by go_num, rfl, HS2⟩
                            case measure => simp [intOf]; omega
            · obtain rfl : k = n' := by omega
              have HS : Hid (verErr s.data.toList = if C = true ∨ 5 < k then 2 else 0) := Lib.hid (by
                have h1 := HC'.out
                rw [lstF_take_all, HP'.out] at h1
                rw [hVE.out, verErrs_bnd h1, ← HP'.out, lstF_length])
              by_cases hbad : C = true ∨ 5 < k
              · have HF : Hid (verErr s.data.toList = 2) := Lib.hid (by rw [HS.out, if_pos hbad])
                clear HS
                cases C with
                | true =>
                  clear hbad
                  obtain ⟨z0, z1, z2, z3, zf⟩ := id hzr
                  have zf0 := zf 0
                  have zf1 := zf 1
                  have zf2 := zf 2
                  have zf3 := zf 3
                  clear zf
                  go_wp2_with fail
                  refine bodyPost_ret (v := .tuple #[.agg #[.int .i64 0, .int .i64 0, .int .i64 0, .slice none 0 0], .int .i64 2]) (by simp [results, Tryz.results89, go_sem, *]) rfl ?_
                  have hne : verErr s.data.toList ≠ 0 := by rw [HF.out]; decide
                  rw [verNum_bad hne, verNum_bad hne, verNum_bad hne, verPre_bad hne, HF.out]
                  exact ⟨⟨_, rfl, StrsAt.nil _⟩, ((((hbw).setCell (Nat.le_refl _) _).setCell (Nat.le_refl _) _).setCell (Nat.le_refl _) _).setCell (Nat.le_refl _) _⟩
                | false =>
                  have h5 : 5 < k := hbad.resolve_left (by decide)
                  clear hbad
                  obtain ⟨z0, z1, z2, z3, zf⟩ := id hzr
                  have zf0 := zf 0
                  have zf1 := zf 1
                  have zf2 := zf 2
                  have zf3 := zf 3
                  clear zf
                  go_wp2_with fail
                  refine bodyPost_ret (v := .tuple #[.agg #[.int .i64 0, .int .i64 0, .int .i64 0, .slice none 0 0], .int .i64 2]) (by simp [results, Tryz.results89, go_sem, *]) rfl ?_
                  have hne : verErr s.data.toList ≠ 0 := by rw [HF.out]; decide
                  rw [verNum_bad hne, verNum_bad hne, verNum_bad hne, verPre_bad hne, HF.out]
                  exact ⟨⟨_, rfl, StrsAt.nil _⟩, ((((hbw).setCell (Nat.le_refl _) _).setCell (Nat.le_refl _) _).setCell (Nat.le_refl _) _).setCell (Nat.le_refl _) _⟩
              · have HF : Hid (verErr s.data.toList = 0) := Lib.hid (by rw [HS.out, if_neg hbad])
                rw [not_or] at hbad
                obtain ⟨hC, h5⟩ := hbad
                obtain rfl : C = false := by simpa using hC
                have hv0 := HF.out
                have hn3 := numAt_three L s.data.toList HL.out hv0
                have HX := Lib.hid (And.intro (verPre_ok hv0) (And.intro (hn3 0 (by decide)) (And.intro (hn3 1 (by decide)) (hn3 2 (by decide)))))
                have p0 := hN.c 0 (by decide)
                have p1 := hN.c 1 (by decide)
                have p2 := hN.c 2 (by decide)
                obtain ⟨z0, z1, z2, z3, zf⟩ := id hzr
                have zf0 := zf 0
                have zf1 := zf 1
                have zf2 := zf 2
                have zf3 := zf 3
                have hne : w.heap.size ≠ w1.heap.size := Nat.ne_of_lt hwz
                have hne' : w1.heap.size ≠ w.heap.size := hne.symm
                have hCO : CellsOver wc w1.heap.size a' k P := HcP.out
                have hCf := fun v0 v1 v2 v3 => ((((hCO.set (Nat.le_of_lt hwz) 0 v0).set (Nat.le_of_lt hwz) 1 v1).set (Nat.le_of_lt hwz) 2 v2).set (Nat.le_of_lt hwz) 3 v3).strs hn' hcap'
                have HCF := Lib.hid hCf
                clear zf hC hv0 hn3 HS hCf hCO
                go_wp2_with fail
                refine bodyPost_ret (v := .tuple #[.agg #[.int .i64 (numAt L 3 0), .int .i64 (numAt L 3 1), .int .i64 (numAt L 3 2), .slice a' k cap'], .int .i64 0]) (by simp [results, Tryz.results89, go_sem, *]) rfl ?_
                obtain ⟨hpre, e0, e1, e2⟩ := HX.out
                rw [hpre, ← e0, ← e1, ← e2, HF.out, ← HP'.out]
                exact ⟨⟨_, rfl, HCF.out _ _ _ _⟩, ((((hbw).setCell (Nat.le_refl _) _).setCell (Nat.le_refl _) _).setCell (Nat.le_refl _) _).setCell (Nat.le_refl _) _⟩
theorem refVerOf_calls (s : ByteArray) (w : World) (hs : s.size ≤ 1000000000) :
    Calls Tryz.prog 89 #[.string s] w fun e w' => (∃ v, e = .returned (.tuple #[.agg #[.int .i64 (verNum s.data.toList 0 : Nat), .int .i64 (verNum s.data.toList 1 : Nat), .int .i64 (verNum s.data.toList 2 : Nat), v], .int .i64 (verErr s.data.toList : Nat)]) ∧ StrsAt w' v (verPre s.data.toList)) ∧ Below w.heap.size w w' := by
  cases hp : hasPrefix s.data.toList [118] with
  | true => exact refVerOf_v s w hs hp
  | false =>
    have h1 : verErr s.data.toList = 1 := by unfold verErr; rw [if_pos (.inl hp)]
    have hne : verErr s.data.toList ≠ 0 := by rw [h1]; decide
    refine (refVerOf_none s w hs hp).mono ?_
    rintro e w' ⟨rfl, hb⟩
    rw [verNum_bad hne, verNum_bad hne, verNum_bad hne, verPre_bad hne, h1]
    exact ⟨⟨_, rfl, StrsAt.nil _⟩, hb⟩
end Go.Proofs.Pw

namespace Go.Proofs.Pw
open Go.RowKit
open Go.Lib hiding intOf
def sgnB (x y : Bool) : Int := if x then -1 else if y then 1 else 0
theorem sgnB_int (a b : Int) : sgnB (decide (a < b)) (decide (b < a)) = sgn (a - b) := by
  unfold sgnB sgn
  by_cases h : a < b
  · simp [h]; omega
  · by_cases h2 : b < a
    · simp [h, h2]; omega
    · simp [h, h2]; omega
theorem sgnB_bytes (a b : Str) : sgnB (Op.bytesLess a b) (!Op.bytesLess a b && !(a == b)) = sgn (compareBytes a b) := by
  rw [bytesLess_iff]
  unfold sgnB sgn
  by_cases h : compareBytes a b < 0
  · simp [h]
  · by_cases h2 : 0 < compareBytes a b
    · have : ¬ a = b := fun e => by subst e; rw [compareBytes_ord.self] at h2; omega
      simp [h, h2, this]
    · have : a = b := compareBytes_zero (by omega)
      subst this
      simp [compareBytes_ord.self]
theorem sgn_zero' : sgn 0 = 0 := rfl
theorem sign_calls (x y : Bool) (w : World) :
    Calls Tryz.prog 113 #[.bool x, .bool y] w fun e w' => e = .returned (.int .i64 (sgnB x y)) ∧ w' = w := by
  cases x with
  | true =>
    go_enter Tryz.func113, Tryz.ntmps113
    go_wp2_with fail
    go_ret
    exact ⟨rfl, rfl⟩
  | false =>
    cases y with
    | true =>
      go_enter Tryz.func113, Tryz.ntmps113
      go_wp2_with fail
      go_ret
      exact ⟨rfl, rfl⟩
    | false =>
      go_enter Tryz.func113, Tryz.ntmps113
      go_wp2_with fail
      go_ret
      exact ⟨rfl, rfl⟩
theorem orderPart_calls (a b : ByteArray) (w : World) (ha : a.size ≤ 4000000000) (hb : b.size ≤ 4000000000) :
    Calls Tryz.prog 114 #[.string a, .string b] w fun e w' => e = .returned (.int .i64 (ordPart a.data.toList b.data.toList)) ∧ w' = w := by
  have hm : ordPart a.data.toList b.data.toList = if areDigits a.data.toList && areDigits b.data.toList then sgnB (decide (((numberOf a.data.toList).1 : Int) < (numberOf b.data.toList).1)) (decide (((numberOf b.data.toList).1 : Int) < (numberOf a.data.toList).1)) else if areDigits a.data.toList || areDigits b.data.toList then sgnB (areDigits a.data.toList) (areDigits b.data.toList) else sgnB (Op.bytesLess a.toList b.toList) (!Op.bytesLess a.toList b.toList && !(a.toList == b.toList)) := by
    rw [toList_data, toList_data, sgnB_bytes, sgnB_int]
    unfold ordPart
    cases areDigits a.data.toList <;> cases areDigits b.data.toList <;> rfl
  generalize ordPart a.data.toList b.data.toList = R at hm ⊢
  have h1 := fun W => refDigits_calls a W ha
  have h2 := fun W => refDigits_calls b W hb
  have h3 := fun W => refNumber_calls a W ha
  have h4 := fun W => refNumber_calls b W hb
  generalize areDigits a.data.toList = x at h1 hm
  generalize areDigits b.data.toList = y at h2 hm
  generalize (numberOf a.data.toList).1 = m at h3 hm
  generalize (numberOf b.data.toList).1 = n at h4 hm
  have HM := Lib.hid hm
  have H1 := Lib.hid h1
  have H2 := Lib.hid h2
  have H3 := Lib.hid h3
  have H4 := Lib.hid h4
  clear hm h1 h2 h3 h4
  go_enter Tryz.func114, Tryz.ntmps114
  go_wp2_with fail
  refine (H1.out w).mono ?_
  rintro e w1 ⟨rfl, rfl⟩
  go_wp2_with fail
  refine (H2.out w).mono ?_
  rintro e w1 ⟨rfl, rfl⟩
  cases x <;> cases y
  case false.false =>
    go_wp2_with fail
    refine (sign_calls _ _ w).mono ?_
    rintro e w1 ⟨rfl, rfl⟩
    go_wp2_with fail
    go_ret
    rw [HM.out]
    exact ⟨by simp, rfl⟩
  case true.true =>
    go_wp2_with fail
    refine (H3.out w).mono ?_
    rintro e w1 ⟨rfl, rfl⟩
    go_wp2_with fail
    refine (H4.out w).mono ?_
    rintro e w1 ⟨rfl, rfl⟩
    go_wp2_with fail
    refine (sign_calls _ _ w).mono ?_
    rintro e w1 ⟨rfl, rfl⟩
    go_wp2_with fail
    go_ret
    rw [HM.out]
    exact ⟨by simp, rfl⟩
  all_goals
    go_wp2_with fail
    refine (sign_calls _ _ w).mono ?_
    rintro e w1 ⟨rfl, rfl⟩
    go_wp2_with fail
    go_ret
    rw [HM.out]
    exact ⟨rfl, rfl⟩
theorem verNums_at {a b : Str} {k : Nat} (hk : k < 3) (h0 : ∀ j, j < k → verNum a j = verNum b j) (hne : verNum a k ≠ verNum b k) : verNums a b = (verNum a k : Int) - verNum b k := by
  unfold verNums orI
  obtain rfl | rfl | rfl : k = 0 ∨ k = 1 ∨ k = 2 := by omega
  · rw [if_neg (by omega)]
  · have := h0 0 (by omega)
    rw [if_pos (by omega), if_neg (by omega)]
  · have := h0 0 (by omega)
    have := h0 1 (by omega)
    rw [if_pos (by omega), if_pos (by omega)]
theorem verNums_same {a b : Str} (h0 : ∀ j, j < 3 → verNum a j = verNum b j) : verNums a b = 0 := by
  have := h0 0 (by omega)
  have := h0 1 (by omega)
  have := h0 2 (by omega)
  unfold verNums orI
  rw [if_pos (by omega), if_pos (by omega)]
  omega
theorem sgn_verKey {a b : Str} : sgn (verKey a b) = sgn (verCmp a b) := by
  have := verCmp_sign a b
  have h3 := verKey_ord.anti a b
  unfold sgn
  split <;> split <;> (try split) <;> (try split) <;> omega
theorem verKey_nums {a b : Str} (h : verNums a b ≠ 0) : verKey a b = verNums a b := by unfold verKey orI; rw [if_neg h]
theorem verKey_pre {a b : Str} (h : verNums a b = 0) : verKey a b = orI (preEnd a - preEnd b) (cmpList (verPre a) (verPre b)) := by unfold verKey; rw [h]; rfl
theorem sgnB_ne {x y : Nat} (h : x ≠ y) : sgnB (decide ((x : Int) < y)) true = sgn ((x : Int) - y) := by
  by_cases h1 : x < y
  · rw [sgn_neg (by omega)]
    simp [sgnB, h1]
  · rw [sgn_pos (by omega)]
    simp [sgnB, h1]
theorem ordEnd {a b : Str} {n1 n2 : Nat} {L1 L2 : Nat → ByteArray} (h : verNums a b = 0) (h1 : verPre a = lstF n1 L1) (h2 : verPre b = lstF n2 L2) :
    (n1 = 0 ∨ n2 = 0 → sgn (verKey a b) = sgnB (decide ((0 : Int) < n1)) (decide ((0 : Int) < n2))) ∧ (n1 ≠ 0 → n2 ≠ 0 → sgn (verKey a b) = sgn (cmpList (lstF n1 L1) (lstF n2 L2))) := by
  rw [verKey_pre h]
  unfold preEnd
  rw [h1, h2, lstF_length, lstF_length]
  refine ⟨fun h0 => ?_, fun q1 q2 => ?_⟩
  · by_cases q1 : n1 = 0
    · subst q1
      by_cases q2 : n2 = 0
      · subst q2; rfl
      · have hd : decide ((0 : Int) < n2) = true := decide_eq_true (by omega)
        rw [hd, if_pos rfl, if_neg q2]; rfl
    · obtain rfl : n2 = 0 := by omega
      have hd : decide ((0 : Int) < n1) = true := decide_eq_true (by omega)
      rw [hd, if_neg q1, if_pos rfl]; rfl
  · rw [if_neg q1, if_neg q2]; rfl
theorem cmpList_end1 {n m : Nat} {L M : Nat → ByteArray} {k : Nat} (h : k = n) (hm : k ≤ m) : sgn (cmpList ((lstF n L).drop k) ((lstF m M).drop k)) = sgnB (decide ((n : Int) < m)) (decide ((m : Int) < n)) := by
  subst h
  rw [List.drop_of_length_le (l := lstF k L) (by rw [lstF_length]; exact Nat.le_refl _)]
  by_cases h2 : k < m
  · rw [List.drop_eq_getElem_cons (by rw [lstF_length]; exact h2), decide_eq_true (show (k : Int) < m by omega)]; rfl
  · rw [List.drop_of_length_le (by rw [lstF_length]; omega), decide_eq_false (show ¬ (k : Int) < m by omega), decide_eq_false (show ¬ (m : Int) < k by omega)]; rfl
theorem cmpList_end2 {n m : Nat} {L M : Nat → ByteArray} {k : Nat} (h : k = m) (hm : k < n) : sgn (cmpList ((lstF n L).drop k) ((lstF m M).drop k)) = sgnB (decide ((n : Int) < m)) (decide ((m : Int) < n)) := by
  subst h
  rw [List.drop_of_length_le (l := lstF k M) (by rw [lstF_length]; exact Nat.le_refl _), List.drop_eq_getElem_cons (by rw [lstF_length]; exact hm), decide_eq_false (show ¬ (n : Int) < k by omega), decide_eq_true (show (k : Int) < n by omega)]; rfl
structure NumsAt (w : World) (b : Nat) (s : Str) (v3 : Value) : Prop where
  c : ∀ j, j < 3 → w.cell? ⟨b, j, none⟩ = some (.int .i64 (verNum s j : Nat))
  c3 : w.cell? ⟨b, 3, none⟩ = some v3
theorem NumsAt.below {w w' : World} {b : Nat} {s : Str} {v3 : Value} (h : NumsAt w b s v3) (hb : Below w.heap.size w w') : NumsAt w' b s v3 :=
  ⟨fun j hj => Below.cell_some hb (h.c j hj), Below.cell_some hb h.c3⟩
theorem numsAt_alloc (w : World) (s : Str) (v3 : Value) (t : TypeId) : NumsAt (w.alloc (.cells #[.int .i64 (verNum s 0 : Nat), .int .i64 (verNum s 1 : Nat), .int .i64 (verNum s 2 : Nat), v3] t)) w.heap.size s v3 :=
  ⟨fun j hj => by obtain rfl | rfl | rfl : j = 0 ∨ j = 1 ∨ j = 2 := by omega
                  all_goals simp, by simp⟩
set_option maxRecDepth 100000 in
set_option maxHeartbeats 1000000 in
theorem orderVer_calls (a b : ByteArray) (w : World) (ha : a.size ≤ 1000000000) (hb : b.size ≤ 1000000000) :
    Calls Tryz.prog 68 #[.string a, .string b] w fun e w' => e = .returned (.int .i64 (sgn (verCmp a.data.toList b.data.toList))) ∧ Below w.heap.size w w' := by
  have hR := sgn_verKey (a := a.data.toList) (b := b.data.toList)
  rw [← hR]
  clear hR
  have hs1 := verPre_small a.data.toList
  have hs2 := verPre_small b.data.toList
  go_enter Tryz.func68, Tryz.ntmps68
  go_wp2_with fail
  refine (refVerOf_calls a w ha).mono ?_
  rintro e w1 ⟨⟨va, rfl, a1, n1, cap1, L1, rfl, HL1, hn1, hn1', hc1⟩, hb1⟩
  have hbA := below_alloc w1 (.cells #[.int .i64 (verNum a.data.toList 0 : Nat), .int .i64 (verNum a.data.toList 1 : Nat), .int .i64 (verNum a.data.toList 2 : Nat), .slice a1 n1 cap1] 108)
  have hzA := numsAt_alloc w1 a.data.toList (.slice a1 n1 cap1) 108
  have hb1A := below_step hb1 hbA
  go_wp2_with fail
  refine (refVerOf_calls b _ hb).mono ?_
  rintro e w2 ⟨⟨vb, rfl, a2, n2, cap2, L2, rfl, HL2, hn2, hn2', hc2⟩, hb2⟩
  have hbB := below_alloc w2 (.cells #[.int .i64 (verNum b.data.toList 0 : Nat), .int .i64 (verNum b.data.toList 1 : Nat), .int .i64 (verNum b.data.toList 2 : Nat), .slice a2 n2 cap2] 108)
  have hzB := numsAt_alloc w2 b.data.toList (.slice a2 n2 cap2) 108
  have hzA2 := (hzA.below hb2).below hbB
  have hbw := below_step (below_step hb1A hb2) hbB
  have hc1' := fun j (hj : j < n1) => (let ⟨b, o, e, h2⟩ := hc1 j hj; ⟨b, o, e, Below.cell_some (below_step hbA (below_step hb2 hbB)) h2⟩ : ∃ b o, a1 = some ⟨b, o, none⟩ ∧ _)
  have hc2' := fun j (hj : j < n2) => (let ⟨b, o, e, h2⟩ := hc2 j hj; ⟨b, o, e, Below.cell_some hbB h2⟩ : ∃ b o, a2 = some ⟨b, o, none⟩ ∧ _)
  rw [HL1] at hs1
  rw [HL2] at hs2
  rw [lstF_length] at hs1 hs2
  have hL1 : ∀ j, j < n1 → (L1 j).size ≤ 4000000000 ∧ partErr (L1 j).data.toList = 0 := fun j hj => by
    have := hs1.2 _ (List.mem_of_getElem? (lstF_get n1 L1 j hj))
    exact ⟨by rw [size_eq]; omega, this.2⟩
  have hL2 : ∀ j, j < n2 → (L2 j).size ≤ 4000000000 ∧ partErr (L2 j).data.toList = 0 := fun j hj => by
    have := hs2.2 _ (List.mem_of_getElem? (lstF_get n2 L2 j hj))
    exact ⟨by rw [size_eq]; omega, this.2⟩
  have hm1 := hs1.1
  have hm2 := hs2.1
  have HPA := Lib.hid HL1
  have HPB := Lib.hid HL2
  have HC1 := Lib.hid hc1'
  have HC2 := Lib.hid hc2'
  have HS1 := Lib.hid hL1
  have HS2 := Lib.hid hL2
  clear hs1 hs2 hL1 hL2 hc1 hc2 hc1' hc2' HL1 HL2 hzA hb1 hbA hb1A
  go_wp2_with fail
  generalize hwB : w2.alloc (.cells #[.int .i64 (verNum b.data.toList 0 : Nat), .int .i64 (verNum b.data.toList 1 : Nat), .int .i64 (verNum b.data.toList 2 : Nat), .slice a2 n2 cap2] 108) = wB at *
  clear hwB
  go_loopw [9] (fun i wr => ∃ k : Nat, k ≤ 3 ∧ i = .int .i64 k ∧ Below wB.heap.size wB wr ∧ Hid (∀ j, j < k → verNum a.data.toList j = verNum b.data.toList j)) (fun i _ => 3 - (intOf i).toNat)
  case atStart => exact ⟨0, by omega, rfl, Below.refl _ _, Lib.hid (fun j hj => absurd hj (Nat.not_lt_zero _))⟩
  case round =>
    obtain ⟨k, hk, rfl, hbr, HA⟩ := hrel
    have hbrw := below_step hbw hbr
    by_cases hlt : k < 3
    · have d1 := (hzA2.below hbr).c k hlt
      have d2 := (hzB.below hbr).c k hlt
      by_cases he : verNum a.data.toList k = verNum b.data.toList k
      · have HN : Hid (∀ j, j < k + 1 → verNum a.data.toList j = verNum b.data.toList j) := Lib.hid (fun j hj => by
          by_cases e : j = k
          · subst e; exact he
          · exact HA.out j (by omega))
        rw [he] at d1
        generalize verNum b.data.toList k = x at d1 d2
        clear he
        go_wp2_with fail
        go_region
        all_goals
          go_wp2_with fail
          go_roundw
          case rel => exact ⟨k + 1, by omega, by go_num, hbr.drew, HN⟩
          case measure => simp [intOf]; omega
      · have hX : sgn (verKey a.data.toList b.data.toList) = sgnB (decide ((verNum a.data.toList k : Int) < verNum b.data.toList k)) true := by
          have h1 := verNums_at hlt HA.out he
          rw [verKey_nums (by rw [h1]; omega), h1, sgnB_ne he]
        have hne : ((verNum a.data.toList k : Int) == (verNum b.data.toList k : Int)) = false := beq_eq_false_iff_ne.2 (by omega)
        generalize verNum a.data.toList k = x at d1 hX hne
        generalize verNum b.data.toList k = y at d2 hX hne
        have HX := Lib.hid hX
        clear he hX
        go_wp2_with fail
        go_region
        go_wp2_with fail
        have e1 : wr.drew.cell? _ = _ := d1
        have e2 : wr.drew.cell? _ = _ := d2
        have hbd := Below.drew hbrw
        generalize wr.drew = wd at e1 e2 hbd ⊢
        clear d1 d2
        go_quiet ((go_at_call 113; exact Calls.quiet_of_same (sign_calls _ _ _)))
        go_wp2_with fail
        go_ret
        rw [HX.out]
        exact ⟨by simp, Below.drewN hbd _⟩
    · obtain rfl : k = 3 := by omega
      have hEnd := ordEnd (verNums_same HA.out) HPA.out HPB.out
      have p3 := (hzA2.below hbr).c3
      have q3 := (hzB.below hbr).c3
      have hE1 := Lib.hid hEnd.1
      have hE2 := Lib.hid hEnd.2
      clear hEnd HA
      by_cases p1 : n1 = 0
      · have HX := Lib.hid (hE1.out (.inl p1))
        have p1' : ((n1 : Int) == 0) = true := beq_iff_eq.2 (by omega)
        have p1'' : ¬ (0 : Int) < (n1 : Int) := by omega
        clear p1
        go_wp2_with fail
        refine (sign_calls _ _ _).mono ?_
        rintro e w5 ⟨rfl, rfl⟩
        go_wp2_with fail
        go_ret
        rw [HX.out]
        exact ⟨by simp, hbrw⟩
      · have p1' : ((n1 : Int) == 0) = false := beq_eq_false_iff_ne.2 (by omega)
        have p1'' : (0 : Int) < (n1 : Int) := by omega
        by_cases p2 : n2 = 0
        · have HX := Lib.hid (hE1.out (.inr p2))
          have p2' : ((n2 : Int) == 0) = true := beq_iff_eq.2 (by omega)
          have p2'' : ¬ (0 : Int) < (n2 : Int) := by omega
          clear p1 p2
          go_wp2_with fail
          refine (sign_calls _ _ _).mono ?_
          rintro e w5 ⟨rfl, rfl⟩
          go_wp2_with fail
          go_ret
          rw [HX.out]
          exact ⟨by simp, hbrw⟩
        · have HX := Lib.hid (hE2.out p1 p2)
          have p2' : ((n2 : Int) == 0) = false := beq_eq_false_iff_ne.2 (by omega)
          clear p1 p2 p1'' hE1 hE2
          obtain ⟨wo, hwo⟩ : ∃ wo : World, wo = wr := ⟨_, rfl⟩
          subst hwo
          go_wp2_with fail
          go_loopw [10, 11] (fun i _ wq => ∃ m : Nat, m ≤ n1 ∧ m ≤ n2 ∧ i = .int .i64 m ∧ Below wo.heap.size wo wq ∧ Hid (sgn (verKey a.data.toList b.data.toList) = sgn (cmpList ((lstF n1 L1).drop m) ((lstF n2 L2).drop m)))) (fun i _ _ => n1 - (intOf i).toNat)
          case atStart => exact ⟨0, by omega, by omega, rfl, Below.refl _ _, HX⟩
          case round =>
            obtain ⟨m, hm, hm', rfl, hbq, HC⟩ := hrel
            have hbqw := below_step hbrw hbq
            have hbqB := below_step hbr hbq
            replace p3 := Below.cell_some hbq p3
            replace q3 := Below.cell_some hbq q3
            by_cases hl1 : m < n1
            · by_cases hl2 : m < n2
              · obtain ⟨b1, o1, rfl, e1⟩ := HC1.out m hl1
                obtain ⟨b2, o2, rfl, e2⟩ := HC2.out m hl2
                replace e1 := Below.cell_some hbqB e1
                replace e2 := Below.cell_some hbqB e2
                have hcall := fun W => orderPart_calls (L1 m) (L2 m) W (HS1.out m hl1).1 (HS2.out m hl2).1
                rw [ordPart_eq (HS1.out m hl1).2 (HS2.out m hl2).2] at hcall
                have hst := cmpList_drop n1 n2 L1 L2 m hl1 hl2
                generalize cmpPart (L1 m).data.toList (L2 m).data.toList = c at hcall hst
                by_cases hc : c = 0
                · subst hc
                  rw [orI_zero] at hst
                  rw [sgn_zero'] at hcall
                  have HN : Hid (sgn (verKey a.data.toList b.data.toList) = sgn (cmpList ((lstF n1 L1).drop (m + 1)) ((lstF n2 L2).drop (m + 1)))) := Lib.hid (by rw [HC.out, hst])
                  have HCall := Lib.hid hcall
                  clear hst hcall
                  go_wp2_with fail
                  go_quiet ((go_at_call 114; exact Calls.quiet_of_same (HCall.out _)))
                  go_wp2_with fail
                  go_roundw
                  case rel => exact ⟨m + 1, by omega, by omega, by go_num, Below.drewN hbq _, HN⟩
                  case measure => simp [intOf]; omega
                · have hne : (sgn c == 0) = false := beq_eq_false_iff_ne.2 (fun e => hc (sgn_zero.1 e))
                  rw [orI_left hc] at hst
                  have HN : Hid (sgn (verKey a.data.toList b.data.toList) = sgn c) := Lib.hid (by rw [HC.out, hst])
                  generalize sgn c = sc at hcall hne HN
                  have HCall := Lib.hid hcall
                  clear hst hcall hc
                  go_wp2_with fail
                  go_quiet ((go_at_call 114; exact Calls.quiet_of_same (HCall.out _)))
                  go_wp2_with fail
                  go_ret
                  rw [HN.out]
                  exact ⟨rfl, Below.drewN hbqw _⟩
              · have HN : Hid (sgn (verKey a.data.toList b.data.toList) = sgnB (decide ((n1 : Int) < n2)) (decide ((n2 : Int) < n1))) := Lib.hid (by rw [HC.out, cmpList_end2 (by omega) hl1])
                go_wp2_with fail
                refine (sign_calls _ _ _).mono ?_
                rintro e w5 ⟨rfl, rfl⟩
                go_wp2_with fail
                go_ret
                rw [HN.out]
                exact ⟨by simp, hbqw⟩
            · have HN : Hid (sgn (verKey a.data.toList b.data.toList) = sgnB (decide ((n1 : Int) < n2)) (decide ((n2 : Int) < n1))) := Lib.hid (by rw [HC.out, cmpList_end1 (by omega) hm'])
              go_wp2_with fail
              refine (sign_calls _ _ _).mono ?_
              rintro e w5 ⟨rfl, rfl⟩
              go_wp2_with fail
              go_ret
              rw [HN.out]
              exact ⟨by simp, hbqw⟩
theorem isVer_calls (a : ByteArray) (w : World) (ha : a.size ≤ 1000000000) :
    Calls Tryz.prog 67 #[.string a] w fun e w' => e = .returned (.bool (decide (verErr a.data.toList = 0))) ∧ Below w.heap.size w w' := by
  go_enter Tryz.func67, Tryz.ntmps67
  go_wp2_with fail
  refine (refVerOf_calls a w ha).mono ?_
  rintro e w1 ⟨⟨va, rfl, a1, n1, cap1, L1, rfl, _, _, _, _⟩, hb1⟩
  by_cases h : verErr a.data.toList = 0
  · have HF := Lib.hid (decide_eq_true h)
    rw [h]
    clear h
    go_wp2_with fail
    go_ret
    rw [HF.out]
    exact ⟨rfl, hb1.alloc hb1.size _⟩
  · have h' : ((verErr a.data.toList : Int) == 0) = false := beq_eq_false_iff_ne.2 (by omega)
    have HF := Lib.hid (decide_eq_false h)
    clear h
    go_wp2_with fail
    go_ret
    rw [HF.out]
    exact ⟨rfl, hb1.alloc hb1.size _⟩
theorem isLess_calls (a b : ByteArray) (w : World) (ha : a.size ≤ 1000000000) (hb : b.size ≤ 1000000000) :
    Calls Tryz.prog 23 #[.string a, .string b] w fun e w' => e = .returned (.bool (verLess a.data.toList b.data.toList)) ∧ Below w.heap.size w w' := by
  have hm : verLess a.data.toList b.data.toList = (decide (verErr a.data.toList = 0) && (decide (verErr b.data.toList = 0) && decide (sgn (verCmp a.data.toList b.data.toList) < 0))) := by
    unfold verLess
    rw [Bool.eq_iff_iff]
    simp [sgn_lt]
  generalize verLess a.data.toList b.data.toList = R at hm ⊢
  have h1 := fun W => isVer_calls a W ha
  have h2 := fun W => isVer_calls b W hb
  have h3 := fun W => orderVer_calls a b W ha hb
  generalize decide (verErr a.data.toList = 0) = x at h1 hm
  generalize decide (verErr b.data.toList = 0) = y at h2 hm
  generalize sgn (verCmp a.data.toList b.data.toList) = c at h3 hm
  have HM := Lib.hid hm
  have H1 := Lib.hid h1
  have H2 := Lib.hid h2
  have H3 := Lib.hid h3
  clear hm h1 h2 h3
  go_enter Tryz.func23, Tryz.ntmps23
  go_wp2_with fail
  refine (H1.out w).mono ?_
  rintro e w1 ⟨rfl, hb1⟩
  go_wp2_with fail
  refine (H2.out w1).mono ?_
  rintro e w2 ⟨rfl, hb2⟩
  have hb12 := below_step hb1 hb2
  cases x <;> cases y
  case true.true =>
    go_wp2_with fail
    refine (H3.out w2).mono ?_
    rintro e w3 ⟨rfl, hb3⟩
    have hb13 := below_step hb12 hb3
    go_wp2_with fail
    go_ret
    rw [HM.out]
    exact ⟨by simp, hb13⟩
  all_goals
    go_wp2_with fail
    go_ret
    rw [HM.out]
    exact ⟨rfl, hb12⟩
end Go.Proofs.Pw

namespace Go.Proofs.Pw
open Go.Lib hiding intOf
theorem lstF_mem {m : Nat} {M : Nat → ByteArray} {x : Str} : x ∈ lstF m M ↔ ∃ j, j < m ∧ (M j).data.toList = x := by
  simp [lstF]
end Go.Proofs.Pw

namespace Go.Proofs.Pw
open Go.RowKit
open Go.Lib hiding intOf
theorem vsort_snoc (l : List Str) (s : Str) : vsort (l ++ [s]) = if verErr s = 0 then insU verCmp s (vsort l) else vsort l := by
  unfold vsort
  rw [List.filter_append]
  by_cases h : verErr s = 0
  · rw [if_pos h]
    have : [s].filter (fun s => decide (verErr s = 0)) = [s] := by simp [h]
    rw [this, insAll_snoc]
  · rw [if_neg h]
    have : [s].filter (fun s => decide (verErr s = 0)) = [] := by simp [h]
    rw [this, List.append_nil]
theorem insAt_less {s : Str} : ∀ {l : List Str} {j : Nat} {x : Str}, j < insAt verCmp s l → l[j]? = some x → verCmp x s < 0
  | [], j, x, h, _ => absurd h (Nat.not_lt_zero _)
  | a :: r, j, x, h, hx => by
    unfold insAt at h
    split at h
    · rename_i hlt
      cases j with
      | zero => simp at hx; subst hx; exact hlt
      | succ j => exact insAt_less (l := r) (j := j) (by omega) (by simpa using hx)
    · exact absurd h (Nat.not_lt_zero _)
theorem insAt_stop {s : Str} : ∀ {l : List Str} {x : Str}, l[insAt verCmp s l]? = some x → ¬ verCmp x s < 0
  | [], x, h => by simp at h
  | a :: r, x, h => by
    unfold insAt at h
    split at h
    · exact insAt_stop (l := r) (by simpa using h)
    · rename_i hn
      simp at h; subst h; exact hn
theorem strTs_get {l : List ByteArray} {j : Nat} (h : j < l.length) : (strTs l)[j]? = some (l.getD j ByteArray.empty).data.toList := by
  simp [strTs, List.getD_eq_getElem?_getD, List.getElem?_eq_getElem h]
theorem strTs_append (a b : List ByteArray) : strTs (a ++ b) = strTs a ++ strTs b := List.map_append ..
theorem strTs_take (l : List ByteArray) (k : Nat) : strTs (l.take k) = (strTs l).take k := List.map_take ..
theorem strTs_drop (l : List ByteArray) (k : Nat) : strTs (l.drop k) = (strTs l).drop k := List.map_drop ..
theorem strVs_get {l : List ByteArray} {j : Nat} {u : Value} (h : (strVs l)[j]? = some u) : j < l.length ∧ u = .string (l.getD j ByteArray.empty) := by
  unfold strVs at h
  rw [List.getElem?_map] at h
  have hl : j < l.length := by
    rcases Nat.lt_or_ge j l.length with h' | h'
    · exact h'
    · rw [List.getElem?_eq_none h'] at h; cases h
  rw [List.getElem?_eq_getElem hl] at h
  exact ⟨hl, by rw [List.getD_eq_getElem?_getD, List.getElem?_eq_getElem hl]; cases h; rfl⟩
theorem strVs_one {l : List ByteArray} : ∀ u ∈ strVs l, u.oneCell' = true := by
  intro u hu
  obtain ⟨x, _, rfl⟩ := List.mem_map.1 hu
  rfl
def AccAt (w : World) (base : Nat) (o : Value) (P : List ByteArray) : Prop :=
  (P = [] ∧ o = .slice none 0 0) ∨ ∃ g c, P ≠ [] ∧ o = .slice (some ⟨g, 0, none⟩) P.length c ∧ base ≤ g ∧ g < w.heap.size ∧ P.length ≤ c ∧ c ≤ 9223372036854775807 ∧ ∀ j, j < P.length → w.cell? ⟨g, j, none⟩ = some (.string (P.getD j ByteArray.empty))
theorem AccAt.below {w w' : World} {base : Nat} {o : Value} {P : List ByteArray} (h : AccAt w base o P) (hb : Below w.heap.size w w') : AccAt w' base o P := by
  rcases h with h | ⟨g, c, h1, h2, h3, h4, h5, h6, h7⟩
  · exact .inl h
  · exact .inr ⟨g, c, h1, h2, h3, Nat.lt_of_lt_of_le h4 hb.size, h5, h6, fun j hj => Below.cell_some hb (h7 j hj)⟩
theorem AccAt.mono {w : World} {base base' : Nat} {o : Value} {P : List ByteArray} (h : AccAt w base o P) (hb : base' ≤ base) : AccAt w base' o P := by
  rcases h with h | ⟨g, c, h1, h2, h3, r⟩
  · exact .inl h
  · exact .inr ⟨g, c, h1, h2, by omega, r⟩
theorem accAt_own {w : World} {base e : Nat} {v : Value} {l : List ByteArray} (h : w.ownsRow base e 1 v l.length (strVs l)) (hl : l ≠ []) : AccAt w base v l := by
  rcases h.2 with ⟨rfl, h0⟩ | ⟨g, cap, cur, rfl, hb, hg, hn, hm, hs, ht⟩
  · exact absurd (List.eq_nil_of_length_eq_zero h0) hl
  · refine .inr ⟨g, cap, hl, rfl, hb, (Array.getElem?_eq_some_iff.1 hg).1, hn, by unfold maxLen at hm; exact hm, fun j hj => ?_⟩
    rw [cell_of_row w g j cur e (0, 0) hg]
    have h1 : (strVs l)[j]? = some (.string (l.getD j ByteArray.empty)) := by
      simp [strVs, List.getD_eq_getElem?_getD, List.getElem?_eq_getElem hj]
    rw [← ht, List.getElem?_take, if_pos (by omega)] at h1
    simpa using h1
theorem AccAt.strs {w : World} {base : Nat} {o : Value} {P : List ByteArray} (h : AccAt w base o P) : StrsAt w o (strTs P) := by
  rcases h with ⟨rfl, rfl⟩ | ⟨g, c, h1, rfl, h3, h4, h5, h6, h7⟩
  · exact StrsAt.nil w
  · exact ⟨_, P.length, c, fun j => P.getD j ByteArray.empty, rfl, (lstF_list P).symm, h5, h6, fun j hj => ⟨g, 0, rfl, by rw [Nat.zero_add]; exact h7 j hj⟩⟩
theorem acc_cells {w : World} {g : Nat} {P : List ByteArray} (h : ∀ j, j < P.length → w.cell? ⟨g, j, none⟩ = some (.string (P.getD j ByteArray.empty))) (o m : Nat) (hm : o + m ≤ P.length) :
    ∀ j u, (strVs ((P.drop o).take m))[j]? = some u → w.cell? ((⟨g, o, none⟩ : Addr).add j) = some u := by
  intro j u hu
  obtain ⟨hj, rfl⟩ := strVs_get hu
  rw [List.length_take, List.length_drop] at hj
  rw [show (⟨g, o, none⟩ : Addr).add j = ⟨g, o + j, none⟩ from by unfold Addr.add; split <;> simp_all]
  rw [h (o + j) (by omega)]
  simp [List.getD_eq_getElem?_getD, List.getElem?_drop, show j < m by omega]
theorem ins_list {X : List Str} {P : List ByteArray} {q : Nat} {s : ByteArray} (h : (strTs P)[q]? ≠ some s.data.toList) (hins : X = if (strTs P)[q]? = some s.data.toList then strTs P else (strTs P).take q ++ s.data.toList :: (strTs P).drop q) : X = strTs (P.take q ++ [s] ++ P.drop q) := by
  rw [hins, if_neg h, strTs_append, strTs_append, strTs_take, strTs_drop]
  simp [strTs]
set_option maxHeartbeats 2000000 in
set_option maxRecDepth 100000 in
theorem sortVers_calls (v : Value) (l : List Str) (w : World) (hS : StrsAt w v l) (hn : l.length ≤ 1000000) (hl : ∀ x ∈ l, x.length ≤ 1000000000) :
    Calls Tryz.prog 182 #[v] w fun e w' => (∃ v', e = .returned v' ∧ StrsAt w' v' (vsort l)) ∧ Below w.heap.size w w' := by
  obtain ⟨i0, hi, hz0, hz1, hz2⟩ := info_parts Tryz.infoString
  obtain ⟨p, n, cap, L, rfl, rfl, hnc, hcap, hcl⟩ := hS
  rw [lstF_length] at hn
  have hLs : ∀ j, j < n → (L j).size ≤ 1000000000 := fun j hj => by
    have := hl (L j).data.toList (lstF_mem.2 ⟨j, hj, rfl⟩)
    rw [size_eq]; exact this
  have HC := Lib.hid hcl
  clear hcl hl
  go_enter Tryz.func182, Tryz.ntmps182
  go_wp2_with fail
  go_loopw [3, 4] (fun o i wr => ∃ (k : Nat) (P : List ByteArray), k ≤ n ∧ i = .int .i64 k ∧ AccAt wr w.heap.size o P ∧ P.length ≤ k ∧ (∀ x ∈ P, x.size ≤ 1000000000) ∧ Below w.heap.size w wr ∧ Hid (vsort ((lstF n L).take k) = strTs P)) (fun _ i _ => n - (intOf i).toNat)
  case atStart => exact ⟨0, [], Nat.zero_le _, rfl, .inl ⟨rfl, rfl⟩, Nat.le_refl _, by simp, Below.refl _ _, Lib.hid rfl⟩
  case round =>
    obtain ⟨k, P, hk, rfl, hacc, hPk, hPs, hb, HV⟩ := hrel
    by_cases hlt : k < n
    · obtain ⟨b1, o1, rfl, hck⟩ := HC.out k hlt
      replace hck := Below.cell_some hb hck
      have hsk := hLs k hlt
      have hiv := fun W => isVer_calls (L k) W hsk
      have hstep : vsort ((lstF n L).take (k + 1)) = if verErr (L k).data.toList = 0 then insU verCmp (L k).data.toList (strTs P) else strTs P := by
        rw [List.take_add_one, lstF_get n L k hlt, ← HV.out]
        exact vsort_snoc _ _
      by_cases h0 : verErr (L k).data.toList = 0
      · rw [if_pos h0] at hstep
        rw [decide_eq_true h0] at hiv
        replace hiv := Lib.hid hiv
        replace hstep := Lib.hid hstep
        go_wp2_with fail
        refine (hiv.out wr).mono ?_
        rintro e w1 ⟨rfl, hb1⟩
        replace hck := Below.cell_some hb1 hck
        replace hacc := hacc.below hb1
        replace hb := below_step hb hb1
        clear hb1
        have hB := hb
        have c1 := hck
        clear hb hck hiv
        have hle := insAt_le verCmp (L k).data.toList (strTs P)
        rw [strTs_length] at hle
        have hless : ∀ j x, j < insAt verCmp (L k).data.toList (strTs P) → (strTs P)[j]? = some x → verCmp x (L k).data.toList < 0 := fun j x h1 h2 => insAt_less h1 h2
        have hstop : ∀ x, (strTs P)[insAt verCmp (L k).data.toList (strTs P)]? = some x → ¬ verCmp x (L k).data.toList < 0 := fun x h => insAt_stop h
        have hins := insU_at verCmp (L k).data.toList (strTs P)
        rw [← hstep.out] at hins
        generalize insAt verCmp (L k).data.toList (strTs P) = q at hle hless hstop hins
        replace hless := Lib.hid hless
        replace hstop := Lib.hid hstop
        replace hins := Lib.hid hins
        have HPS := Lib.hid hPs
        clear hstep hPs
        generalize L k = s at c1 hsk hless hstop hins ⊢
        go_wp2_with fail
        go_loopw [6] (fun a w2 => ∃ j : Nat, j ≤ q ∧ a = .int .i64 j ∧ Below w1.heap.size w1 w2) (fun a _ => P.length + 1 - (intOf a).toNat)
        case atStart => exact ⟨0, Nat.zero_le _, rfl, Below.refl _ _⟩
        case round =>
          obtain ⟨j, hj, rfl, hb⟩ := hrel
          have hB1 := hb
          replace hB := below_step hB hb
          replace hacc := hacc.below hb
          replace c1 := Below.cell_some hb c1
          clear hb
          by_cases hjl : j < P.length
          · have hjl' : (j : Int) < (P.length : Int) := by omega
            have hget := strTs_get hjl
            have hPj : (P.getD j ByteArray.empty).size ≤ 1000000000 := HPS.out _ (by rw [List.getD_eq_getElem?_getD, List.getElem?_eq_getElem hjl]; simp)
            obtain ⟨g, c, hg1, rfl, hg3, hg4, hg5, hg6, hg7⟩ := id (hacc.resolve_left (fun h => by rw [h.1] at hjl; exact absurd hjl (Nat.not_lt_zero _)))
            have c2 := hg7 j hjl
            have hov := fun W => orderVer_calls (P.getD j ByteArray.empty) s W hPj hsk
            by_cases hlo : j < q
            · have hneg := hless.out _ _ hlo hget
              rw [sgn_neg hneg] at hov
              replace hov := Lib.hid hov
              clear hneg hget hg7
              generalize P.getD j ByteArray.empty = x at c2 hov
              go_wp2_with fail
              have k1 := fun d os => cell_patch (d := d) (os := os) c1
              have k2 := fun d os => cell_patch (d := d) (os := os) c2
              clear c2
              refine wp_region_quiet_patch (by kernel_rfl) (by kernel_rfl) ?_
              repeat (quiet_step ((go_at_call 68; with_reducible exact Calls.patch_of (hov.out _))))
              refine wpQuiet_nil ?_
              intro _ hw'
              obtain ⟨⟨dq, osq⟩, hw''⟩ := hw'
              subst hw''
              have hb := below_patch wr dq osq
              replace hB := below_step hB hb
              replace hacc := hacc.below hb
              replace c1 := Below.cell_some hb c1
              replace hB1 := below_step hB1 hb
              clear hb
              generalize patch wr dq osq = w2 at hB hacc c1 hB1 ⊢
              go_wp2_with fail
              go_roundw
              case rel => exact ⟨j + 1, by omega, by go_num, hB1⟩
              case measure => simp [intOf]; omega
            · obtain rfl : j = q := by omega
              have hnn := hstop.out _ hget
              generalize hxd : P.getD j ByteArray.empty = x at c2 hov hnn hget
              have hsn : ¬ sgn (verCmp x.data.toList s.data.toList) < 0 := fun h => absurd (sgn_lt.1 h) (by omega)
              generalize sgn (verCmp x.data.toList s.data.toList) = e0 at hov hsn
              replace hov := Lib.hid hov
              replace hget := Lib.hid hget
              replace hxd := Lib.hid hxd
              clear hnn
              go_wp2_with fail
              have k1 := fun d os => cell_patch (d := d) (os := os) c1
              have k2 := fun d os => cell_patch (d := d) (os := os) c2
              refine wp_region_quiet_patch (by kernel_rfl) (by kernel_rfl) ?_
              repeat (quiet_step ((go_at_call 68; with_reducible exact Calls.patch_of (hov.out _))))
              refine wpQuiet_nil ?_
              intro _ hw'
              obtain ⟨⟨dq, osq⟩, hw''⟩ := hw'
              subst hw''
              have hb := below_patch wr dq osq
              replace hB := below_step hB hb
              replace hacc := hacc.below hb
              replace c1 := Below.cell_some hb c1
              replace c2 := Below.cell_some hb c2
              replace hB1 := below_step hB1 hb
              clear hb
              generalize patch wr dq osq = w2 at hB hacc c1 c2 hB1 ⊢
              clear k1 k2
              by_cases hxs : x = s
              · subst hxs
                have HN : Hid (vsort ((lstF n L).take (k + 1)) = strTs P) := Lib.hid (by rw [hins.out, if_pos hget.out])
                go_wp2_with fail
                go_region
                all_goals
                  go_wp2_with fail
                  go_roundw
                  case rel => exact ⟨k + 1, P, by omega, by go_num, hacc.below ((Below.refl _ _).drew), by omega, HPS.out, hB.drew, HN⟩
                  case measure => simp [intOf]; omega
              · have hbe : (x.toList == s.toList) = false := by rw [toList_data, toList_data]; exact beq_eq_false_iff_ne.2 (fun e => hxs (bytes_ext.1 e))
                have HN : Hid (vsort ((lstF n L).take (k + 1)) = strTs (P.take j ++ [s] ++ P.drop j)) := Lib.hid (ins_list (by rw [hget.out]; exact fun e => hxs (bytes_ext.1 (Option.some.inj e))) hins.out)
                obtain ⟨_, _, _, e1, _, _, _, _, hg7⟩ := id (hacc.resolve_left (fun h => by rw [h.1] at hjl; exact absurd hjl (Nat.not_lt_zero _)))
                injection e1 with e1 e2 e3
                injection e1 with e1
                injection e1 with e1
                subst e1 e3
                go_wp2_with fail
                go_region
                all_goals
                  have hbd := hB.drew
                  have HPS' := hB
                  have hget' := hB
                  have cD : w2.drew.cell? ⟨b1, o1 + k, none⟩ = some (.string s) := c1
                  have gD : ∀ j, j < P.length → w2.drew.cell? ⟨g, j, none⟩ = some (.string (P.getD j ByteArray.empty)) := hg7
                  have BD : Below w.heap.size w w2.drew := hbd
                  generalize w2.drew = wz at cD gD BD ⊢
                  clear hB hB1 hacc c1 hg7 HPS' hget'
                  have hH := BD.size
                  have GD := Lib.hid gD
                  clear gD
                  go_wp2_with (at_builtin; first
                    | (refine wpList_append_own _ rfl _ _ 41 rfl wz.heap.size 9 i0 (.string ⟨#[]⟩) 1 16 Tryz.underlying41 hi hz0 hz1 hz2 rfl (by decide) _ _ _ rfl (World.ownsRow_nil _ _ _ _) ⟨g, 0, none⟩ j c (strVs ((P.drop 0).take j)) rfl (by rw [strVs_length]; simp; omega) (acc_cells GD.out 0 j (by omega)) strVs_one (by unfold maxLen; omega) (by omega) (Nat.le_refl _) ?_; intro v3 w3 hown3 hgrow3 hnil3; have hb3 := (Below.refl wz.heap.size wz).grown hgrow3 (Nat.le_refl _) (fun k h => by cases h); replace cD := Below.cell_some hb3 cD)
                    | (refine wpList_append_own _ rfl _ _ 41 rfl wz.heap.size 9 i0 (.string ⟨#[]⟩) 1 16 Tryz.underlying41 hi hz0 hz1 hz2 rfl (by decide) _ _ _ rfl (hown3.alloc _) ⟨w3.heap.size, 0, none⟩ 1 1 [.string s] rfl rfl (cell_one_new _ _ _) (fun x hx => by simp at hx; subst hx; rfl) (by unfold maxLen; omega) (by omega) (by have := hb3.size; simp; omega) ?_; intro v4 w4 hown4 hgrow4 hnil4; have hb4 := (hb3.alloc hb3.size _).grown hgrow4 (by have := hb3.size; simp; omega) (fun q hq => (hown3.lt q hq).1))
                    | (refine wpList_append_own _ rfl _ _ 41 rfl wz.heap.size 9 i0 (.string ⟨#[]⟩) 1 16 Tryz.underlying41 hi hz0 hz1 hz2 rfl (by decide) _ _ _ rfl hown4 ⟨g, j, none⟩ (P.length - j) (c - j) (strVs ((P.drop j).take (P.length - j))) rfl (by rw [strVs_length, List.length_take, List.length_drop]; omega) (acc_cells (fun i hi => Below.cell_some hb4 (GD.out i hi)) j (P.length - j) (by omega)) strVs_one (by unfold maxLen; omega) (by omega) hb4.size ?_; intro v5 w5 hown5 hgrow5 hnil5; have hb5 := hb4.grown hgrow5 hb4.size (fun q hq => (hown4.lt q hq).1)))
                  have hBw := BD.trans (hb5.mono hH)
                  have e1 : 0 + j + 1 + (P.length - j) = (P.take j ++ [s] ++ P.drop j).length := by simp; omega
                  have e2 : [] ++ strVs ((P.drop 0).take j) ++ [.string s] ++ strVs ((P.drop j).take (P.length - j)) = strVs (P.take j ++ [s] ++ P.drop j) := by
                    rw [List.take_of_length_le (l := P.drop j) (by rw [List.length_drop]; exact Nat.le_refl _)]
                    simp [strVs]
                  rw [e1, e2] at hown5
                  have hacc5 := (accAt_own hown5 (by simp)).mono hH
                  go_roundw
                  case rel => exact ⟨k + 1, P.take j ++ [s] ++ P.drop j, by omega, by go_num, hacc5, by simp; omega, fun y hy => by
                    simp only [List.mem_append, List.mem_singleton] at hy
                    rcases hy with (hy | rfl) | hy
                    · exact HPS.out y (List.mem_of_mem_take hy)
                    · exact hsk
                    · exact HPS.out y (List.mem_of_mem_drop hy), hBw, HN⟩
                  case measure => simp [intOf]; omega
          · have hjP : j = P.length := by omega
            obtain rfl : j = q := by omega
            have hjl' : ¬ (j : Int) < (P.length : Int) := by omega
            have hnone : (strTs P)[j]? ≠ some s.data.toList := by rw [List.getElem?_eq_none (by rw [strTs_length]; omega)]; intro h; cases h
            have HN : Hid (vsort ((lstF n L).take (k + 1)) = strTs (P.take j ++ [s] ++ P.drop j)) := Lib.hid (ins_list hnone hins.out)
            clear hnone
            rcases id hacc with ⟨rfl, rfl⟩ | ⟨g, c, hg1, rfl, hg3, hg4, hg5, hg6, hg7⟩
            · obtain rfl : j = 0 := hjP
              have hn0 : ∀ W ty, (Builtin.append_ #[41, 41] ty #[.slice none 0 0, .slice none 0 0]).run Tryz.prog W = .ok (.slice none 0 0) W := fun W ty => run_append_owned_none W 0 41 ty 9 i0 1 Tryz.underlying41 hi (.slice none 0 0) 0 [] (World.ownsRow_nil _ _ _ _)
              have HN1 : Hid (vsort ((lstF n L).take (k + 1)) = strTs [s]) := HN
              clear hjl hjl' hj HN hle hins hless hstop hPk
              go_wp2_with fail
              go_region
              all_goals
                have cD : wr.drew.cell? ⟨b1, o1 + k, none⟩ = some (.string s) := c1
                have BD : Below w.heap.size w wr.drew := hB.drew
                generalize wr.drew = wz at cD BD ⊢
                clear hB hB1 hacc c1
                have hH := BD.size
                go_wp2_with (at_builtin; first
                  | (refine wpList_append_own _ rfl _ _ 41 rfl wz.heap.size 9 i0 (.string ⟨#[]⟩) 1 16 Tryz.underlying41 hi hz0 hz1 hz2 rfl (by decide) _ _ _ rfl ((World.ownsRow_nil wz wz.heap.size 9 1).alloc _) ⟨wz.heap.size, 0, none⟩ 1 1 [.string s] rfl rfl (cell_one_new _ _ _) (fun x hx => by simp at hx; subst hx; rfl) (by unfold maxLen; omega) (by omega) (by simp) ?_; intro v4 w4 hown4 hgrow4 hnil4; have hb4 := ((Below.refl wz.heap.size wz).alloc (Nat.le_refl _) _).grown hgrow4 (by simp) (fun k h => by cases h); have hn4 := fun ty => run_append_owned_none w4 wz.heap.size 41 ty 9 i0 1 Tryz.underlying41 hi v4 _ _ hown4; replace hn4 := Lib.hid hn4)
                  | (refine Lib.wpList_append_run _ rfl _ _ _ _ rfl v4 (.slice none 0 0) rfl rfl v4 w4 (hn4.out _) ?_))
                have hBw := BD.trans (hb4.mono hH)
                have hacc5 := (accAt_own (l := [s]) hown4 (by simp)).mono hH
                go_roundw
                case rel => exact ⟨k + 1, [s], by omega, by go_num, hacc5, by simp, fun y hy => (by rw [List.mem_singleton.1 hy]; exact hsk), hBw, HN1⟩
                case measure => simp [intOf]; omega
            · clear hg7
              replace hjP := Lib.hid hjP
              go_wp2_with fail
              go_region
              all_goals
                obtain ⟨_, _, _, e1, _, _, _, _, hg7⟩ := id (hacc.resolve_left (fun h => hg1 h.1))
                injection e1 with e1 e2 e3
                injection e1 with e1
                injection e1 with e1
                subst e1 e3
                have hbd := hB.drew
                have HPS' := hB
                have hget' := hB
                by_cases hcq : j = c
                · subst hcq
                  have cD : wr.drew.cell? ⟨b1, o1 + k, none⟩ = some (.string s) := c1
                  have gD : ∀ j, j < P.length → wr.drew.cell? ⟨g, j, none⟩ = some (.string (P.getD j ByteArray.empty)) := hg7
                  have BD : Below w.heap.size w wr.drew := hbd
                  generalize wr.drew = wz at cD gD BD ⊢
                  clear hB hB1 hacc c1 hg7 HPS' hget'
                  have hH := BD.size
                  have GD := Lib.hid gD
                  clear gD
                  go_wp2_with (at_builtin; first
                    | (refine wpList_append_own _ rfl _ _ 41 rfl wz.heap.size 9 i0 (.string ⟨#[]⟩) 1 16 Tryz.underlying41 hi hz0 hz1 hz2 rfl (by decide) _ _ _ rfl (World.ownsRow_nil _ _ _ _) ⟨g, 0, none⟩ j j (strVs ((P.drop 0).take j)) rfl (by rw [strVs_length]; simp; omega) (acc_cells GD.out 0 j (by omega)) strVs_one (by unfold maxLen; omega) (by omega) (Nat.le_refl _) ?_; intro v3 w3 hown3 hgrow3 hnil3; have hb3 := (Below.refl wz.heap.size wz).grown hgrow3 (Nat.le_refl _) (fun k h => by cases h); replace cD := Below.cell_some hb3 cD)
                    | (refine wpList_append_own _ rfl _ _ 41 rfl wz.heap.size 9 i0 (.string ⟨#[]⟩) 1 16 Tryz.underlying41 hi hz0 hz1 hz2 rfl (by decide) _ _ _ rfl (hown3.alloc _) ⟨w3.heap.size, 0, none⟩ 1 1 [.string s] rfl rfl (cell_one_new _ _ _) (fun x hx => by simp at hx; subst hx; rfl) (by unfold maxLen; omega) (by omega) (by have := hb3.size; simp; omega) ?_; intro v4 w4 hown4 hgrow4 hnil4; have hb4 := (hb3.alloc hb3.size _).grown hgrow4 (by have := hb3.size; simp; omega) (fun q hq => (hown3.lt q hq).1))
                    | (refine wpList_append_own _ rfl _ _ 41 rfl wz.heap.size 9 i0 (.string ⟨#[]⟩) 1 16 Tryz.underlying41 hi hz0 hz1 hz2 rfl (by decide) _ _ _ rfl hown4 ⟨g, 0, none⟩ 0 0 (strVs ((P.drop j).take (P.length - j))) rfl (by rw [strVs_length, List.length_take, List.length_drop]; omega) ((fun i u h => by have hl := (strVs_get h).1; have hj0 := hjP.out; rw [List.length_take, List.length_drop] at hl; omega)) strVs_one (by unfold maxLen; omega) (by omega) hb4.size ?_; intro v5 w5 hown5 hgrow5 hnil5; have hb5 := hb4.grown hgrow5 hb4.size (fun q hq => (hown4.lt q hq).1)))
                  have hBw := BD.trans (hb5.mono hH)
                  have e1 : 0 + j + 1 + 0 = (P.take j ++ [s] ++ P.drop j).length := by simp; omega
                  have e2 : [] ++ strVs ((P.drop 0).take j) ++ [.string s] ++ strVs ((P.drop j).take (P.length - j)) = strVs (P.take j ++ [s] ++ P.drop j) := by
                    rw [List.take_of_length_le (l := P.drop j) (by rw [List.length_drop]; exact Nat.le_refl _)]
                    simp [strVs]
                  rw [e1, e2] at hown5
                  have hacc5 := (accAt_own hown5 (by simp)).mono hH
                  go_roundw
                  case rel => exact ⟨k + 1, P.take j ++ [s] ++ P.drop j, by omega, by go_num, hacc5, by simp; omega, fun y hy => by
                    simp only [List.mem_append, List.mem_singleton] at hy
                    rcases hy with (hy | rfl) | hy
                    · exact HPS.out y (List.mem_of_mem_take hy)
                    · exact hsk
                    · exact HPS.out y (List.mem_of_mem_drop hy), hBw, HN⟩
                  case measure => simp [intOf]; omega
                · have hcq2 : ¬ c = j := fun e => hcq e.symm
                  have cD : wr.drew.cell? ⟨b1, o1 + k, none⟩ = some (.string s) := c1
                  have gD : ∀ j, j < P.length → wr.drew.cell? ⟨g, j, none⟩ = some (.string (P.getD j ByteArray.empty)) := hg7
                  have BD : Below w.heap.size w wr.drew := hbd
                  generalize wr.drew = wz at cD gD BD ⊢
                  clear hB hB1 hacc c1 hg7 HPS' hget'
                  have hH := BD.size
                  have GD := Lib.hid gD
                  clear gD
                  go_wp2_with (at_builtin; first
                    | (refine wpList_append_own _ rfl _ _ 41 rfl wz.heap.size 9 i0 (.string ⟨#[]⟩) 1 16 Tryz.underlying41 hi hz0 hz1 hz2 rfl (by decide) _ _ _ rfl (World.ownsRow_nil _ _ _ _) ⟨g, 0, none⟩ j c (strVs ((P.drop 0).take j)) rfl (by rw [strVs_length]; simp; omega) (acc_cells GD.out 0 j (by omega)) strVs_one (by unfold maxLen; omega) (by omega) (Nat.le_refl _) ?_; intro v3 w3 hown3 hgrow3 hnil3; have hb3 := (Below.refl wz.heap.size wz).grown hgrow3 (Nat.le_refl _) (fun k h => by cases h); replace cD := Below.cell_some hb3 cD)
                    | (refine wpList_append_own _ rfl _ _ 41 rfl wz.heap.size 9 i0 (.string ⟨#[]⟩) 1 16 Tryz.underlying41 hi hz0 hz1 hz2 rfl (by decide) _ _ _ rfl (hown3.alloc _) ⟨w3.heap.size, 0, none⟩ 1 1 [.string s] rfl rfl (cell_one_new _ _ _) (fun x hx => by simp at hx; subst hx; rfl) (by unfold maxLen; omega) (by omega) (by have := hb3.size; simp; omega) ?_; intro v4 w4 hown4 hgrow4 hnil4; have hb4 := (hb3.alloc hb3.size _).grown hgrow4 (by have := hb3.size; simp; omega) (fun q hq => (hown3.lt q hq).1))
                    | (refine wpList_append_own _ rfl _ _ 41 rfl wz.heap.size 9 i0 (.string ⟨#[]⟩) 1 16 Tryz.underlying41 hi hz0 hz1 hz2 rfl (by decide) _ _ _ rfl hown4 ⟨g, j, none⟩ (P.length - j) (c - j) (strVs ((P.drop j).take (P.length - j))) rfl (by rw [strVs_length, List.length_take, List.length_drop]; omega) (acc_cells (fun i hi => Below.cell_some hb4 (GD.out i hi)) j (P.length - j) (by omega)) strVs_one (by unfold maxLen; omega) (by omega) hb4.size ?_; intro v5 w5 hown5 hgrow5 hnil5; have hb5 := hb4.grown hgrow5 hb4.size (fun q hq => (hown4.lt q hq).1)))
                  have hBw := BD.trans (hb5.mono hH)
                  have e1 : 0 + j + 1 + (P.length - j) = (P.take j ++ [s] ++ P.drop j).length := by simp; omega
                  have e2 : [] ++ strVs ((P.drop 0).take j) ++ [.string s] ++ strVs ((P.drop j).take (P.length - j)) = strVs (P.take j ++ [s] ++ P.drop j) := by
                    rw [List.take_of_length_le (l := P.drop j) (by rw [List.length_drop]; exact Nat.le_refl _)]
                    simp [strVs]
                  rw [e1, e2] at hown5
                  have hacc5 := (accAt_own hown5 (by simp)).mono hH
                  go_roundw
                  case rel => exact ⟨k + 1, P.take j ++ [s] ++ P.drop j, by omega, by go_num, hacc5, by simp; omega, fun y hy => by
                    simp only [List.mem_append, List.mem_singleton] at hy
                    rcases hy with (hy | rfl) | hy
                    · exact HPS.out y (List.mem_of_mem_take hy)
                    · exact hsk
                    · exact HPS.out y (List.mem_of_mem_drop hy), hBw, HN⟩
                  case measure => simp [intOf]; omega
      · rw [if_neg h0] at hstep
        rw [decide_eq_false h0] at hiv
        replace hiv := Lib.hid hiv
        replace hstep := Lib.hid hstep
        go_wp2_with fail
        refine (hiv.out wr).mono ?_
        rintro e w1 ⟨rfl, hb1⟩
        go_wp2_with fail
        go_roundw
        case rel => exact ⟨k + 1, P, by omega, by go_num, hacc.below hb1, by omega, hPs, below_step hb hb1, hstep⟩
        case measure => simp [intOf]; omega
    · obtain rfl : k = n := by omega
      have HV2 : Hid (vsort (lstF k L) = strTs P) := Lib.hid (by rw [← HV.out, List.take_of_length_le (by rw [lstF_length]; exact Nat.le_refl _)])
      have hSo := hacc.strs
      clear HV
      go_wp2_with fail
      go_ret
      rw [HV2.out]
      exact ⟨⟨_, rfl, hSo⟩, hb⟩
end Go.Proofs.Pw

namespace Go.Proofs.Pw
open Go.RowKit
open Go.Lib hiding intOf
theorem enF_take_succ {n : Nat} {P V : Nat → ByteArray} {R : Nat → List Md} {K : Nat → List Str} {B : Nat → Bool} {k : Nat} (hk : k < n) : (enF n P V R K B).take (k + 1) = (enF n P V R K B).take k ++ [⟨((P k).data.toList, (V k).data.toList), R k, K k, B k⟩] := by
  rw [List.take_add_one, enF_get n P V R K B k hk]; rfl
theorem enF_take_all (n : Nat) (P V : Nat → ByteArray) (R : Nat → List Md) (K : Nat → List Str) (B : Nat → Bool) : (enF n P V R K B).take n = enF n P V R K B := List.take_of_length_le (by rw [enF_length]; exact Nat.le_refl _)
theorem versL_size {l : List En} {p : Str} (h : ShortI l) : (versL l p).length ≤ 1000000 ∧ ∀ x ∈ versL l p, x.length ≤ 1000000 := by
  refine ⟨Nat.le_trans (versL_len l p) h.len, fun x hx => ?_⟩
  obtain ⟨e, he, e1⟩ := versL_mem.1 hx
  have := (h.mds e he).2
  rw [e1] at this
  exact this
set_option maxHeartbeats 4000000 in
set_option maxRecDepth 100000 in
theorem idxVersions_in (ks : List Nat) (A : Nat → Addr) (a : Option Addr) (n cap : Nat) (P V : Nat → ByteArray) (R : Nat → List Md) (K : Nat → List Str) (Bk : Nat → Bool) (Rv Kv : Nat → Value) (p : ByteArray) (w : World) (hE : EnvP ks A w) (h : EntsIn w a n cap P V R K Bk Rv Kv) (hs : ShortI (enF n P V R K Bk)) :
    Calls Tryz.prog 101 #[.slice a n cap, .string p] w fun e w' => (∃ v, e = .returned v ∧ StrsAt w' v (vsort (versL (enF n P V R K Bk) p.data.toList))) ∧ Below w.heap.size w w' := by
  obtain ⟨i0, hi, hz0, hz1, hz2⟩ := info_parts Tryz.infoString
  have hn : n ≤ 1000000 := by have := hs.len; rwa [enF_length] at this
  have H := Lib.hid h
  have HE := Lib.hid hE
  have HSZ := Lib.hid (versL_size (p := p.data.toList) hs)
  clear h hs hE
  go_enter Tryz.func101, Tryz.ntmps101
  go_wp2_with fail
  go_loopw [5, 10] (fun o i wr => ∃ (k : Nat) (L : List ByteArray), k ≤ n ∧ i = .int .i64 k ∧ Hid (wr.ownsRow w.heap.size 9 1 o L.length (strVs L)) ∧ L.length ≤ k ∧ Hid (strTs L = versL ((enF n P V R K Bk).take k) p.data.toList) ∧ Below w.heap.size w wr) (fun _ i _ => n - (intOf i).toNat)
  case atStart => exact ⟨0, [], Nat.zero_le _, rfl, Lib.hid (World.ownsRow_nil _ _ _ _), Nat.le_refl _, Lib.hid rfl, Below.refl _ _⟩
  case round =>
    obtain ⟨k, L, hk, rfl, hO, hLk, hT, hBr⟩ := hrel
    obtain ⟨ao, no, co, rfl⟩ := own_form hO.out
    by_cases hlt : k < n
    · have hkn : (k : Int) < (n : Int) := by omega
      obtain ⟨b1, o1, ea, hcell⟩ := H.out.at_ k hlt
      obtain ⟨c0, c1, c2, c3, c4⟩ := hcell.below hBr
      obtain ⟨a1, n1, s1, a2, n2, s2, e1, e2⟩ := H.out.forms hlt
      rw [e1] at c2
      rw [e2] at c3
      subst ea
      have hba := below_alloc wr (.cells #[.string (P k), .string (V k), .slice a1 n1 s1, .slice a2 n2 s2, .bool (Bk k)] 43)
      have y0 : (wr.alloc (.cells #[.string (P k), .string (V k), .slice a1 n1 s1, .slice a2 n2 s2, .bool (Bk k)] 43)).cell? ⟨wr.heap.size, 0, none⟩ = some (.string (P k)) := by simp
      have y1 : (wr.alloc (.cells #[.string (P k), .string (V k), .slice a1 n1 s1, .slice a2 n2 s2, .bool (Bk k)] 43)).cell? ⟨wr.heap.size, 1, none⟩ = some (.string (V k)) := by simp
      have hO2 := hO.out.below hba
      have hB2 := below_step hBr hba
      obtain ⟨w2, hW⟩ : ∃ W, wr.alloc (.cells #[.string (P k), .string (V k), .slice a1 n1 s1, .slice a2 n2 s2, .bool (Bk k)] 43) = W := ⟨_, rfl⟩
      rw [hW] at y0 y1 hO2 hB2
      replace hO2 := Lib.hid hO2
      clear hba
      have hTk : versL ((enF n P V R K Bk).take (k + 1)) p.data.toList = versL ((enF n P V R K Bk).take k) p.data.toList ++ (if (P k).data.toList = p.data.toList then [(V k).data.toList] else []) := by
        rw [enF_take_succ hlt, versL_snoc]
      by_cases hpe : (P k).data.toList = p.data.toList
      · have hp0 := bytes_eq.1 hpe
        have hp1 : ((P k).toList == p.toList) = true := by rw [hp0]; simp
        have HN : Hid (strTs (L ++ [V k]) = versL ((enF n P V R K Bk).take (k + 1)) p.data.toList) := Lib.hid (by rw [hTk, if_pos hpe, strTs_snoc, hT.out])
        clear hcell e1 e2 hT hTk hpe hp0 hO
        go_wp2_with (at_builtin; refine wpList_append_own _ rfl _ _ 41 rfl w.heap.size 9 i0 (.string ⟨#[]⟩) 1 16 Tryz.underlying41 hi hz0 hz1 hz2 rfl (by decide) _ _ _ rfl (hO2.out.alloc _) ⟨w2.heap.size, 0, none⟩ 1 1 [.string (V k)] rfl rfl (cell_one_new _ _ _) (fun x hx => by simp at hx; subst hx; rfl) (by unfold maxLen; omega) (by omega) (by have := hB2.size; simp; omega) ?_; intro o' w4 hown4 hgrow4 _)
        go_roundw
        case rel =>
          refine ⟨k + 1, L ++ [V k], by omega, by go_num, Lib.hid ?_, by simp; omega, HN, ?_⟩
          · rw [List.length_append, List.length_singleton, ← strVs_snoc]; exact hown4
          · exact (hB2.alloc hB2.size _).grown hgrow4 (by have := hB2.size; simp; omega) (fun q hq => (hO2.out.lt q hq).1)
        case measure => simp [intOf]; omega
      · have hp1 : ((P k).toList == p.toList) = false := by rw [toList_data, toList_data]; exact beq_eq_false_iff_ne.2 hpe
        have HN : Hid (strTs L = versL ((enF n P V R K Bk).take (k + 1)) p.data.toList) := Lib.hid (by rw [hTk, if_neg hpe, List.append_nil, hT.out])
        clear hcell e1 e2 hT hTk hpe hO
        go_wp2_with fail
        go_roundw
        case rel => exact ⟨k + 1, L, by omega, by go_num, hO2, by omega, HN, hB2⟩
        case measure => simp [intOf]; omega
    · have hT2 : strTs L = versL (enF n P V R K Bk) p.data.toList := by rw [hT.out, show k = n by omega, enF_take_all]
      have hSo := strsAt_own hO.out
      rw [hT2] at hSo
      have hso := verSort_calls ks A _ _ wr (HE.out.below hBr) hSo HSZ.out.1 (fun x hx => by have := HSZ.out.2 x hx; omega)
      have hnk : ¬ (k : Int) < (n : Int) := by omega
      replace hso := Lib.hid hso
      clear hT hT2 hSo hO hlt
      go_wp2_with fail
      refine hso.out.mono ?_
      rintro e w5 ⟨⟨v5, rfl, hv5⟩, hb⟩
      go_wp2_with fail
      go_ret
      exact ⟨⟨_, rfl, hv5⟩, below_step hBr hb⟩
set_option maxHeartbeats 4000000 in
set_option maxRecDepth 100000 in
theorem refVersOf_in (a : Option Addr) (n cap : Nat) (P V : Nat → ByteArray) (R : Nat → List Md) (K : Nat → List Str) (Bk : Nat → Bool) (Rv Kv : Nat → Value) (p : ByteArray) (w : World) (h : EntsIn w a n cap P V R K Bk Rv Kv) (hs : ShortI (enF n P V R K Bk)) :
    Calls Tryz.prog 139 #[.slice a n cap, .string p] w fun e w' => (∃ v, e = .returned v ∧ StrsAt w' v (vsort (versL (enF n P V R K Bk) p.data.toList))) ∧ Below w.heap.size w w' := by
  obtain ⟨i0, hi, hz0, hz1, hz2⟩ := info_parts Tryz.infoString
  have hn : n ≤ 1000000 := by have := hs.len; rwa [enF_length] at this
  have H := Lib.hid h
  have HSZ := Lib.hid (versL_size (p := p.data.toList) hs)
  clear h hs
  go_enter Tryz.func139, Tryz.ntmps139
  go_wp2_with fail
  go_loopw [5, 6] (fun o i wr => ∃ (k : Nat) (L : List ByteArray), k ≤ n ∧ i = .int .i64 k ∧ Hid (wr.ownsRow w.heap.size 9 1 o L.length (strVs L)) ∧ L.length ≤ k ∧ Hid (strTs L = versL ((enF n P V R K Bk).take k) p.data.toList) ∧ Below w.heap.size w wr) (fun _ i _ => n - (intOf i).toNat)
  case atStart => exact ⟨0, [], Nat.zero_le _, rfl, Lib.hid (World.ownsRow_nil _ _ _ _), Nat.le_refl _, Lib.hid rfl, Below.refl _ _⟩
  case round =>
    obtain ⟨k, L, hk, rfl, hO, hLk, hT, hBr⟩ := hrel
    obtain ⟨ao, no, co, rfl⟩ := own_form hO.out
    by_cases hlt : k < n
    · have hkn : (k : Int) < (n : Int) := by omega
      obtain ⟨b1, o1, ea, hcell⟩ := H.out.at_ k hlt
      obtain ⟨c0, c1, c2, c3, c4⟩ := hcell.below hBr
      subst ea
      have hTk : versL ((enF n P V R K Bk).take (k + 1)) p.data.toList = versL ((enF n P V R K Bk).take k) p.data.toList ++ (if (P k).data.toList = p.data.toList then [(V k).data.toList] else []) := by
        rw [enF_take_succ hlt, versL_snoc]
      by_cases hpe : (P k).data.toList = p.data.toList
      · have hp0 := bytes_eq.1 hpe
        have hp1 : ((P k).toList == p.toList) = true := by rw [hp0]; simp
        have HN : Hid (strTs (L ++ [V k]) = versL ((enF n P V R K Bk).take (k + 1)) p.data.toList) := Lib.hid (by rw [hTk, if_pos hpe, strTs_snoc, hT.out])
        clear hcell hT hTk hpe hp0 c2 c3 c4
        go_wp2_with (at_builtin; refine wpList_append_own _ rfl _ _ 41 rfl w.heap.size 9 i0 (.string ⟨#[]⟩) 1 16 Tryz.underlying41 hi hz0 hz1 hz2 rfl (by decide) _ _ _ rfl (hO.out.alloc _) ⟨wr.heap.size, 0, none⟩ 1 1 [.string (V k)] rfl rfl (cell_one_new _ _ _) (fun x hx => by simp at hx; subst hx; rfl) (by unfold maxLen; omega) (by omega) (by have := hBr.size; simp; omega) ?_; intro o' w4 hown4 hgrow4 _)
        go_roundw
        case rel =>
          refine ⟨k + 1, L ++ [V k], by omega, by go_num, Lib.hid ?_, by simp; omega, HN, ?_⟩
          · rw [List.length_append, List.length_singleton, ← strVs_snoc]; exact hown4
          · exact (hBr.alloc hBr.size _).grown hgrow4 (by have := hBr.size; simp; omega) (fun q hq => (hO.out.lt q hq).1)
        case measure => simp [intOf]; omega
      · have hp1 : ((P k).toList == p.toList) = false := by rw [toList_data, toList_data]; exact beq_eq_false_iff_ne.2 hpe
        have HN : Hid (strTs L = versL ((enF n P V R K Bk).take (k + 1)) p.data.toList) := Lib.hid (by rw [hTk, if_neg hpe, List.append_nil, hT.out])
        clear hcell hT hTk hpe c2 c3 c4
        go_wp2_with fail
        go_roundw
        case rel => exact ⟨k + 1, L, by omega, by go_num, hO, by omega, HN, hBr⟩
        case measure => simp [intOf]; omega
    · have hT2 : strTs L = versL (enF n P V R K Bk) p.data.toList := by rw [hT.out, show k = n by omega, enF_take_all]
      have hSo := strsAt_own hO.out
      rw [hT2] at hSo
      have hso := sortVers_calls _ _ wr hSo HSZ.out.1 (fun x hx => by have := HSZ.out.2 x hx; omega)
      have hnk : ¬ (k : Int) < (n : Int) := by omega
      replace hso := Lib.hid hso
      clear hT hT2 hSo hO hlt
      go_wp2_with fail
      refine hso.out.mono ?_
      rintro e w5 ⟨⟨v5, rfl, hv5⟩, hb⟩
      go_wp2_with fail
      go_ret
      exact ⟨⟨_, rfl, hv5⟩, below_step hBr hb⟩
end Go.Proofs.Pw
