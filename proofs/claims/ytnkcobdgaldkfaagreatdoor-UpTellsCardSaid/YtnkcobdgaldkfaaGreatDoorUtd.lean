/- Ut: walks and plain laws, joined: Bel VerD VerSplitD VerCmpD ModCmpD SortLayM SortM GrReach RefA RefB OwnIdx Reached MvsMath. Conditions: at each theorem. -/
import Derived.Test.YtnkcobdgaldkfaaGreatDoorUta
import Derived.Test.YtnkcobdgaldkfaaGreatDoorUtb
import Derived.Test.YtnkcobdgaldkfaaGreatDoorProg
import Derived.Shelf.SlSortCmp.NoneTotal
import Derived.Test.YtnkcobdgaldkfaaGreatDoorUtc
import Derived.Laws.AppendOwn
import Derived.LoopTactic
import Derived.OwnWalk

namespace Go.Proofs.Pw
open Go.RowKit
open Go.Sort (grow)
def Bel (B : Nat) (w w' : World) : Prop := Below B w w' ∧ w.drawn ≤ w'.drawn
theorem Bel.b {B : Nat} {w w' : World} (h : Bel B w w') : Below B w w' := h.1
theorem Bel.size {B : Nat} {w w' : World} (h : Bel B w w') : w.heap.size ≤ w'.heap.size := h.1.size
theorem Bel.refl (B : Nat) (w : World) : Bel B w w := ⟨Below.refl _ _, Nat.le_refl _⟩
theorem Bel.trans {B : Nat} {a b c : World} (h : Bel B a b) (k : Bel B b c) : Bel B a c := ⟨h.1.trans k.1, Nat.le_trans h.2 k.2⟩
theorem Bel.mono {B B' : Nat} {w w' : World} (h : Bel B w w') (hB : B' ≤ B) : Bel B' w w' := ⟨h.1.mono hB, h.2⟩
theorem Bel.alloc {B : Nat} {a w : World} (h : Bel B a w) (hB : B ≤ w.heap.size) (o : Obj) : Bel B a (w.alloc o) := ⟨h.1.alloc hB o, h.2⟩
theorem Bel.drewN {B : Nat} {a w : World} (h : Bel B a w) (n : Nat) : Bel B a (w.drewN n) := ⟨below_drewN h.1 n, Nat.le_trans h.2 (by show w.drawn ≤ w.drawn + n; omega)⟩
theorem Bel.drew {B : Nat} {a w : World} (h : Bel B a w) : Bel B a w.drew := ⟨h.1.drew, Nat.le_trans h.2 (by show w.drawn ≤ w.drawn + 1; omega)⟩
theorem drawn_setCell (w : World) (p : Addr) (u : Value) : (w.setCell p u).drawn = w.drawn := by
  unfold World.setCell
  first | rfl | (split <;> rfl) | (simp only []; split <;> rfl)
theorem Bel.setCell {B : Nat} {a w : World} (h : Bel B a w) {p : Addr} (hp : B ≤ p.block) (u : Value) : Bel B a (w.setCell p u) := ⟨h.1.setCell hp u, by rw [drawn_setCell]; exact h.2⟩
theorem bel_step {w w1 w2 : World} (h : Bel w.heap.size w w1) (h2 : Bel w1.heap.size w1 w2) : Bel w.heap.size w w2 := h.trans (h2.mono h.size)
theorem bel_alloc (w : World) (o : Obj) : Bel w.heap.size w (w.alloc o) := (Bel.refl _ _).alloc (Nat.le_refl _) _
theorem Bel.grown {w w' : World} (h : Bel w.heap.size w w') : ∃ q os, w' = grow (w.drewN q) os := by
  obtain ⟨⟨d, os⟩, rfl⟩ := patch_of_below h.1
  have h2 : w.drawn ≤ d := h.2
  refine ⟨d - w.drawn, os, ?_⟩
  show ({ w with heap := w.heap ++ os, drawn := d } : World) = { w with heap := w.heap ++ os, drawn := w.drawn + (d - w.drawn) }
  rw [Nat.add_sub_cancel' h2]
end Go.Proofs.Pw

namespace Go.Proofs.Pw
open Go.RowKit
open Go.Lib hiding intOf
theorem trimD_calls (s cs : ByteArray) (w : World) (hs : s.size ≤ 4000000000) (hc : cs.size ≤ 1000) (h2 : 2 ≤ cs.size) (h0 : 0 < s.size) (ha : ∀ b ∈ cs.data.toList, b.toNat < 128) :
    Calls Tryz.prog 171 #[.string s, .string cs] w fun e w' => e = .returned (.string ⟨(Lib.trimS s.data.toList cs.data.toList).toArray⟩) ∧ Bel w.heap.size w w' := by
  have hz := zero_of_info (P := Tryz.prog) (t := Tryz.lays160_ren.t 116) (v := .agg (Array.replicate 256 (.bool false))) (n := 256) (by kernel_rfl)
  refine (Any.strings_Trim_set Tryz.lays160 hz.1 hz.2 s cs w h2 h0 (by omega) (by omega) (fun j b h => ha b (List.mem_of_getElem? h))).mono ?_
  rintro e w' ⟨rfl, q, rfl⟩
  exact ⟨rfl, (((bel_alloc _ _).alloc (by simp) _)).drewN q⟩
theorem digitsD_calls (s : ByteArray) (w : World) (hs : s.size ≤ 4000000000) :
    Calls Tryz.prog 194 #[.string s] w fun e w' => e = .returned (.bool (areDigits s.data.toList)) ∧ Bel w.heap.size w w' := by
  have HT := Lib.hid (trimS_nil_bool s.data.toList digitsSet isDig digitsSet_ok)
  cases he : s.data.toList.isEmpty with
  | true =>
    have h1 : s.toList.isEmpty = true := by rw [isEmpty_toList, he]
    have h2 : s.toList = [] := by simpa using h1
    have HD : Hid (areDigits s.data.toList = false) := by unfold areDigits; show _ = _; rw [he]; rfl
    clear he
    go_enter Tryz.func194, Tryz.ntmps194
    go_wp2_with fail
    go_ret
    exact ⟨by rw [HD.out]; simp, Bel.refl _ _⟩
  | false =>
    have h00 : 0 < s.size := by
      rw [size_eq]
      cases hsd : s.data.toList with
      | nil => rw [hsd] at he; cases he
      | cons c r => simp
    have h1 : s.toList.isEmpty = false := by rw [isEmpty_toList, he]
    have h2 : (s.toList == []) = false := by simpa using h1
    have HD : Hid (areDigits s.data.toList = s.data.toList.all isDig) := by unfold areDigits; show _ = _; rw [he]; rfl
    clear he
    go_enter Tryz.func194, Tryz.ntmps194
    go_wp2_with fail
    refine (trimD_calls _ _ _ hs (by decide) (by decide) h00 (by decide)).mono ?_
    rintro e w1 ⟨rfl, hb1⟩
    cases ha : s.data.toList.all isDig with
    | true =>
      have e1 : trimS s.data.toList (⟨#[48, 49, 50, 51, 52, 53, 54, 55, 56, 57]⟩ : ByteArray).data.toList = [] := by
        have := HT.out
        rw [ha] at this
        exact beq_iff_eq.1 this
      rw [e1]
      clear e1
      go_wp2_with fail
      go_ret
      exact ⟨by rw [HD.out, ha]; simp, hb1⟩
    | false =>
      have e1 : (trimS s.data.toList (⟨#[48, 49, 50, 51, 52, 53, 54, 55, 56, 57]⟩ : ByteArray).data.toList == []) = false := by
        have := HT.out
        rw [ha] at this
        exact this
      generalize trimS s.data.toList (⟨#[48, 49, 50, 51, 52, 53, 54, 55, 56, 57]⟩ : ByteArray).data.toList = t at e1 ⊢
      have e2 : (⟨t.toArray⟩ : ByteArray).toList.isEmpty = false := by rw [toList_mk]; simpa using e1
      clear e1
      go_wp2_with fail
      go_ret
      exact ⟨by rw [HD.out, ha]; simp_all, hb1⟩
theorem atoiD_calls (s : ByteArray) (w : World) (hs : s.size ≤ 4000000000) (hd : areDigits s.data.toList = true) (h6 : ¬ 6 < s.size) :
    Calls Tryz.prog 172 #[.string s] w fun e w' => e = .returned (.tuple #[.int .i64 (decVal s.data.toList), .nilIface]) ∧ Bel w.heap.size w w' := by
  rcases atoiAll_digits hd with h | h
  · exact absurd (by rw [size_eq]; exact atoiAll_range_long hd h) h6
  · refine (Tryz.strconv_Atoi_ok s (by omega) _ h w).mono ?_
    rintro e w' ⟨rfl, hw⟩
    refine ⟨rfl, ?_⟩
    rcases hw with rfl | ⟨t, rfl⟩
    · exact Bel.refl _ _
    · exact ⟨Lib.bytesWorld_below _ _ _, by show w.drawn ≤ w.drawn + 1; omega⟩
set_option maxHeartbeats 400000 in
theorem numberOkD (ks : List Nat) (A : Nat → Addr) (s : ByteArray) (w : World) (hE : EnvP ks A w) (hs : s.size ≤ 4000000000) (hd : areDigits s.data.toList = true) (hz : ¬ (1 < s.data.toList.length ∧ s.data.toList.head? = some 48)) (h6 : ¬ 6 < s.size) :
    Calls Tryz.prog 177 #[.string s] w fun e w' => e = .returned (.tuple #[.int .i64 (decVal s.data.toList), errV A 0]) ∧ Bel w.heap.size w w' := by
  have HD := Lib.hid hd
  have hv := decVal_small hd hz
  rw [← size_eq] at hv
  have HS := Lib.hid hv
  have hne : 0 < s.size := by
    rw [size_eq]
    cases hsd : s.data.toList with
    | nil => rw [hsd] at hd; simp [areDigits] at hd
    | cons c r => simp
  have h01 : (1 < s.size ∧ (((s[0]'hne).toNat : Int) == 48) = false) ∨ ¬ 1 < s.size := by
    by_cases h1 : 1 < s.size
    · refine .inl ⟨h1, ?_⟩
      rw [beq_eq_false_iff_ne]
      intro e
      apply hz
      refine ⟨by rw [← size_eq]; exact h1, ?_⟩
      have h2 : s.data.toList[0]? = some (s[0]'hne) := by
        rw [List.getElem?_eq_getElem (by rw [← size_eq]; omega)]; rfl
      rw [List.head?_eq_getElem?, h2]
      have : (s[0]'hne).toNat = 48 := by exact_mod_cast e
      rw [show (48 : UInt8) = UInt8.ofNat 48 from rfl, ← this, UInt8.ofNat_toNat]
    · exact .inr h1
  clear hd hz hv
  rcases h01 with ⟨h1, h2⟩ | h1
  all_goals
    go_enter Tryz.func177, Tryz.ntmps177
    go_wp2_with fail
    refine (digitsD_calls _ _ hs).mono ?_
    rintro e w1 ⟨rfl, hb1⟩
    rw [HD.out]
    have hEa := hE.below hb1.b
    go_wp2_with fail
    refine (atoiD_calls _ _ hs HD.out h6).mono ?_
    rintro e w2 ⟨rfl, hb2⟩
    have hE2 := (hEa.below hb2.b).errs.var 2 hE.has.2
    simp only [errG] at hE2
    have hsm : decVal s.data.toList ≤ 999999 := HS.out.2 (by omega)
    go_wp2_with fail
    go_ret2
    exact ⟨rfl, bel_step hb1 hb2⟩
theorem numberD_calls (ks : List Nat) (A : Nat → Addr) (s : ByteArray) (w : World) (hE : EnvP ks A w) (hs : s.size ≤ 4000000000) (h0 : (numberOf s.data.toList).2 = 0) :
    Calls Tryz.prog 177 #[.string s] w fun e w' => e = .returned (.tuple #[.int .i64 ((numberOf s.data.toList).1 : Nat), errV A (numberOf s.data.toList).2]) ∧ Bel w.heap.size w w' := by
  obtain ⟨hd, hz, hv, h6⟩ := numberOf_err h0
  rw [h0, hv]
  exact numberOkD ks A s w hE hs hd hz (by rw [size_eq]; omega)
set_option maxHeartbeats 400000 in
theorem partD_calls (ks : List Nat) (A : Nat → Addr) (s : ByteArray) (w : World) (hE : EnvP ks A w) (hs : s.size ≤ 4000000000) (hok : partErr s.data.toList = 0) :
    Calls Tryz.prog 179 #[.string s] w fun e w' => e = .returned (errV A (partErr s.data.toList)) ∧ Bel w.heap.size w w' := by
  have hT := hE.errs.var 1 hE.has.1
  simp only [errG] at hT
  have HP := Lib.hid (trimS_nil_bool s.data.toList partSet isPartByte partSet_ok)
  have hsz := size_eq s
  by_cases he : s.data.toList = []
  · rw [partErr_text (.inl he)] at hok; cases hok
  · have h1 : s.toList.isEmpty = false := by rw [isEmpty_toList]; simpa using he
    have h2 : (s.toList == []) = false := by simpa using h1
    by_cases hl : 8 < s.size
    · rw [partErr_text (.inr (.inl (by rw [← hsz]; exact hl)))] at hok; cases hok
    · have HL := Lib.hid hsz
      have h00 : 0 < s.size := by
        rw [size_eq]
        cases hsd : s.data.toList with
        | nil => exact absurd hsd he
        | cons c r => simp
      have HE := Lib.hid he
      clear hsz he
      cases ha : s.data.toList.all isPartByte with
      | false => rw [partErr_text (.inr (.inr ha))] at hok; cases hok
      | true =>
        have e1 : trimS s.data.toList partSet = [] := by
          have := HP.out
          rw [ha] at this
          exact beq_iff_eq.1 this
        have hpe : partErr s.data.toList = if areDigits s.data.toList then (numberOf s.data.toList).2 else 0 := by
          unfold partErr
          rw [if_neg]
          rintro (h | h | h)
          · exact HE.out h
          · rw [← HL.out] at h; exact hl h
          · rw [ha] at h; exact absurd h (by decide)
        have HPE := Lib.hid (hpe.symm.trans hok)
        rw [hpe]
        clear hpe ha hok
        generalize hc : (if areDigits s.data.toList then (numberOf s.data.toList).2 else 0) = c
        have HC := Lib.hid hc
        clear hc
        have E1 := Lib.hid e1
        clear e1
        go_enter Tryz.func179, Tryz.ntmps179
        go_wp2_with fail
        refine (trimD_calls _ _ _ hs (by decide) (by decide) h00 (by decide)).mono ?_
        rintro e w1 ⟨rfl, hb1⟩
        rw [show (⟨#[97, 98, 99, 100, 101, 102, 103, 104, 105, 106, 107, 108, 109, 110, 111, 112, 113, 114, 115, 116, 117, 118, 119, 120, 121, 122, 65, 66, 67, 68, 69, 70, 71, 72, 73, 74, 75, 76, 77, 78, 79, 80, 81, 82, 83, 84, 85, 86, 87, 88, 89, 90, 48, 49, 50, 51, 52, 53, 54, 55, 56, 57, 45]⟩ : ByteArray).data.toList = partSet from rfl, E1.out]
        go_wp2_with fail
        refine (digitsD_calls _ _ hs).mono ?_
        rintro e w2 ⟨rfl, hb2⟩
        cases hd : areDigits s.data.toList with
        | false =>
          obtain rfl : c = 0 := by have := HC.out; rw [hd] at this; exact this.symm
          clear hd
          go_wp2_with fail
          go_ret
          exact ⟨rfl, bel_step hb1 hb2⟩
        | true =>
          obtain rfl : c = (numberOf s.data.toList).2 := by have := HC.out; rw [hd] at this; exact this.symm
          have HK : Hid ((numberOf s.data.toList).2 = 0) := Lib.hid (by have := HPE.out; rw [hd] at this; exact this)
          clear hd
          go_wp2_with fail
          refine (numberD_calls ks A _ _ ((hE.below hb1.b).below hb2.b) hs HK.out).mono ?_
          rintro e w3 ⟨rfl, hb3⟩
          go_wp2_with fail
          go_ret
          exact ⟨rfl, bel_step (bel_step hb1 hb2) hb3⟩
end Go.Proofs.Pw

namespace Go.Proofs.Pw
open Go.RowKit
open Go.Lib hiding intOf
theorem splitD_calls (s sep : ByteArray) (w : World) (hE : EnvM w) (hs : s.size ≤ 4000000000) (h1 : 1 ≤ sep.size) :
    Calls Tryz.prog 124 #[.string s, .string sep] w fun e w' => ∃ n, e = .returned (.slice (some ⟨w.heap.size, 0, none⟩) n n) ∧ 1 ≤ n ∧ n ≤ s.size + 1 ∧
      Hid (lstF n (splitL s sep) = split s.data.toList sep.data.toList) ∧ Bel w.heap.size w w' ∧ (∀ j, j < n → w'.cell? ⟨w.heap.size, j, none⟩ = some (.string (splitL s sep j))) ∧ w.heap.size < w'.heap.size := by
  obtain ⟨m, hm⟩ := hE.maxLen
  refine (Tryz.strings_Split s sep m w (by omega) hm h1).mono fun e w' ⟨h, h2⟩ => ?_
  refine ⟨_, h, by omega, by have := countB_le sep h1 s.size s (Nat.le_refl _); omega, splitL_lstF s sep h1, h2 ▸ bel_alloc _ _, ?_, by rw [h2]; simp⟩
  intro j hj
  have hl := splitB_all sep h1 0 _ s rfl
  rw [h2, World.cell?_alloc_at _ _ _ _ rfl]
  simp only [List.getElem?_toArray, List.getElem?_map, splitL]
  rw [List.getElem?_eq_getElem (by omega)]
  simp [List.getD_eq_getElem?_getD, List.getElem?_eq_getElem (show j < (splitB sep 0 (countB s sep) s).length by omega)]
theorem cutD_calls (s sep : ByteArray) (w : World) (hE : EnvM w) (hs : s.size ≤ 4000000000) :
    Calls Tryz.prog 176 #[.string s, .string sep] w fun e w' => e = .returned (.tuple #[.string ⟨(Lib.cut s.data.toList sep.data.toList).1.toArray⟩, .string ⟨(Lib.cut s.data.toList sep.data.toList).2.1.toArray⟩, .bool (Lib.cut s.data.toList sep.data.toList).2.2]) ∧ Bel w.heap.size w w' := by
  obtain ⟨m, hm⟩ := hE.maxLen
  refine (Tryz.strings_Cut s sep m w (by omega) hm).mono ?_
  rintro e w' ⟨rfl, n, rfl⟩
  exact ⟨rfl, Bel.drewN (Bel.refl _ _) _⟩
set_option maxHeartbeats 2000000 in
set_option maxRecDepth 100000 in
theorem verSplitD_calls (ks : List Nat) (A : Nat → Addr) (s : ByteArray) (w : World) (hE : EnvP ks A w) (hs : s.size ≤ 1000000000) (hok : verErr s.data.toList = 0) :
    Calls Tryz.prog 130 #[.string s] w fun e w' => Bel w.heap.size w w' ∧ ∃ v, e = .returned (.tuple #[.agg #[.int .i64 (verNum s.data.toList 0 : Nat), .int .i64 (verNum s.data.toList 1 : Nat), .int .i64 (verNum s.data.toList 2 : Nat), v], errV A (verErr s.data.toList)]) ∧ StrsAt w' v (verPre s.data.toList) := by
  obtain ⟨hf, hl, hws, hps, _⟩ := (verErr_zero s.data.toList).1 hok
  have HWS := Lib.hid hws
  have HPS := Lib.hid hps
  clear hws hps hok
  have ht : (trimPrefix s.data.toList [118]).length ≤ s.size := by rw [size_eq s]; exact trimPrefix_le _ _
  have hc1 := (cut_le (trimPrefix s.data.toList [118]) [45])
  have ht4 : (⟨(trimPrefix s.data.toList [118]).toArray⟩ : ByteArray).size ≤ 4000000000 := Nat.le_trans ht (by omega)
  have hc4 : (⟨(cut (trimPrefix s.data.toList [118]) [45]).1.toArray⟩ : ByteArray).size ≤ 4000000000 := Nat.le_trans hc1.1 (Nat.le_trans ht (by omega))
  have hp4 : (⟨(cut (trimPrefix s.data.toList [118]) [45]).2.1.toArray⟩ : ByteArray).size ≤ 1000000000 := Nat.le_trans hc1.2 (Nat.le_trans ht hs)
  have h5 : ∀ n L, (Hid (lstF n L = split (cut (trimPrefix s.data.toList [118]) [45]).1 [46])) → n = 3 ∧ lstF 3 L = verWords s.data.toList := fun n L h => by
    have := congrArg List.length h.out
    rw [lstF_length] at this
    have e : n = 3 := this.trans hl
    subst e
    exact ⟨rfl, h.out⟩
  have HW : Hid (verWords s.data.toList = split (cut (trimPrefix s.data.toList [118]) [45]).1 [46]) := Lib.hid rfl
  have HP : Hid (verPres s.data.toList = if (cut (trimPrefix s.data.toList [118]) [45]).2.2 then split (cut (trimPrefix s.data.toList [118]) [45]).2.1 [46] else []) := Lib.hid rfl
  have HV : Hid (verErr s.data.toList = verErrs s.data.toList) := Lib.hid (by unfold verErr; rw [if_neg]; rw [hf, hl]; simp)
  have HF := Lib.hid hf
  clear hf hl
  go_enter Tryz.func130, Tryz.ntmps130
  go_wp2_with fail
  have hb0 := bel_alloc w (.cells #[.int .i64 0, .int .i64 0, .int .i64 0, .slice none 0 0] 143)
  refine (cutPrefix_calls _ _ _).mono ?_
  rintro e w1 ⟨rfl, hw1⟩
  subst hw1
  rw [show (⟨#[118]⟩ : ByteArray).data.toList = [118] from rfl, HF.out]
  have hE0 := hE.below hb0.b
  go_wp2_with fail
  refine (cutD_calls _ _ _ hE0.m ht4).mono ?_
  rintro e w2 ⟨rfl, hb1⟩
  have hE1 := hE0.below hb1.b
  have hb01 := bel_step hb0 hb1
  have hz0 := (box4_alloc w (.int .i64 0) (.int .i64 0) (.int .i64 0) (.slice none 0 0) 143).below hb1.b
  have hz0s : w.heap.size < w2.heap.size := lt_of_cell hz0.c0
  rw [show (⟨#[45]⟩ : ByteArray).data.toList = [45] from rfl]
  rw [data_mk]
  generalize hH : (cut (trimPrefix s.data.toList [118]) [45]).1 = hd at hc4 h5 HW ⊢
  generalize hG : (cut (trimPrefix s.data.toList [118]) [45]).2.1 = pr at hp4 HP ⊢
  generalize hB : (cut (trimPrefix s.data.toList [118]) [45]).2.2 = has at HP ⊢
  clear hH hG hB hc1 ht4 ht
  go_wp2_with fail
  refine (splitD_calls _ ⟨#[46]⟩ _ hE1.m hc4 (by decide)).mono ?_
  rintro e w3 ⟨n, rfl, hn1, hn2, HL, hb2, hc2, hz2⟩
  obtain ⟨rfl, hn⟩ := h5 n _ HL
  have hE2 := hE1.below hb2.b
  have hb02 := bel_step hb01 hb2
  have hz2 := hz0.below hb2.b
  have HN := Lib.hid hn
  have hLs := lstF_mem_le (by decide) HL.out
  rw [data_mk] at hLs
  have hhd : hd.length ≤ 4000000000 := hc4
  generalize splitL ⟨hd.toArray⟩ ⟨#[46]⟩ = L at hc2 HN hLs ⊢
  have hLs4 : ∀ j, j < 3 → (L j).size ≤ 4000000000 := fun j hj => Nat.le_trans (hLs j hj) hhd
  have hHC := Lib.hid hc2
  clear hn h5 hb1 hb2 hb01 hE0 hE1 hz0 HL HW hn1 hn2 hc4 hLs hhd hc2
  go_wp2_with fail
  have hba := bel_alloc w3 (.cells #[.int .i64 0, .int .i64 0, .int .i64 0] 106)
  go_loopw [10, 41] (fun e i wr => ∃ k : Nat, k ≤ 3 ∧ i = .int .i64 k ∧ e = errV A (numErrs ((lstF 3 L).take k) 0) ∧ Bel w3.heap.size w3 wr ∧ Nums wr w3.heap.size L k) (fun _ i _ => 3 - (intOf i).toNat)
  case atStart => exact ⟨0, by omega, rfl, rfl, hba, nums_alloc _ _ _⟩
  case round =>
    obtain ⟨k, hk, rfl, rfl, hbr, hN⟩ := hrel
    have hEr := hE2.below hbr.b
    by_cases hlt : k < 3
    · have hck := Below.cell_some hbr.b (hHC.out k hlt)
      go_wp2_with fail
      refine (numberD_calls ks A (L k) wr hEr (hLs4 k hlt) (HWS.out _ (by rw [← HN.out]; exact List.mem_of_getElem? (lstF_get 3 L k hlt)))).mono ?_
      rintro e w4 ⟨rfl, hb4⟩
      have hN4 := hN.below hb4.b
      have hE4 := hEr.below hb4.b
      have hbr4 := bel_step hbr hb4
      have hn1 := hN4.c k hlt
      have hn2 := hN4.fr k
      go_wp2_with fail
      have hbs : Bel w3.heap.size w3 (w4.setCell ⟨w3.heap.size, k, none⟩ (.int .i64 ((numberOf (L k).data.toList).1 : Nat))) := hbr4.setCell (Nat.le_refl _) _
      have hE5 := hE2.below hbs.b
      have hN5 := hN4.step hlt
      refine (worse_calls ks A (numErrs ((lstF 3 L).take k) 0) (numberOf (L k).data.toList).2 _ hE5 ?_).mono ?_
      · have := numErrs_le ((lstF 3 L).take k) 0 (by decide)
        have h12 := hE.has
        rcases (by omega : numErrs ((lstF 3 L).take k) 0 = 0 ∨ numErrs ((lstF 3 L).take k) 0 = 1 ∨ numErrs ((lstF 3 L).take k) 0 = 2) with h | h | h
        · exact .inl h
        · rw [h]; exact .inr h12.1
        · rw [h]; exact .inr h12.2
      rintro e w5 ⟨rfl, hw5⟩
      subst hw5
      have hst := numErrs_snoc ((lstF 3 L).take k) (L k).data.toList 0
      rw [← lstF_take_succ 3 L k hlt] at hst
      rw [← hst]
      clear hst
      go_wp2_with fail
      go_roundw
      case rel => exact ⟨k + 1, by omega, by go_num, rfl, hbs, hN5⟩
      case measure => simp [intOf]; omega
    · obtain rfl : k = 3 := by omega
      have hn0 := hN.c 0 (by decide)
      have hn1 := hN.c 1 (by decide)
      have hn2 := hN.c 2 (by decide)
      rw [lstF_take_all, HN.out]
      have hbA := bel_alloc wr (.cells #[.int .i64 (numAt L 3 0), .int .i64 (numAt L 3 1), .int .i64 (numAt L 3 2), .slice none 0 0] 143)
      have hpA := box4_alloc wr (.int .i64 (numAt L 3 0)) (.int .i64 (numAt L 3 1)) (.int .i64 (numAt L 3 2)) (.slice none 0 0) 143
      have hb3A : Bel w3.heap.size w3 _ := bel_step hbr hbA
      have hEA := hE2.below hb3A.b
      have hnew : w.heap.size < wr.heap.size := Nat.lt_of_lt_of_le (lt_of_cell hz2.c0) hbr.size
      have hrs : w3.heap.size ≤ wr.heap.size := hbr.size
      have hE3' := hE2
      clear hba hE2 hEr hN hHC hLs4 hbr
      cases has
      case' false =>
        have hPr : verPres s.data.toList = [] := HP.out
        have hce : numErrs (verWords s.data.toList) 0 = verErrs s.data.toList := by unfold verErrs; rw [hPr]; rfl
        rw [hce]
        have hS : StrsAt' (wr.alloc (.cells #[.int .i64 (numAt L 3 0), .int .i64 (numAt L 3 1), .int .i64 (numAt L 3 2), .slice none 0 0] 143)) (.slice none 0 0) (verPres s.data.toList) w.heap.size := by
          rw [hPr]; exact ⟨StrsAt.nil _, by intro q n c h; cases h⟩
        have hzf := hz2.below hb3A.b
        have hbF := bel_step hb02 hb3A
        have hpF := hpA
        clear hPr hce
        go_wp2_with fail
        go_loop [10, 71] (fun e i => e = errV A (verErrs s.data.toList) ∧ i = .int .i64 0) (fun _ _ => 0)
        case atStart => exact ⟨rfl, rfl⟩
        case' round =>
          obtain ⟨rfl, rfl⟩ := hrel
          generalize hwF : wr.alloc (.cells #[.int .i64 (numAt L 3 0), .int .i64 (numAt L 3 1), .int .i64 (numAt L 3 2), .slice none 0 0] 143) = wF at hS hzf hbF hpF ⊢
          generalize wr.heap.size = pb at hpF hnew hrs ⊢
          clear hpA hbA hb3A hEA hE3' HP
      case' true =>
        have hPr : verPres s.data.toList = split pr [46] := HP.out
        go_wp2_with fail
        generalize wr.alloc (.cells #[.int .i64 (numAt L 3 0), .int .i64 (numAt L 3 1), .int .i64 (numAt L 3 2), .slice none 0 0] 143) = wA at hbA hpA hb3A hEA ⊢
        have hrA : wr.heap.size < wA.heap.size := lt_of_cell hpA.c0
        refine (splitD_calls _ ⟨#[46]⟩ _ hEA.m (Nat.le_trans hp4 (by decide)) (by decide)).mono ?_
        rintro e wB ⟨n, rfl, hm1, hm2, HLp, hbB, hcB, hzB⟩
        have hLp := lstF_mem_le (by decide) HLp.out
        have hn9 : n ≤ 1000000001 := Nat.le_trans hm2 (Nat.succ_le_succ hp4)
        have hPn : Hid (lstF n (splitL ⟨pr.toArray⟩ ⟨#[46]⟩) = verPres s.data.toList) := Lib.hid (HLp.out.trans hPr.symm)
        rw [data_mk] at hLp
        have hpr : pr.length ≤ 4000000000 := Nat.le_trans hp4 (by decide)
        generalize splitL ⟨pr.toArray⟩ ⟨#[46]⟩ = P at hcB hPn hLp ⊢
        have hPs : ∀ j, j < n → (P j).size ≤ 4000000000 := fun j hj => Nat.le_trans (hLp j hj) hpr
        have hpB := hpA.below hbB.b
        have pb3 := hpB.c3
        have pf3 := hpB.fr 3
        have hpC := hpB.set3 (.slice (some ⟨wA.heap.size, 0, none⟩) n n)
        have hb3B := bel_step hb3A hbB
        have hb3C : Bel w3.heap.size w3 (wB.setCell ⟨wr.heap.size, 3, none⟩ (.slice (some ⟨wA.heap.size, 0, none⟩) n n)) := hb3B.setCell (by have := lt_of_cell hpA.c0; exact hrs) _
        have hcC : ∀ j, j < n → (wB.setCell ⟨wr.heap.size, 3, none⟩ (.slice (some ⟨wA.heap.size, 0, none⟩) n n)).cell? ⟨wA.heap.size, j, none⟩ = some (.string (P j)) := fun j hj => by
          rw [World.cell?_setCell_other _ _ _ _ (by intro e; injection e with e1 _ _; omega)]; exact hcB j hj
        have HC := Lib.hid hcC
        have hE3 := hE3'.below hb3C.b
        clear hm1 hm2 HLp hLp hpr HP hPr hcB hbB hbA hEA hcC hpA hpB hzB
        go_wp2_with fail
        clear pb3 pf3
        generalize wB.setCell ⟨wr.heap.size, 3, none⟩ (.slice (some ⟨wA.heap.size, 0, none⟩) n n) = wC at hb3C HC hE3 hpC ⊢
        generalize wr.heap.size = pb at hpC hrA hnew hrs ⊢
        go_loopw [10, 71] (fun e i wr' => ∃ k : Nat, k ≤ n ∧ i = .int .i64 k ∧ e = errV A (partErrs ((lstF n P).take k) (numErrs (verWords s.data.toList) 0)) ∧ Bel wC.heap.size wC wr') (fun _ i _ => n - (intOf i).toNat)
        case atStart => exact ⟨0, by omega, rfl, rfl, Bel.refl _ _⟩
        case' round =>
          obtain ⟨k, hk, rfl, rfl, hbl⟩ := hrel
          have hEl := hE3.below hbl.b
          by_cases hlt : k < n
          case' pos =>
            have hck := Below.cell_some hbl.b (HC.out k hlt)
            go_wp2_with fail
            refine (partD_calls ks A (P k) _ hEl (hPs k hlt) (HPS.out _ (by rw [← hPn.out]; exact List.mem_of_getElem? (lstF_get n P k hlt)))).mono ?_
            rintro e w4 ⟨rfl, hb4⟩
            have hb4C := bel_step hbl hb4
            have hE4 := hEl.below hb4.b
            go_wp2_with fail
            refine (worse_calls ks A (partErrs ((lstF n P).take k) (numErrs (verWords s.data.toList) 0)) (partErr (P k).data.toList) _ hE4 ?_).mono ?_
            · have := partErrs_le ((lstF n P).take k) _ (numErrs_le (verWords s.data.toList) 0 (by decide))
              have h12 := hE.has
              generalize partErrs ((lstF n P).take k) (numErrs (verWords s.data.toList) 0) = c at this
              rcases (by omega : c = 0 ∨ c = 1 ∨ c = 2) with h | h | h
              · exact .inl h
              · rw [h]; exact .inr h12.1
              · rw [h]; exact .inr h12.2
            rintro e w5 ⟨rfl, hw5⟩
            subst hw5
            have hst := partErrs_snoc ((lstF n P).take k) (P k).data.toList (numErrs (verWords s.data.toList) 0)
            rw [← lstF_take_succ n P k hlt] at hst
            rw [← hst]
            clear hst
            go_wp2_with fail
            go_roundw
            case rel => exact ⟨k + 1, by omega, by go_num, rfl, hb4C⟩
            case measure => simp [intOf]; omega
          case' neg =>
            obtain rfl : k = n := by omega
            rw [lstF_take_all, hPn.out]
            have hzf := (hz2.below hb3C.b).below hbl.b
            have hbF := bel_step (bel_step hb02 hb3C) hbl
            have hpF := hpC.below hbl.b
            have hw0 : w.heap.size < wA.heap.size := Nat.lt_trans hnew hrA
            have hS : StrsAt' wr (.slice (some ⟨wA.heap.size, 0, none⟩) k k) (verPres s.data.toList) w.heap.size := ⟨⟨_, k, k, P, rfl, hPn.out.symm, Nat.le_refl _, Nat.le_trans hn9 (by decide), fun j hj => ⟨_, 0, rfl, by rw [Nat.zero_add]; exact Below.cell_some hbl.b (HC.out j hj)⟩⟩, by intro q n' c' h; injection h with h _ _; injection h with h; subst h; exact Nat.ne_of_gt hw0⟩
            have hlen : (verPres s.data.toList).length = k := by rw [← hPn.out, lstF_length]
            have hev : verErrs s.data.toList = if 5 < k then worseN (partErrs (verPres s.data.toList) (numErrs (verWords s.data.toList) 0)) 2 else partErrs (verPres s.data.toList) (numErrs (verWords s.data.toList) 0) := by unfold verErrs; rw [hlen]
            have hlec := partErrs_le (verPres s.data.toList) _ (numErrs_le (verWords s.data.toList) 0 (by decide))
            have p3 := hpF.c3
            clear hPn hb3C HC hpC hE3 hE3' hPs
            by_cases hk5 : 5 < k
            case' neg =>
              rw [if_neg hk5] at hev
              rw [← hev]
              clear hev hlec hlen p3 hEl hbl
            case' pos =>
              rw [if_pos hk5] at hev
              have g2 := hEl.errs.var 2 hE.has.2
              simp only [errG] at g2
              have h12 := hE.has
              have HEV := Lib.hid hev
              clear hev hlen hbl
              go_wp2_with fail
              clear p3 g2
              rw [show (Value.iface 271 (.pointer (some (A 2)))) = errV A 2 from (errV_pos A (c := 2) (by decide)).symm]
              refine (worse_calls ks A (partErrs (verPres s.data.toList) (numErrs (verWords s.data.toList) 0)) 2 _ hEl ?_).mono ?_
              · rcases (by omega : partErrs (verPres s.data.toList) (numErrs (verWords s.data.toList) 0) = 0 ∨ partErrs (verPres s.data.toList) (numErrs (verWords s.data.toList) 0) = 1 ∨ partErrs (verPres s.data.toList) (numErrs (verWords s.data.toList) 0) = 2) with h | h | h
                · exact .inl h
                · rw [h]; exact .inr h12.1
                · rw [h]; exact .inr h12.2
              rintro e w5 ⟨rfl, hw5⟩
              subst hw5
              rw [← HEV.out]
              clear HEV h12 hlec hEl
      all_goals
        have hne : w.heap.size ≠ pb := Nat.ne_of_lt hnew
        have hne' : pb ≠ w.heap.size := hne.symm
        obtain ⟨p0, p1, p2, p3, pf⟩ := hpF
        obtain ⟨z0, z1, z2, z3, zf⟩ := hzf
        have zf0 := zf 0
        have zf1 := zf 1
        have zf2 := zf 2
        have zf3 := zf 3
        have hn3 := numAt_three L s.data.toList HN.out
        clear pf zf
        by_cases hc : verErrs s.data.toList = 0
        · have hv0 := HV.out.trans hc
          have e0 := hn3 hv0 0 (by decide)
          have e1 := hn3 hv0 1 (by decide)
          have e2 := hn3 hv0 2 (by decide)
          have hpre := verPre_ok hv0
          have hS2 := fun u => ((((hS.set 0 (.int .i64 (numAt L 3 0))).set 1 (.int .i64 (numAt L 3 1))).set 2 (.int .i64 (numAt L 3 2))).set 3 u).at_
          have HX := Lib.hid (And.intro hpre (And.intro e0 (And.intro e1 (And.intro e2 hv0))))
          rw [hc, errV_zero]
          clear hS hn3 e0 e1 e2 hpre hv0 hc HV
          go_wp2_with fail
          refine bodyPost_ret (v := .tuple #[.agg #[.int .i64 (numAt L 3 0), .int .i64 (numAt L 3 1), .int .i64 (numAt L 3 2), _], .nilIface]) (by simp [results, Tryz.results130, go_sem, *]; rfl) rfl ?_
          obtain ⟨hpre, e0, e1, e2, hv0⟩ := HX.out
          rw [hpre, ← e0, ← e1, ← e2, hv0]
          exact ⟨((((hbF.setCell (Nat.le_refl _) _).setCell (Nat.le_refl _) _).setCell (Nat.le_refl _) _).setCell (Nat.le_refl _) _), _, rfl, hS2 _⟩
        · have hv0 : verErr s.data.toList ≠ 0 := by rw [HV.out]; exact hc
          have HX := Lib.hid (And.intro hv0 HV.out)
          rw [errV_pos A hc]
          clear hS hn3 hv0 hc HV
          go_wp2_with fail
          refine bodyPost_ret (v := .tuple #[.agg #[.int .i64 0, .int .i64 0, .int .i64 0, .slice none 0 0], .iface 271 (.pointer (some (A (verErrs s.data.toList))))]) (by simp [results, Tryz.results130, go_sem, *]) rfl ?_
          rw [verNum_bad HX.out.1, verNum_bad HX.out.1, verNum_bad HX.out.1, verPre_bad HX.out.1, errV_pos A HX.out.1, HX.out.2]
          exact ⟨((((hbF.setCell (Nat.le_refl _) _).setCell (Nat.le_refl _) _).setCell (Nat.le_refl _) _).setCell (Nat.le_refl _) _), _, rfl, StrsAt.nil _⟩
end Go.Proofs.Pw

namespace Go.Proofs.Pw
open Go.RowKit
open Go.Lib hiding intOf
theorem cmpOrD (b n : Nat) (V : Nat → Int) (w : World) (hn : n ≤ 100) (hc : ∀ j, j < n → w.cell? ⟨b, j, none⟩ = some (.int .i64 (V j))) :
    Calls Tryz.prog 153 #[.slice (some ⟨b, 0, none⟩) n n] w fun e w' => e = .returned (.int .i64 (orN n V)) ∧ Bel w.heap.size w w' := by
  have HC := Lib.hid hc
  clear hc
  go_enter Tryz.func153, Tryz.ntmps153
  go_wp2_with fail
  go_loopw [8] (fun i wr => ∃ k : Nat, k ≤ n ∧ i = .int .i64 k ∧ Bel w.heap.size w wr ∧ Hid (∀ j, j < k → V j = 0)) (fun i _ => n - (intOf i).toNat)
  case atStart => exact ⟨0, by omega, rfl, Bel.refl _ _, Lib.hid (fun j hj => absurd hj (Nat.not_lt_zero _))⟩
  case round =>
    obtain ⟨k, hk, rfl, hbl, HA⟩ := hrel
    by_cases hlt : k < n
    · have hck := Below.cell_some hbl.b (HC.out k hlt)
      by_cases hv : V k = 0
      · have HV := Lib.hid hv
        rw [hv] at hck
        clear hv
        go_wp2_with fail
        go_roundw
        case rel =>
          refine ⟨k + 1, by omega, by go_num, hbl, Lib.hid (fun j hj => ?_)⟩
          by_cases e : j = k
          · subst e; exact HV.out
          · exact HA.out j (by omega)
        case measure => simp [intOf]; omega
      · have HV := Lib.hid hv
        have hv2 : (V k == 0) = false := beq_eq_false_iff_ne.2 hv
        have hres := Lib.hid (orN_hit V k HA.out hv n hlt)
        generalize V k = v at hck hv2 hres
        clear hv HV
        go_wp2_with fail
        go_ret
        rw [hres.out]
        exact ⟨rfl, hbl⟩
    · obtain rfl : k = n := by omega
      go_wp2_with fail
      go_ret
      rw [orN_none V k HA.out]
      exact ⟨rfl, hbl⟩
set_option maxHeartbeats 400000 in
theorem cmpPartD (a b : ByteArray) (w : World) (ha : a.size ≤ 1000000000) (hb : b.size ≤ 1000000000) :
    Calls Tryz.prog 155 #[.string a, .string b] w fun e w' => e = .returned (.int .i64 (cmpPart a.data.toList b.data.toList)) ∧ Bel w.heap.size w w' := by
  have hm : cmpPart a.data.toList b.data.toList = if areDigits a.data.toList && areDigits b.data.toList then orI ((a.size : Int) - b.size) (compareBytes a.data.toList b.data.toList) else if areDigits a.data.toList then -1 else if areDigits b.data.toList then 1 else compareBytes a.data.toList b.data.toList := by
    rw [size_eq, size_eq]; rfl
  generalize cmpPart a.data.toList b.data.toList = R at hm ⊢
  generalize hx : areDigits a.data.toList = x at hm
  generalize hy : areDigits b.data.toList = y at hm
  have HX := Lib.hid hx
  have HY := Lib.hid hy
  have hS := Tryz.strings_Compare a b
  generalize compareBytes a.data.toList b.data.toList = c at hm hS
  have HS := Lib.hid hS
  have HM := Lib.hid hm
  clear hx hy hm hS
  go_enter Tryz.func155, Tryz.ntmps155
  go_wp2_with fail
  refine (digitsD_calls a w (Nat.le_trans ha (by decide))).mono ?_
  rintro e w1 ⟨rfl, hb1⟩
  go_wp2_with fail
  refine (digitsD_calls b w1 (Nat.le_trans hb (by decide))).mono ?_
  rintro e w2 ⟨rfl, hb2⟩
  rw [HX.out, HY.out]
  have hb02 := bel_step hb1 hb2
  cases x <;> cases y
  case false.false =>
    go_wp2_with fail
    refine (HS.out w2).mono ?_
    rintro e w3 ⟨rfl, rfl⟩
    go_wp2_with fail
    go_ret
    rw [HM.out]
    exact ⟨rfl, hb02⟩
  case false.true =>
    go_wp2_with fail
    go_ret
    rw [HM.out]
    exact ⟨rfl, hb02⟩
  case true.false =>
    go_wp2_with fail
    go_ret
    rw [HM.out]
    exact ⟨rfl, hb02⟩
  case true.true =>
    go_wp2_with fail
    refine (HS.out w2).mono ?_
    rintro e w3 ⟨rfl, rfl⟩
    go_wp2_with fail
    refine (cmpOrD _ 2 (fun j => if j = 0 then (a.size : Int) - b.size else c) _ (by decide) ?_).mono ?_
    · intro j hj
      obtain rfl | rfl : j = 0 ∨ j = 1 := by omega
      all_goals simp
    rintro e w4 ⟨rfl, hb4⟩
    have ho : orN 2 (fun j => if j = 0 then (a.size : Int) - b.size else c) = orI ((a.size : Int) - b.size) c := by
      rw [orN_succ, orN_succ]
      show orI (orI 0 _) _ = _
      rw [orI_zero]
      rfl
    rw [ho]
    have hb05 := bel_step hb02 (bel_step (bel_alloc _ _) hb4)
    clear ho hb4
    go_wp2_with fail
    go_ret
    rw [HM.out]
    exact ⟨rfl, hb05⟩
set_option maxHeartbeats 400000 in
theorem cmpFuncD (a1 a2 : Option Addr) (n c1 m c2 : Nat) (L M : Nat → ByteArray) (w : World) (hn : n ≤ 1000000001) (hm : m ≤ 1000000001)
    (h1 : ∀ j, j < n → ∃ b o, a1 = some ⟨b, o, none⟩ ∧ w.cell? ⟨b, o + j, none⟩ = some (.string (L j))) (h2 : ∀ j, j < m → ∃ b o, a2 = some ⟨b, o, none⟩ ∧ w.cell? ⟨b, o + j, none⟩ = some (.string (M j)))
    (hL : ∀ j, j < n → (L j).size ≤ 1000000000) (hM : ∀ j, j < m → (M j).size ≤ 1000000000) :
    Calls Tryz.prog 154 #[.slice a1 n c1, .slice a2 m c2, .func (.func 155) #[] #[]] w fun e w' => e = .returned (.int .i64 (cmpList (lstF n L) (lstF m M))) ∧ Bel w.heap.size w w' := by
  have H1 := Lib.hid h1
  have H2 := Lib.hid h2
  have HL := Lib.hid hL
  have HM := Lib.hid hM
  clear h1 h2 hL hM
  go_enter Tryz.func154, Tryz.ntmps154
  go_wp2_with fail
  go_loopw [13] (fun i wr => ∃ k : Nat, k ≤ n ∧ k ≤ m ∧ i = .int .i64 k ∧ Bel w.heap.size w wr ∧ Hid (cmpList (lstF n L) (lstF m M) = cmpList ((lstF n L).drop k) ((lstF m M).drop k))) (fun i _ => n - (intOf i).toNat)
  case atStart => exact ⟨0, by omega, by omega, rfl, Bel.refl _ _, Lib.hid rfl⟩
  case round =>
    obtain ⟨k, hk, hkm, rfl, hbl, HA⟩ := hrel
    by_cases hlt : k < n
    · obtain ⟨b1, o1, rfl, d1⟩ := H1.out k hlt
      replace d1 := Below.cell_some hbl.b d1
      by_cases hlm : k < m
      · obtain ⟨b2, o2, rfl, d2⟩ := H2.out k hlm
        replace d2 := Below.cell_some hbl.b d2
        have hcall := cmpPartD (L k) (M k) wr (HL.out k hlt) (HM.out k hlm)
        have hst := cmpList_drop n m L M k hlt hlm
        generalize cmpPart (L k).data.toList (M k).data.toList = c at hcall hst
        by_cases hc : c = 0
        · rw [hc, orI_zero] at hst
          subst hc
          have HS := Lib.hid (HA.out.trans hst)
          clear hst
          go_wp2_with fail
          refine hcall.mono ?_
          rintro e w' ⟨rfl, hb2⟩
          go_wp2_with fail
          go_roundw
          case rel => exact ⟨k + 1, by omega, by omega, by go_num, bel_step hbl hb2, HS⟩
          case measure => simp [intOf]; omega
        · rw [orI_left hc] at hst
          have HS := Lib.hid (HA.out.trans hst)
          have hc2 : (c == 0) = false := beq_eq_false_iff_ne.2 hc
          clear hst hc
          go_wp2_with fail
          refine hcall.mono ?_
          rintro e w' ⟨rfl, hb2⟩
          go_wp2_with fail
          go_ret
          rw [HS.out]
          exact ⟨rfl, bel_step hbl hb2⟩
      · obtain rfl : k = m := by omega
        have HS : Hid (cmpList (lstF n L) (lstF k M) = 1) := by
          refine Lib.hid (HA.out.trans ?_)
          rw [List.drop_of_length_le (l := lstF k M) (by rw [lstF_length]; exact Nat.le_refl _), List.drop_eq_getElem_cons (by rw [lstF_length]; exact hlt)]
          rfl
        go_wp2_with fail
        go_ret
        rw [HS.out]
        exact ⟨rfl, hbl⟩
    · obtain rfl : k = n := by omega
      by_cases hlm : k < m
      · have HS : Hid (cmpList (lstF k L) (lstF m M) = -1) := by
          refine Lib.hid (HA.out.trans ?_)
          rw [List.drop_of_length_le (l := lstF k L) (by rw [lstF_length]; exact Nat.le_refl _), List.drop_eq_getElem_cons (by rw [lstF_length]; exact hlm)]
          rfl
        go_wp2_with fail
        go_ret
        rw [HS.out]
        exact ⟨rfl, hbl⟩
      · obtain rfl : k = m := by omega
        have HS : Hid (cmpList (lstF k L) (lstF k M) = 0) := by
          refine Lib.hid (HA.out.trans ?_)
          rw [List.drop_of_length_le (l := lstF k L) (by rw [lstF_length]; exact Nat.le_refl _), List.drop_of_length_le (l := lstF k M) (by rw [lstF_length]; exact Nat.le_refl _)]
          rfl
        go_wp2_with fail
        go_ret
        rw [HS.out]
        exact ⟨rfl, hbl⟩
set_option maxHeartbeats 1000000 in
theorem verCompareD (ks : List Nat) (A : Nat → Addr) (a b : ByteArray) (w : World) (hE : EnvP ks A w) (ha : a.size ≤ 1000000000) (hb : b.size ≤ 1000000000) (oka : verErr a.data.toList = 0) (okb : verErr b.data.toList = 0) :
    Calls Tryz.prog 105 #[.string a, .string b] w fun e w' => e = .returned (.int .i64 (verCmp a.data.toList b.data.toList)) ∧ Bel w.heap.size w w' := by
  have OKA := Lib.hid oka
  have OKB := Lib.hid okb
  clear oka okb
  have la0 := verNum_le a.data.toList 0
  have la1 := verNum_le a.data.toList 1
  have la2 := verNum_le a.data.toList 2
  have lb0 := verNum_le b.data.toList 0
  have lb1 := verNum_le b.data.toList 1
  have lb2 := verNum_le b.data.toList 2
  have hm : verCmp a.data.toList b.data.toList = (let n := orI ((verNum a.data.toList 0 : Int) - verNum b.data.toList 0) (orI ((verNum a.data.toList 1 : Int) - verNum b.data.toList 1) ((verNum a.data.toList 2 : Int) - verNum b.data.toList 2)); if n = 0 ∧ decide ((verPre a.data.toList).length = 0) ≠ decide ((verPre b.data.toList).length = 0) then ((verPre b.data.toList).length : Int) - (verPre a.data.toList).length else orI n (cmpList (verPre a.data.toList) (verPre b.data.toList))) := rfl
  generalize verCmp a.data.toList b.data.toList = R at hm ⊢
  have HM := Lib.hid hm
  clear hm
  go_enter Tryz.func105, Tryz.ntmps105
  go_wp2_with fail
  refine (verSplitD_calls ks A a w hE ha OKA.out).mono ?_
  rintro e w1 ⟨hb1, va, rfl, a1, n1, cap1, L1, rfl, HL1, hn1, hn1', hc1⟩
  go_wp2_with fail
  have hbA := bel_alloc w1 (.cells #[.int .i64 (verNum a.data.toList 0 : Nat), .int .i64 (verNum a.data.toList 1 : Nat), .int .i64 (verNum a.data.toList 2 : Nat), .slice a1 n1 cap1] 143)
  have hzA := box4_alloc w1 (.int .i64 (verNum a.data.toList 0 : Nat)) (.int .i64 (verNum a.data.toList 1 : Nat)) (.int .i64 (verNum a.data.toList 2 : Nat)) (.slice a1 n1 cap1) 143
  have hb1A := bel_step hb1 hbA
  refine (verSplitD_calls ks A b _ (hE.below hb1A.b) hb OKB.out).mono ?_
  rintro e w2 ⟨hb2, vb, rfl, a2, n2, cap2, L2, rfl, HL2, hn2, hn2', hc2⟩
  have hbB := bel_alloc w2 (.cells #[.int .i64 (verNum b.data.toList 0 : Nat), .int .i64 (verNum b.data.toList 1 : Nat), .int .i64 (verNum b.data.toList 2 : Nat), .slice a2 n2 cap2] 143)
  have hzB := box4_alloc w2 (.int .i64 (verNum b.data.toList 0 : Nat)) (.int .i64 (verNum b.data.toList 1 : Nat)) (.int .i64 (verNum b.data.toList 2 : Nat)) (.slice a2 n2 cap2) 143
  have hzA2 := (hzA.below hb2.b).below hbB.b
  have hb2B := bel_step (bel_step hb1A hb2) hbB
  obtain ⟨p0, p1, p2, p3, _⟩ := hzA2
  obtain ⟨q0, q1, q2, q3, _⟩ := hzB
  have hs1 := verPre_small a.data.toList
  have hs2 := verPre_small b.data.toList
  rw [HL1, lstF_length] at hs1
  rw [HL2, lstF_length] at hs2
  have hL1 : ∀ j, j < n1 → (L1 j).size ≤ 1000000000 := fun j hj => by
    have := (hs1.2 _ (List.mem_of_getElem? (lstF_get n1 L1 j hj))).1
    rw [size_eq]; omega
  have hL2 : ∀ j, j < n2 → (L2 j).size ≤ 1000000000 := fun j hj => by
    have := (hs2.2 _ (List.mem_of_getElem? (lstF_get n2 L2 j hj))).1
    rw [size_eq]; omega
  have hm1 := hs1.1
  have hm2 := hs2.1
  have hcf := fun (W : World) (h : Bel w1.heap.size w1 W) (h' : Bel w2.heap.size w2 W) => cmpFuncD a1 a2 n1 cap1 n2 cap2 L1 L2 W (by omega) (by omega)
    (fun j hj => let ⟨b, o, e, h2⟩ := hc1 j hj; ⟨b, o, e, Below.cell_some h.b h2⟩) (fun j hj => let ⟨b, o, e, h2⟩ := hc2 j hj; ⟨b, o, e, Below.cell_some h'.b h2⟩) hL1 hL2
  have HCF := Lib.hid hcf
  have HM2 : Hid (R = if orI ((verNum a.data.toList 0 : Int) - verNum b.data.toList 0) (orI ((verNum a.data.toList 1 : Int) - verNum b.data.toList 1) ((verNum a.data.toList 2 : Int) - verNum b.data.toList 2)) = 0 ∧ decide (n1 = 0) ≠ decide (n2 = 0) then (n2 : Int) - n1 else orI (orI ((verNum a.data.toList 0 : Int) - verNum b.data.toList 0) (orI ((verNum a.data.toList 1 : Int) - verNum b.data.toList 1) ((verNum a.data.toList 2 : Int) - verNum b.data.toList 2))) (cmpList (lstF n1 L1) (lstF n2 L2))) := Lib.hid (by
    rw [HM.out]
    show (if _ ∧ _ then _ else _) = _
    rw [HL1, HL2, lstF_length, lstF_length])
  clear hs1 hs2 hcf HM HL1 HL2 hL1 hL2 hc1 hc2 hzA hb1A
  generalize cmpList (lstF n1 L1) (lstF n2 L2) = cl at HCF HM2
  have hb12 : Bel w1.heap.size w1 w2 := bel_step hbA hb2
  have hpz : w1.heap.size < w2.heap.size := lt_of_cell (show w2.cell? ⟨w1.heap.size, 0, none⟩ = some _ from (box4_alloc w1 (.int .i64 (verNum a.data.toList 0 : Nat)) (.int .i64 (verNum a.data.toList 1 : Nat)) (.int .i64 (verNum a.data.toList 2 : Nat)) (.slice a1 n1 cap1) 143 |>.below hb2.b).c0)
  generalize verNum a.data.toList 0 = x0 at *
  generalize verNum a.data.toList 1 = x1 at *
  generalize verNum a.data.toList 2 = x2 at *
  generalize verNum b.data.toList 0 = y0 at *
  generalize verNum b.data.toList 1 = y1 at *
  generalize verNum b.data.toList 2 = y2 at *
  have hmn : ∀ n, n = orI ((x0 : Int) - y0) (orI ((x1 : Int) - y1) ((x2 : Int) - y2)) → -1000000 ≤ n ∧ n ≤ 1000000 := fun n e => by
    rw [e]; unfold orI; split <;> (try split) <;> omega
  go_wp2_with fail
  refine (cmpOrD (w2.heap.size + 1) 3 (fun j => if j = 0 then (x0 : Int) - y0 else if j = 1 then (x1 : Int) - y1 else (x2 : Int) - y2) _ (by decide) ?_).mono ?_
  · intro j hj
    obtain rfl | rfl | rfl : j = 0 ∨ j = 1 ∨ j = 2 := by omega
    all_goals simp
  rintro e w4 ⟨rfl, hb4⟩
  have ho : orN 3 (fun j => if j = 0 then (x0 : Int) - y0 else if j = 1 then (x1 : Int) - y1 else (x2 : Int) - y2) = orI ((x0 : Int) - y0) (orI ((x1 : Int) - y1) ((x2 : Int) - y2)) := by
    rw [orN_succ, orN_succ, orN_succ]
    show orI (orI (orI 0 _) _) _ = _
    rw [orI_zero]
    simp only [↓reduceIte]
    unfold orI
    by_cases h1 : (x0 : Int) - y0 = 0
    · simp [h1]
    · simp [h1]
  rw [ho]
  have hN := hmn _ rfl
  clear ho hmn
  generalize orI ((x0 : Int) - y0) (orI ((x1 : Int) - y1) ((x2 : Int) - y2)) = N at hN HM2 ⊢
  have hbC := bel_step (bel_alloc _ _) hb4
  have p3' := Below.cell_some hbC.b p3
  have q3' := Below.cell_some hbC.b q3
  have hbW := bel_step hb2B hbC
  have hb14 : Bel w1.heap.size w1 w4 := bel_step (bel_step hb12 hbB) hbC
  have hb24 : Bel w2.heap.size w2 w4 := bel_step hbB hbC
  clear p0 p1 p2 p3 q0 q1 q2 q3 la0 la1 la2 lb0 lb1 lb2 hb4 hbC hb2B hb12 hbB hb1 hb2 hbA hpz
  have go_on : Hid (R = orI N cl) → Hid (∀ W, Bel w1.heap.size w1 W → Bel w2.heap.size w2 W → Calls Tryz.prog 154 #[.slice a1 n1 cap1, .slice a2 n2 cap2, .func (.func 155) #[] #[]] W fun e w' => e = .returned (.int .i64 cl) ∧ Bel W.heap.size W w') := fun _ => HCF
  by_cases h0 : N = 0
  · subst h0
    by_cases h1 : n1 = 0
    · subst h1
      by_cases h2 : n2 = 0
      · subst h2
        have HR : Hid (R = orI 0 cl) := Lib.hid (by rw [HM2.out, if_neg (by simp)])
        clear go_on
        go_wp2_with fail
        refine (HCF.out _ hb14 hb24).mono ?_
        rintro e w5 ⟨rfl, hb5⟩
        go_wp2_with fail
        refine (cmpOrD _ 2 (fun j => if j = 0 then 0 else cl) _ (by decide) ?_).mono ?_
        · intro j hj
          obtain rfl | rfl : j = 0 ∨ j = 1 := by omega
          all_goals simp
        rintro e w6 ⟨rfl, hb6⟩
        have ho : orN 2 (fun j => if j = 0 then 0 else cl) = orI 0 cl := by
          rw [orN_succ, orN_succ]
          show orI (orI 0 _) _ = _
          rw [orI_zero]
          rfl
        rw [ho]
        have hbE := bel_step hbW (bel_step hb5 (bel_step (bel_alloc _ _) hb6))
        clear ho hb6 hb5
        go_wp2_with fail
        go_ret
        rw [HR.out]
        exact ⟨rfl, hbE⟩
      · have HR : Hid (R = (n2 : Int) - (0 : Nat)) := Lib.hid (by rw [HM2.out, if_pos ⟨rfl, by simp [h2]⟩])
        have h2' : ((n2 : Int) == 0) = false := beq_eq_false_iff_ne.2 (by omega)
        clear h2
        go_wp2_with fail
        go_ret
        rw [HR.out]
        exact ⟨by simp, hbW⟩
    · by_cases h2 : n2 = 0
      · subst h2
        have HR : Hid (R = ((0 : Nat) : Int) - n1) := Lib.hid (by rw [HM2.out, if_pos ⟨rfl, by simp [h1]⟩])
        have h1' : ((n1 : Int) == 0) = false := beq_eq_false_iff_ne.2 (by omega)
        clear h1
        go_wp2_with fail
        go_ret
        rw [HR.out]
        exact ⟨by simp, hbW⟩
      · have HR : Hid (R = orI 0 cl) := Lib.hid (by rw [HM2.out, if_neg (by simp [h1, h2])])
        have h1' : ((n1 : Int) == 0) = false := beq_eq_false_iff_ne.2 (by omega)
        have h2' : ((n2 : Int) == 0) = false := beq_eq_false_iff_ne.2 (by omega)
        clear go_on h1 h2
        go_wp2_with fail
        refine (HCF.out _ hb14 hb24).mono ?_
        rintro e w5 ⟨rfl, hb5⟩
        go_wp2_with fail
        refine (cmpOrD _ 2 (fun j => if j = 0 then 0 else cl) _ (by decide) ?_).mono ?_
        · intro j hj
          obtain rfl | rfl : j = 0 ∨ j = 1 := by omega
          all_goals simp
        rintro e w6 ⟨rfl, hb6⟩
        have ho : orN 2 (fun j => if j = 0 then 0 else cl) = orI 0 cl := by
          rw [orN_succ, orN_succ]
          show orI (orI 0 _) _ = _
          rw [orI_zero]
          rfl
        rw [ho]
        have hbE := bel_step hbW (bel_step hb5 (bel_step (bel_alloc _ _) hb6))
        clear ho hb6 hb5
        go_wp2_with fail
        go_ret
        rw [HR.out]
        exact ⟨rfl, hbE⟩
  · have HR : Hid (R = orI N cl) := Lib.hid (by rw [HM2.out, if_neg (fun h => h0 h.1)])
    have h0' : (N == 0) = false := beq_eq_false_iff_ne.2 h0
    clear h0 go_on
    go_wp2_with fail
    refine (HCF.out _ hb14 hb24).mono ?_
    rintro e w5 ⟨rfl, hb5⟩
    go_wp2_with fail
    refine (cmpOrD _ 2 (fun j => if j = 0 then N else cl) _ (by decide) ?_).mono ?_
    · intro j hj
      obtain rfl | rfl : j = 0 ∨ j = 1 := by omega
      all_goals simp
    rintro e w6 ⟨rfl, hb6⟩
    have ho : orN 2 (fun j => if j = 0 then N else cl) = orI N cl := by
      rw [orN_succ, orN_succ]
      show orI (orI 0 _) _ = _
      rw [orI_zero]
      rfl
    rw [ho]
    have hbE := bel_step hbW (bel_step hb5 (bel_step (bel_alloc _ _) hb6))
    clear ho hb6 hb5
    go_wp2_with fail
    go_ret
    rw [HR.out]
    exact ⟨rfl, hbE⟩
end Go.Proofs.Pw

namespace Go.Proofs.Pw
open Go.RowKit
open Go.Lib hiding intOf
theorem modCompareD (ks : List Nat) (A : Nat → Addr) (p v q u : ByteArray) (w : World) (hE : EnvP ks A w) (hv : v.size ≤ 1000000000) (hu : u.size ≤ 1000000000) (okv : verErr v.data.toList = 0) (oku : verErr u.data.toList = 0) :
    Calls Tryz.prog 56 #[.agg #[.string p, .string v], .agg #[.string q, .string u]] w fun e w' => e = .returned (.int .i64 (modCmp (p.data.toList, v.data.toList) (q.data.toList, u.data.toList))) ∧ Bel w.heap.size w w' := by
  have hb1 := bel_alloc w (.cells #[.string p, .string v] 38)
  have hb2 := bel_alloc (w.alloc (.cells #[.string p, .string v] 38)) (.cells #[.string q, .string u] 38)
  have hB := bel_step hb1 hb2
  obtain ⟨m0, m1, _⟩ := (box2_alloc w (.string p) (.string v) 38).below hb2.b
  obtain ⟨f0, f1, _⟩ := box2_alloc (w.alloc (.cells #[.string p, .string v] 38)) (.string q) (.string u) 38
  simp only [World.size_alloc] at f0 f1
  have hS := Tryz.strings_Compare p q
  have hC := verCompareD ks A v u ((w.alloc (.cells #[.string p, .string v] 38)).alloc (.cells #[.string q, .string u] 38)) (hE.below hB.b) hv hu okv oku
  have hm : modCmp (p.data.toList, v.data.toList) (q.data.toList, u.data.toList) = if p = q then verCmp v.data.toList u.data.toList else compareBytes p.data.toList q.data.toList := by
    unfold modCmp orI
    by_cases h : p = q
    · subst h
      rw [if_pos (compareBytes_ord.self _), if_pos rfl]
    · rw [if_neg (fun h2 => h (bytes_eq.1 (compareBytes_zero h2))), if_neg h]
  generalize compareBytes p.data.toList q.data.toList = x at hS hm
  generalize verCmp v.data.toList u.data.toList = y at hC hm
  replace hS := Lib.hid hS
  replace hC := Lib.hid hC
  clear hb1 hb2 hE okv oku
  by_cases h : p = q
  · rw [if_pos h] at hm
    have HM := Lib.hid hm
    subst h
    have h1 : (p.toList != p.toList) = false := by simp
    clear hm hS
    go_enter Tryz.func56, Tryz.ntmps56
    go_wp2_with fail
    refine hC.out.mono ?_
    rintro e w' ⟨rfl, hb⟩
    go_wp2_with fail
    go_ret
    rw [HM.out]
    exact ⟨rfl, bel_step hB hb⟩
  · rw [if_neg h] at hm
    have HM := Lib.hid hm
    have h1 : (p.toList != q.toList) = true := by rw [toList_data, toList_data]; exact bne_iff_ne.2 (fun e => h (bytes_eq.1 e))
    have h2 : p.toList ≠ q.toList := by rw [toList_data, toList_data]; exact fun e => h (bytes_eq.1 e)
    have h3 : (p.toList == q.toList) = false := beq_eq_false_iff_ne.2 h2
    clear hm hC
    go_enter Tryz.func56, Tryz.ntmps56
    go_wp2_with fail
    refine (hS.out _).mono ?_
    rintro e w' ⟨rfl, rfl⟩
    go_wp2_with fail
    go_ret
    rw [HM.out]
    exact ⟨rfl, hB⟩
end Go.Proofs.Pw

namespace Go.Proofs.Pw
open Go.RowKit
def laysSortMR : Go.Shelf.Ren := ⟨fun | 6 => 55 | 14 => 102 | 15 => 103 | 20 => 142 | 21 => 143 | 22 => 144 | 23 => 145 | 24 => 146 | 25 => 147 | 26 => 148 | 27 => 149 | 28 => 150 | 29 => 151 | 46 => 188 | 47 => 189 | 48 => 190 | 49 => 191 | 50 => 192 | 57 => 219 | n => n,
  fun | 0 => 0 | 3 => 3 | 4 => 4 | 5 => 5 | 9 => 9 | 22 => 23 | 24 => 38 | 25 => 76 | 39 => 122 | 45 => 155 | 46 => 156 | 50 => 160 | 53 => 163 | 55 => 165 | 66 => 197 | 70 => 201 | 76 => 230 | 77 => 91 | n => n, fun n => n⟩
theorem laysSortM : Go.Proofs.SlLaysF0.n6 Tryz.prog laysSortMR := {
  mixed := by kernel_rfl
  f6 := ⟨Tryz.f55.name, by decide, Tryz.func55.trans (congrArg some (by kernel_rfl))⟩
  f14 := ⟨Tryz.f102.name, by decide, Tryz.func102.trans (congrArg some (by kernel_rfl))⟩
  f15 := Tryz.func103.trans (congrArg some (by kernel_rfl))
  f20 := ⟨Tryz.f142.name, by decide, Tryz.func142.trans (congrArg some (by kernel_rfl))⟩
  f21 := ⟨Tryz.f143.name, by decide, Tryz.func143.trans (congrArg some (by kernel_rfl))⟩
  f22 := ⟨Tryz.f144.name, by decide, Tryz.func144.trans (congrArg some (by kernel_rfl))⟩
  f23 := ⟨Tryz.f145.name, by decide, Tryz.func145.trans (congrArg some (by kernel_rfl))⟩
  f24 := ⟨Tryz.f146.name, by decide, Tryz.func146.trans (congrArg some (by kernel_rfl))⟩
  f25 := ⟨Tryz.f147.name, by decide, Tryz.func147.trans (congrArg some (by kernel_rfl))⟩
  f26 := ⟨Tryz.f148.name, by decide, Tryz.func148.trans (congrArg some (by kernel_rfl))⟩
  f27 := ⟨Tryz.f149.name, by decide, Tryz.func149.trans (congrArg some (by kernel_rfl))⟩
  f28 := Tryz.func150.trans (congrArg some (by kernel_rfl))
  f29 := Tryz.func151.trans (congrArg some (by kernel_rfl))
  f46 := ⟨Tryz.f188.name, by decide, Tryz.func188.trans (congrArg some (by kernel_rfl))⟩
  f47 := Tryz.func189.trans (congrArg some (by kernel_rfl))
  f48 := Tryz.func190.trans (congrArg some (by kernel_rfl))
  f49 := ⟨Tryz.f191.name, by decide, Tryz.func191.trans (congrArg some (by kernel_rfl))⟩
  f50 := ⟨Tryz.f192.name, by decide, Tryz.func192.trans (congrArg some (by kernel_rfl))⟩
  f57 := ⟨Tryz.f219.name, by decide, Tryz.func219.trans (congrArg some (by kernel_rfl))⟩
  t0 := Tryz.underlying0
  a0 := Tryz.isAgg0
  z0 := Tryz.sizeOf0
  v0 := Tryz.zeroValue0
  t3 := Tryz.underlying3
  a3 := Tryz.isAgg3
  z3 := Tryz.sizeOf3
  v3 := Tryz.zeroValue3
  t4 := Tryz.underlying4
  a4 := Tryz.isAgg4
  z4 := Tryz.sizeOf4
  v4 := Tryz.zeroValue4
  t5 := Tryz.underlying5
  a5 := Tryz.isAgg5
  z5 := Tryz.sizeOf5
  v5 := Tryz.zeroValue5
  t9 := Tryz.underlying9
  a9 := Tryz.isAgg9
  z9 := Tryz.sizeOf9
  v9 := Tryz.zeroValue9
  t22 := Tryz.underlying23
  a22 := Tryz.isAgg23
  z22 := Tryz.sizeOf23
  v22 := Tryz.zeroValue23
  t25 := Tryz.underlying76
  a25 := Tryz.isAgg76
  z25 := Tryz.sizeOf76
  v25 := Tryz.zeroValue76
  t39 := Tryz.underlying122
  a39 := Tryz.isAgg122
  z39 := Tryz.sizeOf122
  v39 := Tryz.zeroValue122
  t45 := Tryz.underlying155
  a45 := Tryz.isAgg155
  z45 := Tryz.sizeOf155
  v45 := Tryz.zeroValue155
  t46 := Tryz.underlying156
  a46 := Tryz.isAgg156
  z46 := Tryz.sizeOf156
  v46 := Tryz.zeroValue156
  t50 := Tryz.underlying160
  a50 := Tryz.isAgg160
  z50 := Tryz.sizeOf160
  v50 := Tryz.zeroValue160
  t53 := Tryz.underlying163
  a53 := Tryz.isAgg163
  z53 := Tryz.sizeOf163
  v53 := Tryz.zeroValue163
  t55 := Tryz.underlying165
  a55 := Tryz.isAgg165
  z55 := Tryz.sizeOf165
  v55 := Tryz.zeroValue165
  t66 := Tryz.underlying197
  a66 := Tryz.isAgg197
  z66 := Tryz.sizeOf197
  v66 := Tryz.zeroValue197
  t70 := Tryz.underlying201
  a70 := Tryz.isAgg201
  z70 := Tryz.sizeOf201
  v70 := Tryz.zeroValue201
  t76 := Tryz.underlying230
  a76 := Tryz.isAgg230
  z76 := Tryz.sizeOf230
  v76 := Tryz.zeroValue230
  t77 := Tryz.underlying91
  a77 := Tryz.isAgg91
  z77 := Tryz.sizeOf91
  v77 := Tryz.zeroValue91 }
end Go.Proofs.Pw

namespace Go.Proofs.Pw
open Go.RowKit
open Go.Proofs Go.Sort
open Go.Lib hiding intOf
def OkM (m : ByteArray × ByteArray) : Prop := verErr m.2.data.toList = 0 ∧ m.2.size ≤ 1000000000
abbrev RM := {m : ByteArray × ByteArray // OkM m}
instance : Inhabited RM := ⟨⟨(⟨#[]⟩, ⟨#[118, 48, 46, 48, 46, 48]⟩), by decide +kernel, by decide⟩⟩
def tRM (x : RM) : Md := (x.1.1.data.toList, x.1.2.data.toList)
def encRM (x : RM) : List Value := [.string x.1.1, .string x.1.2]
def cmpRM (x y : RM) : Int := modCmp (tRM x) (tRM y)
theorem swo_of {α : Type} {f : α → α → Int} (h : Ord3 f) : SWO (ltOf f) := by
  refine ⟨fun x => ?_, fun x y z h1 h2 => ?_, fun x y z h1 h2 => ?_⟩
  · unfold ltOf
    rw [h.self]; rfl
  · unfold ltOf at *
    rw [decide_eq_true_iff] at *
    have a1 := h.tr x y z (by omega) (by omega)
    rcases Int.lt_or_eq_of_le a1 with a2 | a2
    · exact a2
    · exfalso
      have a3 := h.zero a2
      have a4 := h.tr z x y (by omega) (by omega)
      have a5 := (h.anti y z).1 h2
      omega
  · unfold ltOf at *
    rw [decide_eq_false_iff_not] at *
    intro h3
    have b1 := (h.anti x z).1 h3
    have b2 := h.anti y x
    have b3 := h.anti z y
    have b4 := h.anti x y
    have b5 := h.anti y z
    have := h.tr z y x (by omega) (by omega)
    omega
theorem cmpRM_ord : Ord3 cmpRM := modCmp_ord.comap tRM
theorem encRM_len (x : RM) : (encRM x).length = 2 := rfl
theorem encRM_one (x : RM) : ∀ v ∈ encRM x, v.oneCell' = true := by
  intro v hv
  simp [encRM] at hv
  rcases hv with rfl | rfl <;> rfl
theorem below_sortWK {B : Nat} {w0 w : World} (h : Below B w0 w) (hB : B ≤ w0.heap.size) {blk : Nat} (hb : B ≤ blk) (off m : Nat) (d : Array RM) (os : Array Obj) : Below B w0 (sortWorldK encRM 2 w blk off m d os) := by
  have hBs := h.size
  refine h.trans ⟨rfl, rfl, rfl, ?_, fun k hk => ?_⟩
  · simp [sortWorldK, grow, putRowK, putRow, mapBlock, Sort.ahead]
  · simp only [sortWorldK, grow, putRowK, putRow, mapBlock, Sort.ahead]
    by_cases hk2 : k < w.heap.size
    · rw [Array.getElem?_append_left (by simpa using hk2), Array.getElem?_modify, if_neg (by omega)]
    · exact absurd (Nat.lt_of_lt_of_le hk (Nat.le_trans hB hBs)) hk2
theorem map_subM {P : ByteArray × ByteArray → Prop} : ∀ (l : List (ByteArray × ByteArray)), (∀ x ∈ l, P x) → ∃ m : List {s : ByteArray × ByteArray // P s}, m.map (·.1) = l
  | [], _ => ⟨[], rfl⟩
  | a :: r, h => by
    obtain ⟨m, hm⟩ := map_subM r (fun x hx => h x (by simp [hx]))
    exact ⟨⟨a, h a (by simp)⟩ :: m, by simp [hm]⟩
theorem modsAt_holds {w : World} {g cap : Nat} {d : Array RM} (h : HoldsK encRM 2 w g 0 d) (hc : d.size ≤ cap) (hm : cap ≤ 9223372036854775807) : ModsAt w (.slice (some ⟨g, 0, none⟩) d.size cap) (d.toList.map tRM) := by
  refine ⟨some ⟨g, 0, none⟩, d.size, cap, fun i => (d[i]!).1.1, fun i => (d[i]!).1.2, rfl, ?_, hc, hm, fun j hj => ?_⟩
  · apply List.ext_getElem?
    intro i
    by_cases hi : i < d.size
    · rw [mdF_get _ _ _ i hi, List.getElem?_map, List.getElem?_eq_getElem (by simpa using hi)]
      rw [getElem!_pos d i hi]
      simp [tRM]
    · rw [List.getElem?_eq_none (by simpa using hi), List.getElem?_eq_none (by rw [mdF_length]; omega)]
  · have h0 := (h.cell hj (show 0 < 2 by decide)).1
    have h1 := (h.cell hj (show 1 < 2 by decide)).1
    exact ⟨g, 0, rfl, by simpa [encRM] using h0, by simpa [encRM] using h1⟩
theorem holds_own {w : World} {base e g cap : Nat} {L : List (ByteArray × ByteArray)} {d : Array RM} (hd : d.toList.map (·.1) = L) (h : w.ownsRow base e 2 (.slice (some ⟨g, 0, none⟩) L.length cap) L.length (mdVs L)) : HoldsK encRM 2 w g 0 d := by
  have hs : d.size = L.length := by rw [← hd]; simp
  rcases h.2 with ⟨h2, _⟩ | ⟨g', c', cur, e1, _, hg, hn, _, hcs, ht⟩
  · cases h2
  · injection e1 with e1 _ e2
    injection e1 with e1
    injection e1 with e1
    subst e1 e2
    intro j hj
    rw [size_flatK] at hj
    have hjl : j < (mdVs L).length := by rw [mdVs_length]; omega
    have hcur : j < cur.size := by rw [hcs]; omega
    have e3 : cur[j]? = (mdVs L)[j]? := by
      rw [← ht, List.getElem?_take, if_pos (by omega)]
      simp
    rw [get_flatK _ _ _ _ hj]
    have e4 : (mdVs L)[j]? = some ((encRM d[j / 2]!)[j % 2]!) := by
      have hget : L[j / 2]? = some (d[j / 2]!).1 := by
        have h2 : j / 2 < d.size := by omega
        rw [← hd, List.getElem?_map, List.getElem?_eq_getElem (by simpa using h2), getElem!_pos d _ h2]
        simp
      obtain ⟨q0, q1⟩ := mdVs_get hget
      rcases Nat.mod_two_eq_zero_or_one j with h2 | h2
      · rw [show j / 2 * 2 = j by omega] at q0
        rw [q0, h2]; rfl
      · rw [show j / 2 * 2 + 1 = j by omega] at q1
        rw [q1, h2]; rfl
    refine ⟨?_, ?_⟩
    · rw [Nat.zero_add, cell_of_row w g j cur e (0, 0) hg, e3, e4]; rfl
    · simp [World.frozen?, hg]
theorem sortM_calls (ks : List Nat) (A : Nat → Addr) (w0 w : World) (hE : EnvP ks A w0) (base : Nat) (x : Value) (L : List (ByteArray × ByteArray)) (hB : Below w0.heap.size w0 w) (hb : w0.heap.size ≤ base) (ho : w.ownsRow base 38 2 x L.length (mdVs L)) (hL : ∀ m ∈ L, OkM m) (hsz : L.length ≤ 1000000) :
    Calls Tryz.prog 55 #[x, .func (.func 56) #[] #[]] w fun e w' => e = .returned (.tuple #[]) ∧ (∃ l' : List Md, ModsAt w' x l' ∧ l'.Perm (mdTs L) ∧ l'.Pairwise fun a b => modCmp a b ≤ 0) ∧ Below w0.heap.size w0 w' := by
  rcases ho.2 with ⟨rfl, h0⟩ | ⟨g, cap, cur, rfl, hbg, hg, hn, hm, hcs, ht⟩
  · have : L = [] := List.eq_nil_of_length_eq_zero h0
    subst this
    refine (AnyF.slices_SortFunc_none laysSortM none 0 _ w).mono ?_
    rintro e w' ⟨rfl, rfl⟩
    exact ⟨rfl, ⟨[], ModsAt.nil _, List.Perm.refl _, List.Pairwise.nil⟩, hB⟩
  · obtain ⟨m, hd⟩ := map_subM L hL
    have hd' : (m.toArray).toList.map (·.1) = L := by simpa using hd
    have hH := holds_own (d := m.toArray) hd' ho
    have hms : m.toArray.size = L.length := by rw [← hd]; simp
    have hgw : g < w.heap.size := (Array.getElem?_eq_some_iff.1 hg).1
    have hcmp : CmpLays Tryz.prog 56 #[] encRM 2 cmpRM g 0 m.toArray.size w := by
      intro n os dk hs a b
      refine (modCompareD ks A a.1.1 a.1.2 b.1.1 b.1.2 _ (hE.below (below_sortWK hB (Nat.le_refl _) (by omega) 0 n dk os)) a.2.2 b.2.2 a.2.1 b.2.1).mono ?_
      rintro e w' ⟨rfl, hb⟩
      exact ⟨rfl, hb.grown⟩
    have h := AnyQ.slices_SortFunc laysSortM 2 Tryz.isAgg38 Tryz.sizeOf38 encRM encRM_len encRM_one cmpRM (swo_of cmpRM_ord) 56 #[] g 0 cap m.toArray w (Go.Proofs.enters_of Tryz.func56 (by kernel_rfl) rfl) hcmp hH hgw (by omega)
    rw [hms] at h
    refine h.mono ?_
    rintro e w' ⟨rfl, d', n, os, hp, hs, rfl⟩
    obtain ⟨hp1, _, hp3⟩ := hp
    have hH2 : HoldsK encRM 2 (sortWorldK encRM 2 w g 0 n d' os) g 0 d' := holdsK_sortWorldK_c encRM 2 w g 0 m.toArray d' n os hH hgw hp1
    refine ⟨rfl, ⟨d'.toList.map tRM, ?_, ?_, ?_⟩, below_sortWK hB (Nat.le_refl _) (by omega) 0 n d' os⟩
    · have := modsAt_holds (cap := cap) hH2 (by omega) (by unfold maxLen at hm; exact hm)
      rw [hp1, hms] at this
      exact this
    · have hpm := hp3
      rw [Array.extract_eq_self_of_le (show d'.size ≤ L.length by omega), Array.extract_eq_self_of_le (show m.toArray.size ≤ L.length by omega)] at hpm
      rw [← hd]
      unfold mdTs
      rw [List.map_map]
      exact hpm.map tRM
    · rw [List.pairwise_map, List.pairwise_iff_getElem]
      intro i j hi hj hij
      have hj' : j < d'.size := by simpa using hj
      have h1 := hs i j (Nat.zero_le _) hij (by omega)
      unfold ltOf at h1
      rw [decide_eq_false_iff_not, getElem!_pos d' i (by omega), getElem!_pos d' j hj'] at h1
      have := cmpRM_ord.anti d'[i] d'[j]
      have := cmpRM_ord.anti d'[j] d'[i]
      show cmpRM d'.toList[i] d'.toList[j] ≤ 0
      rw [Array.getElem_toList, Array.getElem_toList]
      omega
end Go.Proofs.Pw

namespace Go.Proofs.Pw
open Go.RowKit
open Go.Lib hiding intOf
noncomputable def reachR (l : List En) (roots : List Md) : List Md := if (startErr l roots).1 = 0 then reachL l roots else []
theorem rises_le {l : List Md} (h : l.Pairwise fun a b => modCmp a b ≤ 0) (hn : l.Nodup) (hr : ∀ m ∈ l, mdErr m = 0) : Rises modCmp l := by
  unfold Rises
  have h2 := h.and hn
  refine List.Pairwise.imp_of_mem ?_ h2
  intro a b ha hb ⟨h3, h4⟩
  rcases Int.lt_or_eq_of_le h3 with h5 | h5
  · exact h5
  · exact absurd (modCmp_zero (hr a ha) (hr b hb) h5) h4
theorem RightI.small {l : List En} (h : RightI l) {e : En} (he : e ∈ l) : e.reqs.length ≤ 20 := by
  have h1 := h.reqs e he
  unfold reqsErr at h1
  by_cases h2 : 20 < e.reqs.length
  · rw [if_pos h2] at h1; cases h1
  · omega
theorem mdTs_keys (S : List (MB × MB)) : mdTs (S.map (·.1)) = (cameOf S).map (·.1) := by
  unfold mdTs cameOf
  rw [List.map_map, List.map_map]
  rfl
theorem came_ok {l : List En} {roots : List Md} {S : List (MB × MB)} (hG : RightG l roots) (hs : ShortI l) (hS : cameOf S = walkS l roots) : ∀ m ∈ S.map (·.1), OkM m := by
  intro m hm
  have h1 := cameOf_mem.2 hm
  rw [hS] at h1
  have h2 := (walkS_mem hG _).1 h1
  obtain ⟨e, he, e1⟩ := hG.entry h2
  have h3 := hs.mds e he
  rw [e1] at h3
  refine ⟨(modErr_zero (hG.right h2)).2, ?_⟩
  rw [size_eq]
  exact Nat.le_trans h3.2 (by decide)
theorem walk_sorted {l : List En} {roots l' : List Md} {S : List (MB × MB)} (hG : RightG l roots) (hS : cameOf S = walkS l roots) (hp : l'.Perm (mdTs (S.map (·.1)))) (hl : l'.Pairwise fun a b => modCmp a b ≤ 0) : l' = reachL l roots := by
  have hm : ∀ m, m ∈ l' ↔ Reached l roots m := fun m => by
    rw [hp.mem_iff, mdTs_keys, hS, walkS_mem hG]
  have hn : l'.Nodup := by
    rw [hp.nodup_iff, mdTs_keys, hS]
    exact (walkS_walked hG).nd
  exact hG.is (rises_le hl hn (fun m h => hG.right ((hm m).1 h))) hm
set_option maxHeartbeats 4000000 in
set_option maxRecDepth 100000 in
theorem grReach_in (ks : List Nat) (A : Nat → Addr) (hks : IdxKs ks) (a : Option Addr) (n cap : Nat) (P V : Nat → ByteArray) (R : Nat → List Md) (K : Nat → List Str) (Bk : Nat → Bool) (Rv Kv : Nat → Value) (rv : Value) (roots : List Md) (w : World) (hE : EnvP ks A w) (h : EntsIn w a n cap P V R K Bk Rv Kv) (hs : ShortI (enF n P V R K Bk)) (hr : ModsAt w rv roots) (hl : roots.length ≤ 100000) :
    Calls Tryz.prog 22 #[.slice a n cap, rv] w fun e w' => (∃ x ev, e = .returned (.tuple #[x, ev]) ∧ FaultAt A w' ev (startErr (enF n P V R K Bk) roots) ∧ ModsAt w' x (reachR (enF n P V R K Bk) roots)) ∧ Below w.heap.size w w' := by
  have hst := grStart_in ks A hks a n cap P V R K Bk Rv Kv rv roots w hE h hs hr (by omega)
  have H := Lib.hid h
  have HS := Lib.hid hs
  have HE := Lib.hid hE
  obtain ⟨ar, rn, rc, _, _, rfl, _⟩ := id hr
  have HR := Lib.hid hr
  replace hst := Lib.hid hst
  clear h hs hE hr
  go_enter Tryz.func22, Tryz.ntmps22
  go_wp2_with fail
  refine hst.out.mono ?_
  rintro e w1 ⟨⟨v, rfl, hv⟩, hB⟩
  clear hst
  rcases fault_form hv with ⟨h0, rfl⟩ | ⟨h0, ty, q, rfl⟩
  · have hG := rightG_of h0
    have hn : n ≤ 100 := by have := hG.idx.len; rwa [enF_length] at this
    have hRj : ∀ j, j < n → (R j).length ≤ 1000 := fun j hj => by
      have h2 := hG.idx.small (List.mem_of_getElem? (enF_get n P V R K Bk j hj))
      have h3 : (R j).length ≤ 20 := h2
      omega
    have hwk := grWalk_in a n cap P V R K Bk Rv Kv (.slice ar rn rc) roots w1 (H.out.below hB) (HR.out.below hB) hl (by omega) hRj hG
    have h00 := startErr_at h0
    have HG := Lib.hid hG
    have H0 := Lib.hid h00
    replace hwk := Lib.hid hwk
    clear hG h00 h0 hv hRj hn
    go_wp2_with fail
    refine hwk.out.mono ?_
    rintro e w2 ⟨⟨x, S, rfl, hGo, hS⟩, hb2⟩
    have hB2 := below_step hB hb2
    have hSl : (S.map (·.1)).length ≤ 1000000 := by
      have h1 := (walkS_walked HG.out).len HG.out
      rw [← hS, cameOf_length, enF_length] at h1
      have h2 := HG.out.idx.len
      rw [enF_length] at h2
      rw [List.length_map]; omega
    have hso := sortM_calls ks A w w2 HE.out (w1.heap.size + 3) x (S.map (·.1)) hB2 (by have := hB.size; omega) hGo.own (came_ok HG.out HS.out hS) hSl
    obtain ⟨ax, nx, cx, rfl⟩ := own_form hGo.own
    have HSS := Lib.hid hS
    replace hso := Lib.hid hso
    clear hwk hGo hS hSl
    go_wp2_with fail
    refine hso.out.mono ?_
    rintro e w3 ⟨rfl, ⟨l', hM, hp, hpw⟩, hB3⟩
    have HM := Lib.hid (And.intro hM (And.intro hp hpw))
    clear hM hp hpw
    go_wp2_with fail
    go_ret2
    refine ⟨⟨_, _, rfl, ?_, ?_⟩, hB3⟩
    · rw [H0.out]; exact .inl ⟨rfl, rfl, rfl⟩
    · unfold reachR
      rw [if_pos (by rw [H0.out]), ← walk_sorted HG.out HSS.out HM.out.2.1 HM.out.2.2]
      exact HM.out.1
  · have HV := Lib.hid hv
    have H0 := Lib.hid h0
    clear hv h0
    go_wp2_with fail
    go_ret2
    refine ⟨⟨_, _, rfl, HV.out, ?_⟩, hB⟩
    unfold reachR
    rw [if_neg H0.out]
    exact ModsAt.nil _
end Go.Proofs.Pw

namespace Go.Proofs.Pw
open Go.RowKit
open Go.Lib hiding intOf
theorem take_snoc (s : ByteArray) (k : Nat) (h : k < s.size) : s.data.toList.take (k + 1) = s.data.toList.take k ++ [s[k]] := by
  rw [List.take_succ_eq_append_getElem (by simpa using h)]; rfl
theorem drop_cons (s : ByteArray) (k : Nat) (h : k < s.size) : s.data.toList.drop k = s[k] :: s.data.toList.drop (k + 1) := by
  rw [List.drop_eq_getElem_cons (by simpa using h)]; rfl
theorem byte_mem (s : ByteArray) (k : Nat) (h : k < s.size) : s[k] ∈ s.data.toList := by
  have : s[k] = s.data.toList[k]'(by simpa using h) := rfl
  rw [this]; exact List.getElem_mem _
theorem take_size (s : ByteArray) : s.data.toList.take s.size = s.data.toList := by rw [size_eq, List.take_length]
theorem drop_size (s : ByteArray) : s.data.toList.drop s.size = [] := by rw [size_eq, List.drop_length]
theorem isDig_no {c : UInt8} (h : (c.toNat : Int) < 48 ∨ 57 < (c.toNat : Int)) : isDig c = false := by unfold isDig; apply decide_eq_false; omega
theorem isDig_yes {c : UInt8} (h1 : ¬ (c.toNat : Int) < 48) (h2 : ¬ 57 < (c.toNat : Int)) : isDig c = true := by unfold isDig; apply decide_eq_true; omega
theorem areDigits_no {s : ByteArray} {k : Nat} (h : k < s.size) (hd : isDig s[k] = false) : areDigits s.data.toList = false := by
  unfold areDigits
  have : s.data.toList.all isDig = false := by
    rw [Bool.eq_false_iff]
    intro e
    have := List.all_eq_true.1 e _ (byte_mem s k h)
    rw [hd] at this
    cases this
  rw [this, Bool.and_false]
theorem areDigits_yes {s : ByteArray} (h : 0 < s.size) (ha : (s.data.toList.take s.size).all isDig = true) : areDigits s.data.toList = true := by
  rw [take_size] at ha
  unfold areDigits
  rw [ha]
  cases e : s.data.toList with
  | nil => rw [size_eq, e] at h; simp at h
  | cons => rfl
theorem areDigits_none {s : ByteArray} (h : s.size = 0) : areDigits s.data.toList = false := by
  have : s.data.toList = [] := List.length_eq_zero_iff.1 (by rw [← size_eq]; exact h)
  rw [this]; rfl
theorem refDigits_calls (s : ByteArray) (w : World) (hs : s.size ≤ 4000000000) :
    Calls Tryz.prog 134 #[.string s] w fun e w' => e = .returned (.bool (areDigits s.data.toList)) ∧ w = w' := by
  go_enter Tryz.func134, Tryz.ntmps134
  go_wp2_with fail
  go_loop [3] (fun i => ∃ k : Nat, k ≤ s.size ∧ i = .int .i64 k ∧ Hid ((s.data.toList.take k).all isDig = true)) (fun i => s.size - (intOf i).toNat)
  case atStart => exact ⟨0, Nat.zero_le _, rfl, Lib.hid rfl⟩
  case round =>
    obtain ⟨k, hk, rfl, HA⟩ := hrel
    by_cases hlt : k < s.size
    · by_cases h1 : (s[k].toNat : Int) < 48
      · have HF := Lib.hid (areDigits_no hlt (isDig_no (.inl h1)))
        go_wp2_with fail
        go_ret
        rw [HF.out]
        exact ⟨rfl, rfl⟩
      · by_cases h2 : 57 < (s[k].toNat : Int)
        · have HF := Lib.hid (areDigits_no hlt (isDig_no (.inr h2)))
          go_wp2_with fail
          go_ret
          rw [HF.out]
          exact ⟨rfl, rfl⟩
        · have HN : Hid ((s.data.toList.take (k + 1)).all isDig = true) := Lib.hid (by rw [take_snoc s k hlt, List.all_append, HA.out]; simp [isDig_yes h1 h2])
          go_wp2_with fail
          go_round
          case rel => exact ⟨k + 1, by omega, by go_num, HN⟩
          case measure => simp [intOf]; omega
    · obtain rfl : k = s.size := by omega
      by_cases h0 : 0 < s.size
      · have HF := Lib.hid (areDigits_yes h0 HA.out)
        go_wp2_with fail
        go_ret
        rw [HF.out]
        exact ⟨rfl, rfl⟩
      · have HF := Lib.hid (areDigits_none (s := s) (by omega))
        go_wp2_with fail
        go_ret
        rw [HF.out]
        exact ⟨rfl, rfl⟩
theorem decVal_bound {l : Str} (h : l.all isDig = true) (h6 : l.length ≤ 6) : decVal l ≤ 999999 := by
  have h1 := decVal_lt l h
  have := Nat.pow_le_pow_right (n := 10) (by decide) h6
  omega
set_option maxHeartbeats 400000 in
theorem refNumber_calls (s : ByteArray) (w : World) (hs : s.size ≤ 4000000000) :
    Calls Tryz.prog 133 #[.string s] w fun e w' => e = .returned (.tuple #[.int .i64 ((numberOf s.data.toList).1 : Nat), .int .i64 ((numberOf s.data.toList).2 : Nat)]) ∧ w = w' := by
  cases hd : areDigits s.data.toList with
  | false =>
    have HF := Lib.hid (numberOf_text (s := s.data.toList) (.inl hd))
    have HD := Lib.hid hd
    clear hd
    go_enter Tryz.func133, Tryz.ntmps133
    go_wp2_with fail
    refine (refDigits_calls s w hs).mono ?_
    rintro e w' ⟨rfl, rfl⟩
    rw [HD.out]
    go_wp2_with fail
    go_ret2
    rw [HF.out]
    exact ⟨rfl, rfl⟩
  | true =>
    have HD := Lib.hid hd
    have hall : s.data.toList.all isDig = true := by
      unfold areDigits at hd; simp only [Bool.and_eq_true] at hd; exact hd.2
    have hne : 0 < s.size := by
      rw [size_eq]
      cases hsd : s.data.toList with
      | nil => rw [hsd] at hd; simp [areDigits] at hd
      | cons c r => simp
    have h0 : s.data.toList.head? = some (s[0]'hne) := by
      rw [List.head?_eq_getElem?, List.getElem?_eq_getElem (by rw [← size_eq]; omega)]; rfl
    have HA := Lib.hid hall
    by_cases hz : 1 < s.size ∧ s[0]'hne = 48
    · have HF := Lib.hid (numberOf_text (s := s.data.toList) (.inr ⟨by rw [← size_eq]; exact hz.1, by rw [h0, hz.2]⟩))
      have h1 := hz.1
      have h2 : ((s[0]'hne).toNat : Int) = 48 := by rw [hz.2]; rfl
      clear hd hall h0 hz
      go_enter Tryz.func133, Tryz.ntmps133
      go_wp2_with fail
      refine (refDigits_calls s w hs).mono ?_
      rintro e w' ⟨rfl, rfl⟩
      rw [HD.out]
      go_wp2_with fail
      go_ret2
      rw [HF.out]
      exact ⟨rfl, rfl⟩
    · have hz2 : ¬ (1 < s.data.toList.length ∧ s.data.toList.head? = some 48) := by
        rw [← size_eq, h0]
        rintro ⟨h1, h2⟩
        exact hz ⟨h1, Option.some.inj h2⟩
      have hnot : ¬ (areDigits s.data.toList = false ∨ (1 < s.data.toList.length ∧ s.data.toList.head? = some 48)) := by
        rintro (h | h)
        · rw [hd] at h; cases h
        · exact hz2 h
      have h01 : (1 < s.size ∧ (((s[0]'hne).toNat : Int) == 48) = false) ∨ ¬ 1 < s.size := by
        by_cases h1 : 1 < s.size
        · refine .inl ⟨h1, ?_⟩
          rw [beq_eq_false_iff_ne]
          intro e
          refine hz ⟨h1, ?_⟩
          have : (s[0]'hne).toNat = 48 := by exact_mod_cast e
          rw [show (48 : UInt8) = UInt8.ofNat 48 from rfl, ← this, UInt8.ofNat_toNat]
        · exact .inr h1
      by_cases h6 : 6 < s.size
      · have HF := Lib.hid (numberOf_long hnot (by rw [← size_eq]; exact h6))
        obtain ⟨h1, h2⟩ := h01.resolve_right (by omega)
        clear hd hall h0 hz hz2 hnot
        go_enter Tryz.func133, Tryz.ntmps133
        go_wp2_with fail
        refine (refDigits_calls s w hs).mono ?_
        rintro e w' ⟨rfl, rfl⟩
        rw [HD.out]
        go_wp2_with fail
        go_ret2
        rw [HF.out]
        exact ⟨rfl, rfl⟩
      · have HF := Lib.hid (numberOf_ok hnot (by rw [← size_eq]; exact h6))
        clear hd hall h0 hz hz2 hnot
        rcases h01 with ⟨h1, h2⟩ | h1
        all_goals
          go_enter Tryz.func133, Tryz.ntmps133
          go_wp2_with fail
          refine (refDigits_calls s w hs).mono ?_
          rintro e w' ⟨rfl, rfl⟩
          rw [HD.out]
          go_wp2_with fail
          go_loop [5, 6] (fun n i => ∃ k : Nat, k ≤ s.size ∧ i = .int .i64 k ∧ n = .int .i64 (decVal (s.data.toList.take k) : Nat)) (fun _ i => s.size - (intOf i).toNat)
          case atStart => exact ⟨0, Nat.zero_le _, rfl, rfl⟩
          case' round =>
            obtain ⟨k, hk, rfl, rfl⟩ := hrel
            by_cases hlt : k < s.size
            case' pos =>
              have hc := dig_lt (List.all_eq_true.1 HA.out _ (byte_mem s k hlt))
              have hall : (s.data.toList.take k).all isDig = true := List.all_eq_true.2 fun c hc => List.all_eq_true.1 HA.out c (List.mem_of_mem_take hc)
              have hb := decVal_bound hall (by rw [List.length_take]; omega)
              have HN : Hid (decVal (s.data.toList.take (k + 1)) = 10 * decVal (s.data.toList.take k) + (s[k].toNat - 48)) := Lib.hid (by rw [take_snoc s k hlt, decVal_snoc])
              have hc1 : (s[k].toNat : Int) - 48 ≤ 9 := by omega
              have hc2 : 48 ≤ (s[k].toNat : Int) := by omega
              generalize decVal (s.data.toList.take k) = v at hb HN ⊢
              clear hc hall
              go_wp2_with fail
              go_round
              case rel => exact ⟨k + 1, by omega, by go_num, by rw [HN.out]; go_num⟩
              case measure => simp [intOf]; omega
            case' neg =>
              obtain rfl : k = s.size := by omega
              have HT := Lib.hid (take_size s)
              go_wp2_with fail
              go_ret2
              rw [HF.out, HT.out]
              exact ⟨rfl, rfl⟩
end Go.Proofs.Pw

namespace Go.Proofs.Pw
open Go.RowKit
open Go.Lib hiding intOf
theorem Tryz.infoString : (Tryz.prog.info? 9).map (fun i => (i.zero, i.size, i.bytes)) = some (some (.string ⟨#[]⟩), 1, 16) := by kernel_rfl
def strVs (l : List ByteArray) : List Value := l.map Value.string
def strTs (l : List ByteArray) : List Str := l.map (·.data.toList)
theorem strTs_length (l) : (strTs l).length = l.length := List.length_map ..
theorem strVs_length (l) : (strVs l).length = l.length := List.length_map ..
theorem strVs_snoc (l : List ByteArray) (x : ByteArray) : strVs l ++ [.string x] = strVs (l ++ [x]) := by simp [strVs]
theorem strTs_snoc (l : List ByteArray) (x : ByteArray) : strTs (l ++ [x]) = strTs l ++ [x.data.toList] := by simp [strTs]
theorem lstF_list (l : List ByteArray) : lstF l.length (fun j => l.getD j ByteArray.empty) = strTs l := by
  apply List.ext_getElem
  · simp [lstF_length, strTs]
  · intro i h1 h2
    simp only [strTs, List.length_map] at h2
    simp [lstF, strTs, List.getD_eq_getElem?_getD, List.getElem?_eq_getElem h2]
theorem strsAt_own {w : World} {base e : Nat} {v : Value} {l : List ByteArray} (h : w.ownsRow base e 1 v l.length (strVs l)) : StrsAt w v (strTs l) := by
  rcases h.2 with ⟨rfl, h0⟩ | ⟨g, cap, cur, rfl, hb, hg, hn, hm, hs, ht⟩
  · have : l = [] := List.eq_nil_of_length_eq_zero h0
    subst this
    exact StrsAt.nil w
  · refine ⟨_, l.length, cap, fun j => l.getD j ByteArray.empty, rfl, (lstF_list l).symm, hn, by unfold maxLen at hm; exact hm, fun j hj => ⟨g, 0, rfl, ?_⟩⟩
    rw [Nat.zero_add, cell_of_row w g j cur e (0, 0) hg]
    have h1 : (strVs l)[j]? = some (.string (l.getD j ByteArray.empty)) := by
      simp [strVs, List.getD_eq_getElem?_getD, List.getElem?_eq_getElem hj]
    rw [← ht, List.getElem?_take, if_pos (by omega)] at h1
    simpa using h1
def NewRow (w : World) (v : Value) : Prop := ∀ q n c, v = .slice (some q) n c → w.heap.size ≤ q.block
theorem newRow_own {w w' : World} {e k n : Nat} {v : Value} {xs : List Value} (h : w'.ownsRow w.heap.size e k v n xs) : NewRow w v := by
  rintro q m c rfl
  exact (h.lt q.block rfl).1
theorem extract_take_drop (s : ByteArray) (g k : Nat) (_hk : k ≤ s.size) : (s.extract g k).data.toList = (s.data.toList.take k).drop g := by
  rw [extract_data, List.drop_take]
theorem cutAt_step (c : UInt8) (s : ByteArray) (k g : Nat) (hlt : k < s.size) (hg : g ≤ k) :
    cutAt c ((s.data.toList.take k).drop g) (s.data.toList.drop k) = if s[k] = c then (s.extract g k).data.toList :: cutAt c ((s.data.toList.take (k + 1)).drop (k + 1)) (s.data.toList.drop (k + 1)) else cutAt c ((s.data.toList.take (k + 1)).drop g) (s.data.toList.drop (k + 1)) := by
  have e1 : (s.data.toList.take (k + 1)).drop (k + 1) = [] := List.drop_eq_nil_of_le (by rw [List.length_take]; omega)
  have e2 : (s.data.toList.take (k + 1)).drop g = (s.data.toList.take k).drop g ++ [s[k]] := by
    rw [take_snoc s k hlt, List.drop_append_of_le_length (by rw [List.length_take, ← size_eq]; omega)]
  rw [drop_cons s k hlt, cutAt, extract_take_drop s g k (by omega), e1, e2]
set_option maxHeartbeats 400000 in
theorem refCut_calls (s : ByteArray) (c : UInt8) (w : World) (hs : s.size ≤ 1000000000) :
    Calls Tryz.prog 131 #[.string s, .int .u8 c.toNat] w fun e w' => (∃ v, e = .returned v ∧ StrsAt w' v (split s.data.toList [c]) ∧ NewRow w v) ∧ Below w.heap.size w w' := by
  obtain ⟨i0, hi, hz0, hz1, hz2⟩ := info_parts Tryz.infoString
  go_enter Tryz.func131, Tryz.ntmps131
  go_wp2_with fail
  go_loopw [5, 6, 7] (fun v f i wr => ∃ (k g : Nat) (P : List ByteArray), k ≤ s.size ∧ g ≤ k ∧ P.length ≤ k ∧ i = .int .i64 k ∧ f = .int .i64 g ∧ wr.ownsRow w.heap.size 9 1 v P.length (strVs P) ∧ Below w.heap.size w wr ∧ Hid (split s.data.toList [c] = strTs P ++ cutAt c ((s.data.toList.take k).drop g) (s.data.toList.drop k))) (fun _ _ i _ => s.size - (intOf i).toNat)
  case atStart => exact ⟨0, 0, [], Nat.zero_le _, Nat.le_refl _, Nat.le_refl _, rfl, rfl, World.ownsRow_nil _ _ _ _, Below.refl _ _, Lib.hid (split_eq c s.data.toList)⟩
  case round =>
    obtain ⟨k, g, P, hk, hg, hP, rfl, rfl, hown, hb, HC⟩ := hrel
    by_cases hlt : k < s.size
    · have hst := cutAt_step c s k g hlt hg
      by_cases hc : s[k] = c
      · rw [if_pos hc] at hst
        have hq : ((s[k].toNat : Int) == (c.toNat : Int)) = true := by rw [hc]; simp
        have HN : Hid (split s.data.toList [c] = strTs (P ++ [s.extract g k]) ++ cutAt c ((s.data.toList.take (k + 1)).drop (k + 1)) (s.data.toList.drop (k + 1))) := Lib.hid (by rw [HC.out, hst, strTs_snoc]; simp)
        have hc2 : (s[k].toNat : Int) = c.toNat := by rw [hc]
        clear hst hc
        go_wp2_with (at_builtin; refine wpList_append_own _ rfl _ _ 41 rfl w.heap.size 9 i0 (.string ⟨#[]⟩) 1 16 Tryz.underlying41 hi hz0 hz1 hz2 rfl (by decide) _ _ _ rfl (hown.alloc _) ⟨wr.heap.size, 0, none⟩ 1 1 [.string (s.extract g k)] rfl rfl (cell_one_new _ _ _) (fun x hx => by simp at hx; subst hx; rfl) (by unfold maxLen; omega) (by omega) (by have := hb.size; simp; omega) ?_; intro v' w1 hown1 hgrow1 _)
        go_roundw
        case rel =>
          refine ⟨k + 1, k + 1, P ++ [s.extract g k], by omega, Nat.le_refl _, by simp; omega, by go_num, by go_num, ?_, ?_, HN⟩
          · rw [← strVs_snoc, List.length_append]; exact hown1
          · exact (hb.alloc hb.size _).grown hgrow1 (by have := hb.size; simp; omega) (fun q hq => (hown.lt q hq).1)
        case measure => simp [intOf]; omega
      · rw [if_neg hc] at hst
        have hq : ((s[k].toNat : Int) == (c.toNat : Int)) = false := beq_eq_false_iff_ne.2 (fun e => hc (UInt8.toNat_inj.1 (by exact_mod_cast e)))
        have HN := Lib.hid (HC.out.trans (congrArg (strTs P ++ ·) hst))
        clear hst hc
        go_wp2_with fail
        go_roundw
        case rel => exact ⟨k + 1, g, P, by omega, by omega, by omega, by go_num, rfl, hown, hb, HN⟩
        case measure => simp [intOf]; omega
    · obtain rfl : k = s.size := by omega
      have HN : Hid (split s.data.toList [c] = strTs (P ++ [s.extract g s.size])) := Lib.hid (by
        rw [HC.out, drop_size, cutAt, strTs_snoc, take_size, extract_to_end])
      go_wp2_with (at_builtin; refine wpList_append_own _ rfl _ _ 41 rfl w.heap.size 9 i0 (.string ⟨#[]⟩) 1 16 Tryz.underlying41 hi hz0 hz1 hz2 rfl (by decide) _ _ _ rfl (hown.alloc _) ⟨wr.heap.size, 0, none⟩ 1 1 [.string (s.extract g s.size)] rfl rfl (cell_one_new _ _ _) (fun x hx => by simp at hx; subst hx; rfl) (by unfold maxLen; omega) (by omega) (by have := hb.size; simp; omega) ?_; intro v' w1 hown1 hgrow1 _)
      go_ret
      rw [HN.out]
      refine ⟨⟨v', rfl, strsAt_own (base := w.heap.size) (e := 9) ?_, newRow_own hown1⟩, (hb.alloc hb.size _).grown hgrow1 (by have := hb.size; simp; omega) (fun q hq => (hown.lt q hq).1)⟩
      rw [← strVs_snoc, List.length_append]; exact hown1
theorem bytes_ext {a b : ByteArray} : a.data.toList = b.data.toList ↔ a = b := ⟨fun h => by
  apply ByteArray.ext; apply Array.ext'; exact h, fun h => by rw [h]⟩
end Go.Proofs.Pw

namespace Go.Proofs.Pw
open Go.RowKit
open Go.Lib hiding intOf
set_option maxRecDepth 100000 in
theorem app_strs (w : World) (base : Nat) (hb : base ≤ w.heap.size) (v : Value) (l : List Str) (h : StrsAt w v l) (hl : l.length ≤ 1000000) :
    ∃ kv w', (Builtin.append_ #[41, 41] 41 #[.slice none 0 0, v]).run Tryz.prog w = .ok kv w' ∧ (∃ T, l = strTs T ∧ w'.ownsRow base 9 1 kv T.length (strVs T)) ∧ w.grownBy w' none := by
  obtain ⟨i0, hi, hz0, hz1, hz2⟩ := info_parts Tryz.infoString
  obtain ⟨a, n, cap, L, rfl, rfl, hnc, hcap, hc⟩ := h
  rw [lstF_length] at hl
  cases a with
  | none =>
    have hn0 : n = 0 := by
      rcases Nat.eq_zero_or_pos n with h | h
      · exact h
      · obtain ⟨b, o, e, _⟩ := hc 0 h
        cases e
    subst hn0
    exact ⟨_, w, run_append_nothing (P := Tryz.prog) w 41 41 41 9 i0 Tryz.underlying41 hi none 0 0 (Nat.le_refl _) (.slice none 0 cap) (Src.ofNil w Tryz.underlying41 cap), ⟨[], rfl, World.ownsRow_nil _ _ _ _⟩, World.grownBy.refl _ _⟩
  | some a =>
    have hnews : ∀ j u, (strVs ((List.range n).map L))[j]? = some u → w.cell? (a.add j) = some u := by
      intro j u hu
      have hj : j < n := by
        have := (List.getElem?_eq_some_iff.1 hu).1
        simpa [strVs] using this
      obtain ⟨b, o, e, h1⟩ := hc j hj
      injection e with e
      subst e
      have hu2 : u = .string (L j) := by
        simp [strVs, hj] at hu
        exact hu.symm
      rw [hu2, show (⟨b, o, none⟩ : Addr).add j = ⟨b, o + j, none⟩ from by unfold Addr.add; split <;> simp_all]
      exact h1
    obtain ⟨kv, w', h1, h2, h3, _⟩ := run_append_own (P := Tryz.prog) w base 41 41 9 i0 (.string ⟨#[]⟩) 1 16 Tryz.underlying41 hi hz0 hz1 hz2 rfl (by decide) (.slice none 0 0) 0 [] (World.ownsRow_nil _ _ _ _) a n cap (strVs ((List.range n).map L)) (by simp [strVs]) hnews (fun u hu => by
      simp [strVs] at hu
      obtain ⟨_, _, rfl⟩ := hu
      rfl) (by unfold maxLen; omega) (by omega) hb
    refine ⟨kv, w', h1, ⟨(List.range n).map L, by simp [strTs, lstF], ?_⟩, h3⟩
    simpa using h2
def ec (P V : Nat → ByteArray) (Rv Kv : Nat → Value) (B : Nat → Bool) (j : Nat) : List Value := [.string (P j), .string (V j), Rv j, Kv j, .bool (B j)]
def enVs (P V : Nat → ByteArray) (Rv Kv : Nat → Value) (B : Nat → Bool) (k : Nat) : List Value := (List.range k).flatMap (ec P V Rv Kv B)
theorem enVs_succ (P V Rv Kv B k) : enVs P V Rv Kv B (k + 1) = enVs P V Rv Kv B k ++ ec P V Rv Kv B k := by
  unfold enVs
  rw [List.range_succ, List.flatMap_append]
  simp
theorem enVs_length (P V Rv Kv B) : ∀ k, (enVs P V Rv Kv B k).length = k * 5
  | 0 => rfl
  | k + 1 => by rw [enVs_succ, List.length_append, enVs_length]; simp [ec]; omega
theorem enVs_get (P V Rv Kv B) : ∀ (k j c : Nat), j < k → c < 5 → (enVs P V Rv Kv B k)[j * 5 + c]? = (ec P V Rv Kv B j)[c]?
  | 0, j, c, h, _ => absurd h (Nat.not_lt_zero _)
  | k + 1, j, c, h, hc => by
    rw [enVs_succ]
    by_cases e : j = k
    · subst e
      rw [List.getElem?_append_right (by rw [enVs_length]; omega), enVs_length]
      congr 1; omega
    · rw [List.getElem?_append_left (by rw [enVs_length]; omega)]
      exact enVs_get P V Rv Kv B k j c (by omega) hc
theorem enVs_cong {P V : Nat → ByteArray} {Rv Kv Rv' Kv' : Nat → Value} {B : Nat → Bool} : ∀ {k : Nat}, (∀ j, j < k → Rv j = Rv' j ∧ Kv j = Kv' j) → enVs P V Rv Kv B k = enVs P V Rv' Kv' B k
  | 0, _ => rfl
  | k + 1, h => by
    rw [enVs_succ, enVs_succ, enVs_cong (k := k) (fun j hj => h j (by omega))]
    unfold ec
    rw [(h k (by omega)).1, (h k (by omega)).2]
structure RowsE (w : World) (base k : Nat) (R : Nat → List Md) (K : Nat → List Str) (Rv Kv : Nat → Value) : Prop where
  r : ∀ j, j < k → ∃ M, R j = mdTs M ∧ w.ownsRow base 38 2 (Rv j) M.length (mdVs M)
  s : ∀ j, j < k → ∃ T, K j = strTs T ∧ w.ownsRow base 9 1 (Kv j) T.length (strVs T)
theorem tag_apart {w : World} {b b' s s' m m' : Nat} {e e' : TypeId} {u o : Value} {xs ys : List Value} (h : w.ownsRow b e s u m xs) (h2 : w.ownsRow b' e' s' o m' ys) (hne : e ≠ e') : u.ownBlock = none ∨ u.ownBlock ≠ o.ownBlock := by
  refine apart_row fun g hg hu => ?_
  rcases h.2 with ⟨rfl, _⟩ | ⟨g1, c1, cur1, rfl, _, k1, _⟩
  · cases hu
  · rcases h2.2 with ⟨rfl, _⟩ | ⟨g2, c2, cur2, rfl, _, k2, _⟩
    · cases hg
    · have e1 : g1 = g := Option.some.inj hu
      have e2 : g2 = g := Option.some.inj hg
      subst e1 e2
      rw [k1] at k2
      injection k2 with k2
      injection k2 with _ k3 _
      exact hne k3
theorem entsAt_own {w : World} {base n : Nat} {e : TypeId} {v : Value} {P V : Nat → ByteArray} {R : Nat → List Md} {K : Nat → List Str} {B : Nat → Bool} {Rv Kv : Nat → Value} (h : w.ownsRow base e 5 v n (enVs P V Rv Kv B n)) (hr : RowsE w base n R K Rv Kv) : EntsAt w v (enF n P V R K B) := by
  have hR : ∀ j, j < n → ModsAt w (Rv j) (R j) := fun j hj => by
    obtain ⟨M, e1, h1⟩ := hr.r j hj
    rw [e1]; exact modsAt_own h1
  have hK : ∀ j, j < n → StrsAt w (Kv j) (K j) := fun j hj => by
    obtain ⟨T, e1, h1⟩ := hr.s j hj
    rw [e1]; exact strsAt_own h1
  rcases h.2 with ⟨rfl, h0⟩ | ⟨g, cap, cur, rfl, hb, hg, hn, hm, hs, ht⟩
  · subst h0
    exact EntsAt.nil w
  · refine ⟨some ⟨g, 0, none⟩, n, cap, P, V, R, K, B, Rv, Kv, rfl, rfl, hn, by unfold maxLen at hm; exact hm, fun j hj => ⟨g, 0, rfl, ?_⟩, hR, hK⟩
    have hcell : ∀ c u, c < 5 → (ec P V Rv Kv B j)[c]? = some u → w.cell? ⟨g, 0 + j * 5 + c, none⟩ = some u := fun c u hc hu => by
      rw [← enVs_get P V Rv Kv B n j c hj hc, ← ht, List.getElem?_take, if_pos (by omega)] at hu
      rw [Nat.zero_add, cell_of_row w g _ cur e (0, 0) hg]
      simpa using hu
    exact ⟨hcell 0 _ (by decide) rfl, hcell 1 _ (by decide) rfl, hcell 2 _ (by decide) rfl, hcell 3 _ (by decide) rfl, hcell 4 _ (by decide) rfl⟩
theorem EntsIn.forms2 {w : World} {a n cap P V R K B Rv Kv} (h : EntsIn w a n cap P V R K B Rv Kv) {j : Nat} (hj : j < n) : ∃ a1 n1 c1 a2 n2 c2, Rv j = .slice a1 n1 c1 ∧ Kv j = .slice a2 n2 c2 := by
  obtain ⟨a1, n1, c1, _, _, e1, _⟩ := h.reqs j hj
  obtain ⟨a2, n2, c2, _, e2, _⟩ := h.packs j hj
  exact ⟨_, _, _, _, _, _, e1, e2⟩
theorem Tryz.infoEnt : (Tryz.prog.info? 43).map (fun i => (i.zero, i.size, i.bytes)) = some (some (.agg #[.string ⟨#[]⟩, .string ⟨#[]⟩, .slice none 0 0, .slice none 0 0, .bool false]), 5, 88) := by kernel_rfl
theorem wpList_append_run {P : Program} {w : World} {ops : Array Oper} {rest : List Oper} {o : Oper} {a : Act} {Q : Exit → Act → World → Prop} (hgd : o.guard = none) (s x : Operand) (t : TypeId)
    (ho : o.op = .call { callee := .builtin .append, args := #[s, x], argTypes := #[t, t] }) (v y : Value) (hs : a.eval s = v) (hx : a.eval x = y) (v' : Value) (w' : World)
    (hr : (Builtin.append_ #[t, t] o.type #[v, y]).run P w = .ok v' w') (h : wpList P ops Q rest (a.put o.dst v') w') : wpList P ops Q (o :: rest) a w :=
  wpList_plain hgd fun _ hK => by
    unfold Oper.wp execOp
    simp only [ho, resolve, invoke, builtin, Sem.run_bind, Sem.run_pure, Result.andThen_ok, List.map_toArray, List.map_cons, List.map_nil, hs, hx, hr]
    exact hK _ _ h
theorem World.ownsRow.mono_base {w : World} {b b' e s m : Nat} {u : Value} {xs : List Value} (h : w.ownsRow b e s u m xs) (hb : b' ≤ b) : w.ownsRow b' e s u m xs := by
  refine ⟨h.1, ?_⟩
  rcases h.2 with h2 | ⟨g, c, cur, h1, h2, h3⟩
  · exact .inl h2
  · exact .inr ⟨g, c, cur, h1, Nat.le_trans hb h2, h3⟩
theorem grown_none {v : Value} : v.ownBlock = none ∨ v.ownBlock ≠ none := by
  cases v.ownBlock with
  | none => exact .inl rfl
  | some b => exact .inr (fun h => by cases h)
set_option maxHeartbeats 4000000 in
set_option maxRecDepth 100000 in
theorem ownIndex_calls (v : Value) (l : List En) (w : World) (h : EntsAt w v l) (hn : l.length ≤ 1000) (hl : ∀ e ∈ l, e.reqs.length ≤ 100000 ∧ e.packs.length ≤ 100000) :
    Calls Tryz.prog 14 #[v] w fun e w' => (∃ v', e = .returned v' ∧ EntsAt w' v' l) ∧ Below w.heap.size w w' := by
  obtain ⟨i0, hi, hz0, hz1, hz2⟩ := info_parts Tryz.infoEnt
  obtain ⟨a, n, cap, P, V, R, K, B, Rv, Kv, rfl, rfl, hin⟩ := h
  rw [enF_length] at hn
  have H := Lib.hid hin
  have HL : Hid (∀ j, j < n → (R j).length ≤ 100000 ∧ (K j).length ≤ 100000) := Lib.hid (fun j hj => hl _ (List.mem_of_getElem? (enF_get n P V R K B j hj)))
  clear hl hin
  go_enter Tryz.func14, Tryz.ntmps14
  go_wp2_with fail
  go_loopw [3, 4] (fun o i wr => ∃ (k : Nat) (Rv' Kv' : Nat → Value), k ≤ n ∧ i = .int .i64 k ∧ Hid (wr.ownsRow w.heap.size 43 5 o k (enVs P V Rv' Kv' B k)) ∧ Hid (RowsE wr w.heap.size k R K Rv' Kv') ∧ Below w.heap.size w wr) (fun _ i _ => n - (intOf i).toNat)
  case atStart => exact ⟨0, Rv, Kv, Nat.zero_le _, rfl, Lib.hid (World.ownsRow_nil _ _ _ _), Lib.hid ⟨fun j hj => absurd hj (Nat.not_lt_zero _), fun j hj => absurd hj (Nat.not_lt_zero _)⟩, Below.refl _ _⟩
  case round =>
    obtain ⟨k, Rv', Kv', hk, rfl, hO, hRows, hBr⟩ := hrel
    by_cases hlt : k < n
    · have hkn : (k : Int) < (n : Int) := by omega
      obtain ⟨b1, o1, ea, hcell⟩ := (H.out.below hBr).at_ k hlt
      obtain ⟨a1, n1, s1, aK, nK, cK, e1, e2⟩ := H.out.forms2 hlt
      have hM := (H.out.below hBr).reqs k hlt
      have hS := (H.out.below hBr).packs k hlt
      rw [e1, e2] at hcell
      rw [e1] at hM
      rw [e2] at hS
      subst ea
      obtain ⟨c0, c1, c2, c3, c4⟩ := hcell
      have hba := below_alloc wr (.cells #[.string (P k), .string (V k), .slice a1 n1 s1, .slice aK nK cK, .bool (B k)] 43)
      have x0 : (wr.alloc (.cells #[.string (P k), .string (V k), .slice a1 n1 s1, .slice aK nK cK, .bool (B k)] 43)).cell? ⟨wr.heap.size, 0, none⟩ = some (.string (P k)) := by simp
      have x1 : (wr.alloc (.cells #[.string (P k), .string (V k), .slice a1 n1 s1, .slice aK nK cK, .bool (B k)] 43)).cell? ⟨wr.heap.size, 1, none⟩ = some (.string (V k)) := by simp
      have x2 : (wr.alloc (.cells #[.string (P k), .string (V k), .slice a1 n1 s1, .slice aK nK cK, .bool (B k)] 43)).cell? ⟨wr.heap.size, 2, none⟩ = some (.slice a1 n1 s1) := by simp
      have x3 : (wr.alloc (.cells #[.string (P k), .string (V k), .slice a1 n1 s1, .slice aK nK cK, .bool (B k)] 43)).cell? ⟨wr.heap.size, 3, none⟩ = some (.slice aK nK cK) := by simp
      have x4 : (wr.alloc (.cells #[.string (P k), .string (V k), .slice a1 n1 s1, .slice aK nK cK, .bool (B k)] 43)).cell? ⟨wr.heap.size, 4, none⟩ = some (.bool (B k)) := by simp
      have xf : ∀ i, (wr.alloc (.cells #[.string (P k), .string (V k), .slice a1 n1 s1, .slice aK nK cK, .bool (B k)] 43)).frozen? ⟨wr.heap.size, i, none⟩ = false := fun i => by simp
      have hom := ownMods_calls (.slice a1 n1 s1) (R k) (wr.alloc (.cells #[.string (P k), .string (V k), .slice a1 n1 s1, .slice aK nK cK, .bool (B k)] 43)) (hM.below hba) (by have := (HL.out k hlt).1; omega)
      have hszN : (wr.alloc (.cells #[.string (P k), .string (V k), .slice a1 n1 s1, .slice aK nK cK, .bool (B k)] 43)).heap.size = wr.heap.size + 1 := by simp
      replace hom := Lib.hid hom
      clear hM e1 e2
      go_wp2_with fail
      generalize wr.alloc (.cells #[.string (P k), .string (V k), .slice a1 n1 s1, .slice aK nK cK, .bool (B k)] 43) = w1 at *
      refine hom.out.mono ?_
      rintro e w2 ⟨⟨v', rfl, _, M, hRM, hoM⟩, hb2⟩
      obtain ⟨aM, nM, cM, rfl⟩ := own_form hoM
      have hs1 := hba.size
      have hs2 := hb2.size
      have hNlt : wr.heap.size < w2.heap.size := by omega
      replace x0 := Below.cell_some hb2 x0
      replace x1 := Below.cell_some hb2 x1
      replace x2 := Below.cell_some hb2 x2
      replace x3 := Below.cell_some hb2 x3
      replace x4 := Below.cell_some hb2 x4
      replace xf := fun i => (hb2.frozen (p := ⟨wr.heap.size, i, none⟩) (show wr.heap.size < w1.heap.size by omega)).trans (xf i)
      have neM := own_ne (b := wr.heap.size) hoM (by omega)
      have hS3 : StrsAt (w2.setCell ⟨wr.heap.size, 2, none⟩ (.slice aM nM cM)) (.slice aK nK cK) (K k) := by
        obtain ⟨a', n', cap', L', q1, q2, q3, q4, q5⟩ := hS
        refine ⟨a', n', cap', L', q1, q2, q3, q4, fun j hj => ?_⟩
        obtain ⟨b, o, e, c⟩ := q5 j hj
        refine ⟨b, o, e, ?_⟩
        have : b < wr.heap.size := lt_of_cell c
        rw [set_blk _ (by omega)]
        exact Below.cell_some hb2 (Below.cell_some hba c)
      obtain ⟨kv, w4, hap, ⟨T, hKT, hoK⟩, hg4⟩ := app_strs (w2.setCell ⟨wr.heap.size, 2, none⟩ (.slice aM nM cM)) w2.heap.size (by simp) (.slice aK nK cK) (K k) hS3 (by have := (HL.out k hlt).2; omega)
      obtain ⟨aq, nq, cq, rfl⟩ := own_form hoK
      have neK := own_ne (b := wr.heap.size) hoK hNlt
      have hs4 := hg4.size
      have hs3 : (w2.setCell ⟨wr.heap.size, 2, none⟩ (.slice aM nM cM)).heap.size = w2.heap.size := by simp
      have hsome : ∀ k : Nat, some k ≠ (none : Option Nat) := fun k h => by cases h
      have u0 := hg4.cell ((set_off (.slice aM nM cM) (by decide)).trans x0) (hsome _)
      have u1 := hg4.cell ((set_off (.slice aM nM cM) (by decide)).trans x1) (hsome _)
      have u2 := hg4.cell (set_same (.slice aM nM cM) x2) (hsome _)
      have u3 := hg4.cell ((set_off (.slice aM nM cM) (by decide)).trans x3) (hsome _)
      have u4 := hg4.cell ((set_off (.slice aM nM cM) (by decide)).trans x4) (hsome _)
      have uf : ∀ i, w4.frozen? ⟨wr.heap.size, i, none⟩ = false := fun i => (hg4.frozen_far ⟨wr.heap.size, i, none⟩ (show wr.heap.size < _ by rw [hs3]; exact hNlt) (hsome _)).trans (by simp [xf i])
      have t0 := (set_off (w := w4) (b := wr.heap.size) (k := 3) (.slice aq nq cq) (by decide)).trans u0
      have t1 := (set_off (w := w4) (b := wr.heap.size) (k := 3) (.slice aq nq cq) (by decide)).trans u1
      have t2 := (set_off (w := w4) (b := wr.heap.size) (k := 3) (.slice aq nq cq) (by decide)).trans u2
      have t3 := set_same (.slice aq nq cq) u3
      have t4 := (set_off (w := w4) (b := wr.heap.size) (k := 3) (.slice aq nq cq) (by decide)).trans u4
      have chain : ∀ (b e s m : Nat) (u : Value) (xs : List Value), w2.ownsRow b e s u m xs → u.ownBlock ≠ some wr.heap.size → (w4.setCell ⟨wr.heap.size, 3, none⟩ (.slice aq nq cq)).ownsRow b e s u m xs := fun _ _ _ _ _ _ h hne => ownsRow_set ((ownsRow_set h hne _).kept hg4 grown_none) hne _
      have old : ∀ (b e s m : Nat) (u : Value) (xs : List Value), wr.ownsRow b e s u m xs → (w4.setCell ⟨wr.heap.size, 3, none⟩ (.slice aq nq cq)).ownsRow b e s u m xs := fun _ _ _ _ _ _ h => chain _ _ _ _ _ _ (ownsRow_kept (ownsRow_kept h hba) hb2) (fun e => by have := (h.lt _ e).2; omega)
      have hO5 := old _ _ _ _ _ _ hO.out
      have hoM5 := chain _ _ _ _ _ _ hoM neM
      have hoK5 := ownsRow_set (b := wr.heap.size) (j := 3) hoK neK (.slice aq nq cq)
      have hsz5 : (w4.setCell ⟨wr.heap.size, 3, none⟩ (.slice aq nq cq)).heap.size = w4.heap.size := by simp
      have hnew := World.news_of_block (cs := #[.string (P k), .string (V k), .slice aM nM cM, .slice aq nq cq, .bool (B k)]) (Go.Deep.blk_alloc_new (w4.setCell ⟨wr.heap.size, 3, none⟩ (.slice aq nq cq)) (.cells #[.string (P k), .string (V k), .slice aM nM cM, .slice aq nq cq, .bool (B k)] 43))
      rw [hsz5] at hnew
      have hB5 : Below w.heap.size w (w4.setCell ⟨wr.heap.size, 3, none⟩ (.slice aq nq cq)) := by
        have hsw := hBr.size
        have h1 : Below w.heap.size w w2 := hBr.trans ((below_step hba hb2).mono hsw)
        have h2 : Below w.heap.size w (w2.setCell ⟨wr.heap.size, 2, none⟩ (.slice aM nM cM)) := h1.setCell (p := ⟨wr.heap.size, 2, none⟩) hsw _
        exact (h2.grown hg4 (by rw [hs3]; omega) (fun k hk => by cases hk)).setCell (p := ⟨wr.heap.size, 3, none⟩) hsw _
      have hbase5 : w.heap.size ≤ w4.heap.size := by have := hB5.size; rw [hsz5] at this; exact this
      have z3 := (set_off (w := w2) (b := wr.heap.size) (k := 2) (.slice aM nM cM) (by decide)).trans x3
      have HR := Lib.hid (And.intro hRM hKT)
      have HO := Lib.hid (And.intro hO5 (And.intro hoM5 (And.intro hoK5 hnew)))
      have HOLD := Lib.hid old
      have HAP := Lib.hid hap
      clear hap hS3 hS hO hoM hoK hg4 hRM hKT hnew hO5 hoM5 hoK5 chain old x0 x1 x3 x4 hom hsome neM neK hba hb2 c0 c1 c2 c3 c4 u0 u1 u2 u4
      go_wp2_with (at_builtin; first | (refine wpList_append_run rfl _ _ 41 rfl _ _ rfl rfl _ _ HAP.out ?_) | (refine wpList_append_own _ rfl _ _ 22 rfl w.heap.size 43 i0 (.agg #[.string ⟨#[]⟩, .string ⟨#[]⟩, .slice none 0 0, .slice none 0 0, .bool false]) 5 88 Tryz.underlying22 hi hz0 hz1 hz2 rfl (by decide) _ _ _ rfl (HO.out.1.alloc _) ⟨w4.heap.size, 0, none⟩ 1 1 [.string (P k), .string (V k), .slice aM nM cM, .slice aq nq cq, .bool (B k)] rfl rfl HO.out.2.2.2 (by intro u hu; simp at hu; rcases hu with rfl | rfl | rfl | rfl | rfl <;> rfl) (by unfold maxLen; omega) (by omega) (by simp; omega) ?_; intro o' w6 hown6 hgrow6 _))
      go_roundw
      case rel =>
        have hkeep : ∀ (b e s m : Nat) (u : Value) (xs : List Value), (w4.setCell ⟨wr.heap.size, 3, none⟩ (.slice aq nq cq)).ownsRow b e s u m xs → e ≠ 43 → w6.ownsRow b e s u m xs := fun _ _ _ _ _ _ h hne =>
          (h.alloc _).kept hgrow6 (tag_apart (h.alloc (.cells #[.string (P k), .string (V k), .slice aM nM cM, .slice aq nq cq, .bool (B k)] 43)) (HO.out.1.alloc _) hne)
        refine ⟨k + 1, fun j => if j = k then .slice aM nM cM else Rv' j, fun j => if j = k then .slice aq nq cq else Kv' j, by omega, by go_num, Lib.hid ?_, Lib.hid ⟨fun j hj => ?_, fun j hj => ?_⟩, ?_⟩
        · have h1 : enVs P V (fun j => if j = k then .slice aM nM cM else Rv' j) (fun j => if j = k then .slice aq nq cq else Kv' j) B (k + 1) = enVs P V Rv' Kv' B k ++ [.string (P k), .string (V k), .slice aM nM cM, .slice aq nq cq, .bool (B k)] := by
            rw [enVs_succ, enVs_cong (Rv' := Rv') (Kv' := Kv') (fun j hj => ⟨if_neg (by omega), if_neg (by omega)⟩)]
            simp [ec]
          rw [h1]
          exact hown6
        · by_cases e : j = k
          · subst e
            refine ⟨M, HR.out.1, ?_⟩
            rw [if_pos rfl]
            exact (World.ownsRow.mono_base (hkeep _ _ _ _ _ _ HO.out.2.1 (by decide)) (by have := hBr.size; omega))
          · obtain ⟨M', q1, q2⟩ := hRows.out.r j (by omega)
            refine ⟨M', q1, ?_⟩
            rw [if_neg e]
            exact hkeep _ _ _ _ _ _ (HOLD.out _ _ _ _ _ _ q2) (by decide)
        · by_cases e : j = k
          · subst e
            refine ⟨T, HR.out.2, ?_⟩
            rw [if_pos rfl]
            exact (World.ownsRow.mono_base (hkeep _ _ _ _ _ _ HO.out.2.2.1 (by decide)) (by have := hBr.size; omega))
          · obtain ⟨M', q1, q2⟩ := hRows.out.s j (by omega)
            refine ⟨M', q1, ?_⟩
            rw [if_neg e]
            exact hkeep _ _ _ _ _ _ (HOLD.out _ _ _ _ _ _ q2) (by decide)
        · exact (hB5.alloc (by rw [hsz5]; exact hbase5) _).grown hgrow6 (by simp; omega) (fun q hq => (HO.out.1.lt q hq).1)
      case measure => simp [intOf]; omega
    · obtain rfl : n = k := by omega
      have hfin : EntsAt wr _ (enF n P V R K B) := entsAt_own hO.out hRows.out
      replace hfin := Lib.hid hfin
      go_wp2_with fail
      go_ret
      exact ⟨⟨_, rfl, hfin.out⟩, hBr⟩
end Go.Proofs.Pw

namespace Go.Proofs.Pw
open Go.RowKit
open Go.Lib hiding intOf
def sA : ByteArray := ⟨#[97]⟩
def sB : ByteArray := ⟨#[98]⟩
def v100 : ByteArray := ⟨#[118, 49, 46, 48, 46, 48]⟩
def v110 : ByteArray := ⟨#[118, 49, 46, 49, 46, 48]⟩
def v010 : ByteArray := ⟨#[118, 48, 46, 49, 46, 48]⟩
def smP (j : Nat) : ByteArray := if j = 2 then sB else sA
def smV (j : Nat) : ByteArray := if j = 0 then v100 else if j = 1 then v110 else v010
def smR (j : Nat) : List Md := if j = 1 then [(sB.data.toList, v010.data.toList)] else []
def smK (_ : Nat) : List Str := []
def smB (_ : Nat) : Bool := false
def smL : List En := enF 3 smP smV smR smK smB
def smX : List Md := [(sA.data.toList, v110.data.toList), (sB.data.toList, v010.data.toList)]
theorem sm_rises : Rises modCmp smX := by
  unfold Rises smX
  refine List.Pairwise.cons (fun b hb => ?_) (List.Pairwise.cons (fun b hb => by cases hb) List.Pairwise.nil)
  simp only [List.mem_singleton] at hb
  subst hb
  decide +kernel
theorem sm_short : ShortI smL := by
  refine ⟨by decide +kernel, ?_, ?_, ?_⟩
  · decide +kernel
  · intro e he
    have : ∀ e ∈ smL, e.reqs.length ≤ 1000000 ∧ ∀ m ∈ e.reqs, m.1.length ≤ 1000000 ∧ m.2.length ≤ 1000000 := by decide +kernel
    exact this e he
  · decide +kernel
theorem new_cell (W : World) (cs : List Value) (t : TypeId) {N : Nat} (h : W.heap.size = N) {c : Nat} {u : Value} (hc : cs[c]? = some u) : (W.alloc (.cells cs.toArray t)).cell? ⟨N, c, none⟩ = some u := by
  subst h
  have := World.news_of_block (cs := cs.toArray) (Go.Deep.blk_alloc_new W (.cells cs.toArray t)) c u (by simpa using hc)
  rw [Addr.add_lit, Nat.zero_add] at this
  exact this
def smRv (N j : Nat) : Value := if j = 1 then .slice (some ⟨N, 0, none⟩) 1 1 else .slice none 0 0
def smW (w : World) : World := (w.alloc (.cells #[.string sB, .string v010] 38)).alloc (.cells #[.string sA, .string v100, .slice none 0 0, .slice none 0 0, .bool false, .string sA, .string v110, .slice (some ⟨w.heap.size, 0, none⟩) 1 1, .slice none 0 0, .bool false, .string sB, .string v010, .slice none 0 0, .slice none 0 0, .bool false] 43)
theorem smW_below (w : World) : Below w.heap.size w (smW w) := below_step (below_alloc w _) (below_alloc _ _)
theorem smW_in (w : World) : EntsIn (smW w) (some ⟨w.heap.size + 1, 0, none⟩) 3 3 smP smV smR smK smB (smRv w.heap.size) (fun _ => .slice none 0 0) := by
  have hc : ∀ (c : Nat) (u : Value), ([.string sA, .string v100, .slice none 0 0, .slice none 0 0, .bool false, .string sA, .string v110, .slice (some ⟨w.heap.size, 0, none⟩) 1 1, .slice none 0 0, .bool false, .string sB, .string v010, .slice none 0 0, .slice none 0 0, .bool false] : List Value)[c]? = some u → (smW w).cell? ⟨w.heap.size + 1, c, none⟩ = some u := fun c u h => new_cell _ _ _ (by simp) h
  refine ⟨Nat.le_refl _, by decide, fun j hj => ⟨w.heap.size + 1, 0, rfl, ?_⟩, fun j hj => ?_, fun j hj => StrsAt.nil _⟩
  · match j, hj with
    | 0, _ => exact ⟨hc _ _ rfl, hc _ _ rfl, hc _ _ rfl, hc _ _ rfl, hc _ _ rfl⟩
    | 1, _ => exact ⟨hc _ _ rfl, hc _ _ rfl, hc _ _ rfl, hc _ _ rfl, hc _ _ rfl⟩
    | 2, _ => exact ⟨hc _ _ rfl, hc _ _ rfl, hc _ _ rfl, hc _ _ rfl, hc _ _ rfl⟩
  · match j, hj with
    | 0, _ => exact ModsAt.nil _
    | 2, _ => exact ModsAt.nil _
    | 1, _ =>
      have hb := below_alloc (w.alloc (.cells #[.string sB, .string v010] 38)) (.cells #[.string sA, .string v100, .slice none 0 0, .slice none 0 0, .bool false, .string sA, .string v110, .slice (some ⟨w.heap.size, 0, none⟩) 1 1, .slice none 0 0, .bool false, .string sB, .string v010, .slice none 0 0, .slice none 0 0, .bool false] 43)
      have h0 := Below.cell_some hb (new_cell w [.string sB, .string v010] 38 rfl (c := 0) rfl)
      have h1 := Below.cell_some hb (new_cell w [.string sB, .string v010] 38 rfl (c := 1) rfl)
      refine ⟨some ⟨w.heap.size, 0, none⟩, 1, 1, fun _ => sB, fun _ => v010, rfl, rfl, Nat.le_refl _, by decide, fun i hi => ?_⟩
      obtain rfl : i = 0 := by omega
      exact ⟨w.heap.size, 0, rfl, h0, h1⟩
set_option maxHeartbeats 2000000 in
set_option maxRecDepth 100000 in
theorem small_calls (w : World) :
    Calls Tryz.prog 53 #[] w fun e w' => e = .returned (.slice (some ⟨w.heap.size + 1, 0, none⟩) 3 3) ∧ w' = smW w := by
  go_enter Tryz.func53, Tryz.ntmps53
  go_wp2_with fail
  go_ret
  exact ⟨rfl, rfl⟩
end Go.Proofs.Pw

namespace Go.Proofs.Pw
open Go.Lib hiding intOf
def grow1 (out : List Md) (m : Md) : List Md := if out.getLast?.map (·.1) = some m.1 then out.dropLast ++ [m] else out ++ [m]
def greatest (l : List Md) : List Md := l.foldl grow1 []
theorem greatest_snoc (l : List Md) (m : Md) : greatest (l ++ [m]) = grow1 (greatest l) m := by simp [greatest]
def Climbs (l : List Md) : Prop := l.Pairwise fun a b => modCmp a b ≤ 0
theorem climbs_of_rises {l : List Md} (h : Rises modCmp l) : Climbs l := h.imp fun {a b} h => by omega
theorem modCmp_path {a b : Md} (h : modCmp a b ≤ 0) : compareBytes a.1 b.1 < 0 ∨ (a.1 = b.1 ∧ verCmp a.2 b.2 ≤ 0) := by
  unfold modCmp at h
  rw [orI_le] at h
  rcases h with h | ⟨h1, h2⟩
  · exact .inl h
  · exact .inr ⟨compareBytes_zero h1, h2⟩
theorem path_self (p : Str) : ¬ compareBytes p p < 0 := by rw [compareBytes_self]; decide
theorem last_some {α : Type} {l : List α} {y : α} (h : l.getLast? = some y) : ∃ hne : l ≠ [], l.getLast hne = y := by
  have hne : l ≠ [] := fun e => by rw [e] at h; cases h
  rw [List.getLast?_eq_some_getLast hne] at h
  exact ⟨hne, Option.some.inj h⟩
structure Great (l out : List Md) : Prop where
  rise : out.Pairwise fun a b => compareBytes a.1 b.1 < 0
  sub : ∀ m ∈ out, m ∈ l
  over : ∀ m ∈ l, ∃ x ∈ out, x.1 = m.1 ∧ verCmp m.2 x.2 ≤ 0
theorem great_nil : Great [] [] := ⟨by simp, by simp, by simp⟩
theorem great_snoc {l out : List Md} {m : Md} (h : Great l out) (hc : Climbs (l ++ [m])) : Great (l ++ [m]) (grow1 out m) := by
  have hle : ∀ x ∈ l, modCmp x m ≤ 0 := fun x hx => (List.pairwise_append.1 hc).2.2 x hx m (by simp)
  have hself : verCmp m.2 m.2 ≤ 0 := by rw [verCmp_ord.self]; decide
  unfold grow1
  by_cases hl : out.getLast?.map (·.1) = some m.1
  · rw [if_pos hl]
    obtain ⟨y, hy, e⟩ : ∃ y, out.getLast? = some y ∧ y.1 = m.1 := by
      cases h1 : out.getLast? with
      | none => rw [h1] at hl; cases hl
      | some y => rw [h1] at hl; exact ⟨y, rfl, by simpa using hl⟩
    obtain ⟨hne, hlast⟩ := last_some hy
    have hout : out = out.dropLast ++ [y] := by rw [← hlast]; exact (List.dropLast_concat_getLast hne).symm
    have hp := h.rise
    rw [hout, List.pairwise_append] at hp
    refine ⟨?_, fun x hx => ?_, fun x hx => ?_⟩
    · rw [List.pairwise_append]
      refine ⟨hp.1, by simp, fun a ha b hb => ?_⟩
      simp at hb
      subst hb
      rw [← e]
      exact hp.2.2 a ha y (by simp)
    · rcases List.mem_append.1 hx with h1 | h1
      · exact List.mem_append.2 (.inl (h.sub x (List.dropLast_subset _ h1)))
      · exact List.mem_append.2 (.inr h1)
    · rcases List.mem_append.1 hx with h1 | h1
      · obtain ⟨z, hz, e1, e2⟩ := h.over x h1
        rw [hout] at hz
        rcases List.mem_append.1 hz with h2 | h2
        · exact ⟨z, List.mem_append.2 (.inl h2), e1, e2⟩
        · simp at h2
          subst h2
          refine ⟨m, by simp, by rw [← e, e1], ?_⟩
          rcases modCmp_path (hle x h1) with h3 | h3
          · rw [← e1, e] at h3
            exact absurd h3 (path_self _)
          · exact h3.2
      · simp at h1
        subst h1
        exact ⟨x, by simp, rfl, hself⟩
  · rw [if_neg hl]
    have hlt : ∀ a ∈ out, compareBytes a.1 m.1 < 0 := by
      intro a ha
      rcases modCmp_path (hle a (h.sub a ha)) with h1 | ⟨h1, _⟩
      · exact h1
      · exfalso
        obtain ⟨y, hy⟩ : ∃ y, out.getLast? = some y := by
          cases h2 : out.getLast? with
          | none => rw [List.getLast?_eq_none_iff] at h2; subst h2; simp at ha
          | some y => exact ⟨y, rfl⟩
        obtain ⟨hne, hlast⟩ := last_some hy
        have hout : out = out.dropLast ++ [y] := by rw [← hlast]; exact (List.dropLast_concat_getLast hne).symm
        have hym : y.1 ≠ m.1 := fun e => hl (by rw [hy]; simp [e])
        have hyl : y ∈ l := h.sub y (by rw [hout]; simp)
        rw [hout] at ha
        rcases List.mem_append.1 ha with h2 | h2
        · have hp := h.rise
          rw [hout, List.pairwise_append] at hp
          have h3 := hp.2.2 a h2 y (by simp)
          rcases modCmp_path (hle y hyl) with h4 | h4
          · rw [h1] at h3
            have := (compareBytes_ord.anti _ _).1 h3
            omega
          · exact hym h4.1
        · simp at h2
          subst h2
          exact hym h1
    refine ⟨?_, fun x hx => ?_, fun x hx => ?_⟩
    · rw [List.pairwise_append]
      exact ⟨h.rise, by simp, fun a ha b hb => by simp at hb; subst hb; exact hlt a ha⟩
    · rcases List.mem_append.1 hx with h1 | h1
      · exact List.mem_append.2 (.inl (h.sub x h1))
      · exact List.mem_append.2 (.inr h1)
    · rcases List.mem_append.1 hx with h1 | h1
      · obtain ⟨z, hz, e1, e2⟩ := h.over x h1
        exact ⟨z, List.mem_append.2 (.inl hz), e1, e2⟩
      · simp at h1
        subst h1
        exact ⟨x, by simp, rfl, hself⟩
theorem great_fold : ∀ (r l out : List Md), Great l out → Climbs (l ++ r) → Great (l ++ r) (r.foldl grow1 out)
  | [], l, out, h, _ => by simpa using h
  | m :: r, l, out, h, hc => by
    have e : l ++ m :: r = (l ++ [m]) ++ r := by simp
    rw [e] at hc ⊢
    exact great_fold r (l ++ [m]) (grow1 out m) (great_snoc h (List.pairwise_append.1 hc).1) hc
theorem great_of {l : List Md} (h : Climbs l) : Great l (greatest l) := great_fold l [] [] great_nil (by simpa using h)
theorem Great.rises {l out : List Md} (h : Great l out) : Rises modCmp out := h.rise.imp fun {a b} h => by
  unfold modCmp
  rw [orI_lt]
  exact .inl h
theorem Great.one {l out : List Md} (h : Great l out) {a b : Md} (ha : a ∈ out) (hb : b ∈ out) (e : a.1 = b.1) : a = b := RiseP.unique h.rise ha hb e
theorem Great.mem {l out : List Md} (h : Great l out) (hr : ∀ m ∈ l, mdErr m = 0) (m : Md) : m ∈ out ↔ m ∈ l ∧ ∀ x ∈ l, x.1 = m.1 → verCmp x.2 m.2 ≤ 0 := by
  constructor
  · intro hm
    refine ⟨h.sub m hm, fun x hx e => ?_⟩
    obtain ⟨z, hz, e1, e2⟩ := h.over x hx
    rw [h.one hz hm (e1.trans e)] at e2
    exact e2
  · rintro ⟨hm, h1⟩
    obtain ⟨z, hz, e1, e2⟩ := h.over m hm
    have h2 := h1 z (h.sub z hz) e1
    have h3 : verCmp m.2 z.2 = 0 := by
      have := verCmp_ord.anti z.2 m.2
      have := verCmp_ord.anti m.2 z.2
      omega
    have : m = z := modCmp_zero (hr m hm) (hr z (h.sub z hz)) (by unfold modCmp; rw [orI_eq, e1, compareBytes_self]; exact ⟨rfl, h3⟩)
    rw [this]; exact hz
noncomputable def buildL (l : List En) (roots : List Md) : List Md := greatest (reachL l roots)
theorem RightG.great {l : List En} {roots : List Md} (h : RightG l roots) : Great (reachL l roots) (buildL l roots) := great_of (climbs_of_rises (reachL_rises h.idx roots))
def hasB (sel : List Md) (m : Md) : Bool := decide (0 ≤ findI (hasP m.1) sel) && !verLess (mdAt sel (findI (hasP m.1) sel).toNat).2 m.2
def underB (a b : List Md) : Bool := a.all (hasB b)
theorem hasB_iff {sel : List Md} {m : Md} : hasB sel m = true ↔ ∃ k : Nat, findI (hasP m.1) sel = k ∧ verLess (mdAt sel k).2 m.2 = false := by
  unfold hasB
  rw [Bool.and_eq_true, decide_eq_true_iff]
  constructor
  · rintro ⟨h1, h2⟩
    exact ⟨(findI (hasP m.1) sel).toNat, by omega, by simpa using h2⟩
  · rintro ⟨k, h1, h2⟩
    rw [h1]
    exact ⟨by omega, by simpa using h2⟩
theorem hasB_rise {sel : List Md} (h : RiseP sel) {m : Md} : hasB sel m = true ↔ ∃ x ∈ sel, x.1 = m.1 ∧ verLess x.2 m.2 = false := by
  rw [hasB_iff]
  constructor
  · rintro ⟨k, h1, h2⟩
    obtain ⟨x, hx, hp⟩ := findI_spec h1
    have hl := (List.getElem?_eq_some_iff.1 hx).1
    rw [mdAt_get hl] at hx
    rw [Option.some.inj hx] at h2
    exact ⟨x, by rw [← Option.some.inj hx]; exact mdAt_mem hl, of_decide_eq_true hp, h2⟩
  · rintro ⟨x, hx, e, h2⟩
    have h0 : ¬ findI (hasP m.1) sel < 0 := fun hn => by
      have := findI_eq_none.1 hn x hx
      unfold hasP at this
      rw [decide_eq_false_iff_not] at this
      exact this e
    refine ⟨(findI (hasP m.1) sel).toNat, by omega, ?_⟩
    obtain ⟨y, hy, hp⟩ := findI_spec (show findI (hasP m.1) sel = ((findI (hasP m.1) sel).toNat : Nat) by omega)
    have hl := (List.getElem?_eq_some_iff.1 hy).1
    have hym := List.mem_of_getElem? hy
    rw [mdAt_get hl] at hy
    rw [Option.some.inj hy, h.unique hym hx ((of_decide_eq_true hp).trans e.symm)]
    exact h2
end Go.Proofs.Pw
