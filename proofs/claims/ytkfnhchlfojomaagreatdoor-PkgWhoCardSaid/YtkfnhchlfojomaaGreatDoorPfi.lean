/- Pf: walks and plain laws, joined: VerHead Build VerText. Conditions: at each theorem. -/
import Derived.Test.YtkfnhchlfojomaaGreatDoorPfh
import Derived.Test.YtkfnhchlfojomaaGreatDoorShelf
import Derived.Test.YtkfnhchlfojomaaGreatDoorPfb
import Derived.Shelf.Strings.BuilderK
import Derived.Shelf.Strings.OnBuilder
import Derived.Test.YtkfnhchlfojomaaGreatDoorPfg
import Derived.Test.YtkfnhchlfojomaaGreatDoorPfe
import Derived.Shelf.SlSortCmp.QuietGrown
import Derived.Lib.AppendIntMem
import Derived.Deep.CutRange
import Derived.Deep.CutBlock

namespace Go.Proofs.Pw
open Go.RowKit
open Go.Lib hiding intOf
theorem Tryz.infoInt : (Tryz.prog.info? 3).map (fun i => (i.zero, i.size, i.bytes)) = some (some (.int .i64 0), 1, 8) := by kernel_rfl
theorem verMax_bb {a b : Str} (h1 : verErr a ≠ 0) (h2 : verErr b ≠ 0) : verMax a b = [] := by unfold verMax; rw [if_pos ⟨h1, h2⟩]
theorem verMax_bg {a b : Str} (h1 : verErr a ≠ 0) (h2 : verErr b = 0) : verMax a b = b := by unfold verMax; rw [if_neg (fun h => h.2 h2), if_pos h1]
theorem verMax_g {a b : Str} (h1 : verErr a = 0) : verMax a b = if verLess a b = true then b else a := by
  unfold verMax verLess
  rw [if_neg (fun h => h.1 h1), if_neg (fun h => h h1)]
  by_cases h2 : verErr b = 0
  · rw [if_neg (fun h => h h2)]
    by_cases h3 : verCmp a b < 0 <;> simp [h1, h2, h3]
  · rw [if_pos h2]
    simp [h2]
theorem verMax_calls (ks : List Nat) (A : Nat → Addr) (a b : ByteArray) (w : World) (hE : EnvP ks A w) (ha : a.size ≤ 1000000000) (hb : b.size ≤ 1000000000) :
    Calls Tryz.prog 148 #[.string a, .string b] w fun e w' => e = .returned (.string ⟨(verMax a.data.toList b.data.toList).toArray⟩) ∧ Below w.heap.size w w' := by
  by_cases h1 : verErr a.data.toList = 0
  · have hm := verMax_g (b := b.data.toList) h1
    generalize verMax a.data.toList b.data.toList = R at hm ⊢
    have hl := fun W hW => verLess_calls ks A a b W hW ha hb
    generalize verLess a.data.toList b.data.toList = x at hm hl
    have HM := Lib.hid hm
    have HL := Lib.hid hl
    have H1 := Lib.hid h1
    clear hm hl h1
    cases x with
    | true =>
      have HR : Hid (R = b.data.toList) := Lib.hid (by rw [HM.out]; rfl)
      go_enter Tryz.func148, Tryz.ntmps148
      go_wp2_with fail
      refine (verCheck_calls ks A a w hE ha).mono ?_
      rintro e w1 ⟨rfl, hb1⟩
      rw [H1.out, errV_zero]
      have hE1 := hE.below hb1
      go_wp2_with fail
      refine (verCheck_calls ks A a w1 hE1 ha).mono ?_
      rintro e w2 ⟨rfl, hb2⟩
      rw [H1.out, errV_zero]
      have hE2 := hE1.below hb2
      go_wp2_with fail
      refine (HL.out w2 hE2).mono ?_
      rintro e w3 ⟨rfl, hb3⟩
      have hb13 := below_step (below_step hb1 hb2) hb3
      go_wp2_with fail
      go_ret
      rw [HR.out, mk_data]
      exact ⟨rfl, hb13⟩
    | false =>
      have HR : Hid (R = a.data.toList) := Lib.hid (by rw [HM.out]; rfl)
      go_enter Tryz.func148, Tryz.ntmps148
      go_wp2_with fail
      refine (verCheck_calls ks A a w hE ha).mono ?_
      rintro e w1 ⟨rfl, hb1⟩
      rw [H1.out, errV_zero]
      have hE1 := hE.below hb1
      go_wp2_with fail
      refine (verCheck_calls ks A a w1 hE1 ha).mono ?_
      rintro e w2 ⟨rfl, hb2⟩
      rw [H1.out, errV_zero]
      have hE2 := hE1.below hb2
      go_wp2_with fail
      refine (HL.out w2 hE2).mono ?_
      rintro e w3 ⟨rfl, hb3⟩
      have hb13 := below_step (below_step hb1 hb2) hb3
      go_wp2_with fail
      go_ret
      rw [HR.out, mk_data]
      exact ⟨rfl, hb13⟩
  · by_cases h2 : verErr b.data.toList = 0
    · have HR := Lib.hid (verMax_bg h1 h2)
      have H1 := Lib.hid h1
      have H2 := Lib.hid h2
      clear h1 h2
      go_enter Tryz.func148, Tryz.ntmps148
      go_wp2_with fail
      refine (verCheck_calls ks A a w hE ha).mono ?_
      rintro e w1 ⟨rfl, hb1⟩
      rw [errV_pos A H1.out]
      have hE1 := hE.below hb1
      go_wp2_with fail
      refine (verCheck_calls ks A b w1 hE1 hb).mono ?_
      rintro e w2 ⟨rfl, hb2⟩
      rw [H2.out, errV_zero]
      have hE2 := hE1.below hb2
      go_wp2_with fail
      refine (verCheck_calls ks A a w2 hE2 ha).mono ?_
      rintro e w3 ⟨rfl, hb3⟩
      rw [errV_pos A H1.out]
      have hb13 := below_step (below_step hb1 hb2) hb3
      go_wp2_with fail
      go_ret
      rw [HR.out, mk_data]
      exact ⟨rfl, hb13⟩
    · have HR := Lib.hid (verMax_bb h1 h2)
      have H1 := Lib.hid h1
      have H2 := Lib.hid h2
      clear h1 h2
      go_enter Tryz.func148, Tryz.ntmps148
      go_wp2_with fail
      refine (verCheck_calls ks A a w hE ha).mono ?_
      rintro e w1 ⟨rfl, hb1⟩
      rw [errV_pos A H1.out]
      have hE1 := hE.below hb1
      go_wp2_with fail
      refine (verCheck_calls ks A b w1 hE1 hb).mono ?_
      rintro e w2 ⟨rfl, hb2⟩
      rw [errV_pos A H2.out]
      have hb12 := below_step hb1 hb2
      go_wp2_with fail
      go_ret
      rw [HR.out]
      exact ⟨rfl, hb12⟩
def headWords (h : Str) : List Str := split (trimPrefix h [118]) [46]
def headErr (h : Str) : Nat := if hasPrefix h [118] = false ∨ 2 < (headWords h).length then 1 else numErrs (headWords h) 0
def headNums (h : Str) : List Nat := if headErr h = 0 then (headWords h).map (fun w => (numberOf w).1) else []
theorem headErr_le (h : Str) : headErr h ≤ 2 := by
  unfold headErr
  split
  · decide
  · exact numErrs_le _ _ (by decide)
theorem headNums_len (h : Str) : (headNums h).length ≤ 2 := by
  unfold headNums
  split
  · rename_i h0
    unfold headErr at h0
    split at h0
    · cases h0
    · rename_i h1
      rw [not_or] at h1
      simp; omega
  · simp
def IntsAt (w : World) (v : Value) (l : List Nat) : Prop :=
  ∃ a n cap, ∃ L : Nat → Nat, v = .slice a n cap ∧ l = (List.range n).map L ∧ n ≤ cap ∧ cap ≤ 9223372036854775807 ∧ ∀ j, j < n → ∃ b o, a = some ⟨b, o, none⟩ ∧ w.cell? ⟨b, o + j, none⟩ = some (.int .i64 (L j : Nat))
theorem IntsAt.below {w w' : World} {v : Value} {l : List Nat} (h : IntsAt w v l) (hb : Below w.heap.size w w') : IntsAt w' v l := by
  obtain ⟨a, n, cap, L, h1, h2, h3, h4, h5⟩ := h
  exact ⟨a, n, cap, L, h1, h2, h3, h4, fun j hj => let ⟨b, o, e1, e2⟩ := h5 j hj; ⟨b, o, e1, Below.cell_some hb e2⟩⟩
theorem IntsAt.nil (w : World) : IntsAt w (.slice none 0 0) [] := ⟨none, 0, 0, fun _ => 0, rfl, rfl, Nat.le_refl _, by decide, fun j hj => absurd hj (Nat.not_lt_zero _)⟩
def intVs (L : Nat → Nat) (k : Nat) : List Value := (List.range k).map fun j => .int .i64 (L j : Nat)
theorem intVs_succ (L : Nat → Nat) (k : Nat) : intVs L (k + 1) = intVs L k ++ [.int .i64 (L k : Nat)] := by simp [intVs, List.range_succ]
theorem intsAt_own {w : World} {base e : Nat} {v : Value} {L : Nat → Nat} {k : Nat} (h : w.ownsRow base e 1 v k (intVs L k)) : IntsAt w v ((List.range k).map L) := by
  rcases h.2 with ⟨rfl, h0⟩ | ⟨g, cap, cur, rfl, hb, hg, hn, hm, hs, ht⟩
  · subst h0
    exact IntsAt.nil w
  · refine ⟨_, k, cap, L, rfl, rfl, hn, by unfold maxLen at hm; exact hm, fun j hj => ⟨g, 0, rfl, ?_⟩⟩
    rw [Nat.zero_add, cell_of_row w g j cur e (0, 0) hg]
    have h1 : (intVs L k)[j]? = some (.int .i64 (L j : Nat)) := by simp [intVs, hj]
    rw [← ht, List.getElem?_take, if_pos (by omega)] at h1
    simpa using h1
def numL (L : Nat → ByteArray) (j : Nat) : Nat := (numberOf (L j).data.toList).1
theorem numL_map (n : Nat) (L : Nat → ByteArray) : (List.range n).map (numL L) = (lstF n L).map (fun w => (numberOf w).1) := by simp [numL, lstF]
set_option maxRecDepth 100000 in
set_option maxHeartbeats 1000000 in
theorem verHead_calls (ks : List Nat) (A : Nat → Addr) (s : ByteArray) (w : World) (hE : EnvP ks A w) (hs : s.size ≤ 1000000000) :
    Calls Tryz.prog 95 #[.string s] w fun e w' => (∃ v, e = .returned (.tuple #[v, errV A (headErr s.data.toList)]) ∧ IntsAt w' v (headNums s.data.toList)) ∧ Below w.heap.size w w' := by
  obtain ⟨i0, hi, hz0, hz1, hz2⟩ := info_parts Tryz.infoInt
  have ht : (trimPrefix s.data.toList [118]).length ≤ s.size := by rw [size_eq s]; exact trimPrefix_le _ _
  have ht4 : (⟨(trimPrefix s.data.toList [118]).toArray⟩ : ByteArray).size ≤ 4000000000 := Nat.le_trans ht (by omega)
  have hhe : headErr s.data.toList = if hasPrefix s.data.toList [118] = false ∨ 2 < (split (trimPrefix s.data.toList [118]) [46]).length then 1 else numErrs (split (trimPrefix s.data.toList [118]) [46]) 0 := rfl
  have hhn : headNums s.data.toList = if headErr s.data.toList = 0 then (split (trimPrefix s.data.toList [118]) [46]).map (fun w => (numberOf w).1) else [] := rfl
  generalize headErr s.data.toList = EE at hhe hhn ⊢
  generalize headNums s.data.toList = NN at hhn ⊢
  have HHE := Lib.hid hhe
  have HHN := Lib.hid hhn
  clear hhe hhn
  generalize hpx : hasPrefix s.data.toList [118] = px at HHE
  have HPX := Lib.hid hpx
  clear hpx
  go_enter Tryz.func95, Tryz.ntmps95
  go_wp2_with fail
  refine (cutPrefix_calls _ _ _).mono ?_
  rintro e w1 ⟨rfl, hw1⟩
  subst hw1
  rw [show (⟨#[118]⟩ : ByteArray).data.toList = [118] from rfl, HPX.out]
  go_wp2_with fail
  refine (split_calls _ ⟨#[46]⟩ _ hE.m ht4 (by decide)).mono ?_
  rintro e w3 ⟨n, rfl, hn1, hn2, HL, hb2, hc2, hz2'⟩
  have hn : n = (split (trimPrefix s.data.toList [118]) [46]).length := by
    have := congrArg List.length HL.out
    rw [lstF_length] at this
    exact this
  have HL' : Hid (lstF n (splitL ⟨(trimPrefix s.data.toList [118]).toArray⟩ ⟨#[46]⟩) = split (trimPrefix s.data.toList [118]) [46]) := HL
  have hLs := lstF_mem_le (by decide) HL'.out
  generalize splitL ⟨(trimPrefix s.data.toList [118]).toArray⟩ ⟨#[46]⟩ = L at hc2 HL' hLs ⊢
  have hLs4 : ∀ j, j < n → (L j).size ≤ 4000000000 := fun j hj => Nat.le_trans (hLs j hj) (by omega)
  rw [← HL'.out] at HHE HHN
  have HC := Lib.hid hc2
  have HLS := Lib.hid hLs4
  have hE2 := hE.below hb2
  have g1 := hE2.errs.var 1 hE2.has.1
  simp only [errG] at g1
  clear hn HL hLs hc2 hLs4 HL' ht4 ht hn2
  have bad1 : Hid (px = false ∨ 2 < n → EE = 1 ∧ NN = []) := Lib.hid (fun h => by
    have h1 : EE = 1 := by rw [HHE.out, lstF_length, if_pos h]
    exact ⟨h1, by rw [HHN.out, h1]; rfl⟩)
  cases px with
  | false =>
    obtain ⟨rfl, rfl⟩ := bad1.out (.inl rfl)
    clear bad1 HHE HHN
    go_wp2_with fail
    go_quiet (fail)
    go_wp2_with fail
    go_ret2
    exact ⟨⟨_, rfl, IntsAt.nil _⟩, Below.drewN hb2 _⟩
  | true =>
    by_cases h2 : 2 < n
    · obtain ⟨rfl, rfl⟩ := bad1.out (.inr h2)
      have h2' : (2 : Int) < (n : Int) := by omega
      clear bad1 HHE HHN h2
      go_wp2_with fail
      go_quiet (fail)
      go_wp2_with fail
      go_ret2
      exact ⟨⟨_, rfl, IntsAt.nil _⟩, Below.drewN hb2 _⟩
    · have h2' : ¬ (2 : Int) < (n : Int) := by omega
      have HEE : Hid (EE = numErrs (lstF n L) 0) := Lib.hid (by rw [HHE.out, lstF_length, if_neg (by simp [h2])])
      clear bad1 HHE g1
      go_wp2_with fail
      go_loopw [6, 7, 29] (fun o bad i wr => ∃ k : Nat, k ≤ n ∧ i = .int .i64 k ∧ bad = errV A (numErrs ((lstF n L).take k) 0) ∧ wr.ownsRow w3.heap.size 3 1 o k (intVs (numL L) k) ∧ Below w3.heap.size w3 wr) (fun _ _ i _ => n - (intOf i).toNat)
      case atStart => exact ⟨0, Nat.zero_le _, rfl, rfl, World.ownsRow_nil _ _ _ _, Below.refl _ _⟩
      case round =>
        obtain ⟨k, hk, rfl, rfl, hown, hbr⟩ := hrel
        have hEr := hE2.below hbr
        by_cases hlt : k < n
        · have hck := Below.cell_some hbr (HC.out k hlt)
          have hsn := numErrs_snoc ((lstF n L).take k) (L k).data.toList 0
          rw [← lstF_take_succ n L k hlt] at hsn
          have hle := numErrs_le ((lstF n L).take k) 0 (by decide)
          have HSN := Lib.hid hsn
          have hnb : (numberOf (L k).data.toList).1 ≤ 999999 := (numberOf_le _).1
          have hiv : intVs (numL L) (k + 1) = intVs (numL L) k ++ [.int .i64 ((numberOf (L k).data.toList).1 : Nat)] := intVs_succ _ _
          have hcall := number_calls ks A (L k) wr hEr (HLS.out k hlt)
          generalize (numberOf (L k).data.toList).1 = nk at hcall hnb hiv
          have HIV := Lib.hid hiv
          generalize hcn : numErrs ((lstF n L).take k) 0 = c at hle HSN
          clear hsn hcn hiv
          go_wp2_with fail
          refine hcall.mono ?_
          rintro e w5 ⟨rfl, hb5⟩
          have hE5 := hEr.below hb5
          clear hcall
          go_wp2_with fail
          refine (worse_calls ks A c (numberOf (L k).data.toList).2 w5 hE5 ?_).mono ?_
          · have h12 := hE.has
            rcases (by omega : c = 0 ∨ c = 1 ∨ c = 2) with h | h | h
            · exact .inl h
            · rw [h]; exact .inr h12.1
            · rw [h]; exact .inr h12.2
          rintro e w6 ⟨rfl, hw6⟩
          subst hw6
          rw [← HSN.out]
          have hb35 := below_step hbr hb5
          have hown5 := hown.kept (row := none) ⟨hb5.os, hb5.tape, hb5.output, hb5.size, fun i hi _ => hb5.block i hi⟩ (by cases Value.ownBlock _ <;> simp)
          go_wp2_with (at_builtin; refine wpList_append_own _ rfl _ _ 142 rfl w3.heap.size 3 i0 (.int .i64 0) 1 8 Tryz.underlying142 hi hz0 hz1 hz2 rfl (by decide) _ _ _ rfl (hown5.alloc _) ⟨w5.heap.size, 0, none⟩ 1 1 [.int .i64 (nk : Nat)] rfl rfl (cell_one_new _ _ _) (fun x hx => by simp at hx; subst hx; rfl) (by unfold maxLen; omega) (by omega) (by have := hb35.size; simp; omega) ?_; intro v' w6 hown1 hgrow1 _)
          go_roundw
          case rel =>
            refine ⟨k + 1, by omega, by go_num, rfl, ?_, ?_⟩
            · rw [HIV.out]; exact hown1
            · exact (hb35.alloc hb35.size _).grown hgrow1 (by have := hb35.size; simp; omega) (fun q hq => (hown5.lt q hq).1)
          case measure => simp [intOf]; omega
        · obtain rfl : k = n := by omega
          have hI := intsAt_own hown
          rw [numL_map] at hI
          rw [lstF_take_all, ← HEE.out]
          have hbw := below_step hb2 hbr
          by_cases h0 : EE = 0
          · have HX : Hid (NN = (lstF k L).map (fun w => (numberOf w).1)) := Lib.hid (by rw [HHN.out, if_pos h0])
            have HI := Lib.hid hI
            subst h0
            rw [errV_zero]
            clear hI HHN HEE hown
            go_wp2_with fail
            go_ret2
            rw [HX.out]
            exact ⟨⟨_, rfl, HI.out⟩, hbw⟩
          · have HX : Hid (NN = []) := Lib.hid (by rw [HHN.out, if_neg h0])
            have h00 := errV_pos A h0
            rw [h00]
            clear hI HHN HEE hown
            go_wp2_with fail
            go_ret2
            rw [HX.out, ← h00]
            exact ⟨⟨_, rfl, IntsAt.nil _⟩, hbw⟩
set_option maxRecDepth 100000 in
set_option maxHeartbeats 1000000 in
theorem headOf_calls (s : ByteArray) (w : World) (hs : s.size ≤ 1000000000) :
    Calls Tryz.prog 99 #[.string s] w fun e w' => (∃ v, e = .returned (.tuple #[v, .int .i64 (headErr s.data.toList : Nat)]) ∧ IntsAt w' v (headNums s.data.toList)) ∧ Below w.heap.size w w' := by
  obtain ⟨i0, hi, hz0, hz1, hz2⟩ := info_parts Tryz.infoInt
  have hhe : headErr s.data.toList = if hasPrefix s.data.toList [118] = false ∨ 2 < (split (trimPrefix s.data.toList [118]) [46]).length then 1 else numErrs (split (trimPrefix s.data.toList [118]) [46]) 0 := rfl
  have hhn : headNums s.data.toList = if headErr s.data.toList = 0 then (split (trimPrefix s.data.toList [118]) [46]).map (fun w => (numberOf w).1) else [] := rfl
  generalize headErr s.data.toList = EE at hhe hhn ⊢
  generalize headNums s.data.toList = NN at hhn ⊢
  have bad0 : hasPrefix s.data.toList [118] = false → EE = 1 ∧ NN = [] := fun h => by
    have h1 : EE = 1 := by rw [hhe, if_pos (.inl h)]
    exact ⟨h1, by rw [hhn, h1]; rfl⟩
  by_cases h0 : s.size = 0
  · obtain ⟨rfl, rfl⟩ := bad0 (by
      have : s.data.toList = [] := List.length_eq_zero_iff.1 (by rw [← size_eq]; exact h0)
      rw [this]; rfl)
    have h0' : ((s.size : Nat) : Int) = 0 := by omega
    clear bad0 hhe hhn
    go_enter Tryz.func99, Tryz.ntmps99
    go_wp2_with fail
    go_ret2
    exact ⟨⟨_, rfl, IntsAt.nil _⟩, Below.refl _ _⟩
  · have hlt : 0 < s.size := by omega
    have h00 : ((s.size : Int) == 0) = false := beq_eq_false_iff_ne.2 (by omega)
    have hpb := hasPrefix_byte s hlt
    cases hp : hasPrefix s.data.toList [118] with
    | false =>
      obtain ⟨rfl, rfl⟩ := bad0 hp
      rw [hp] at hpb
      have hne := byte_ne_int (n := 118) (c := 118) rfl (of_decide_eq_false hpb.symm)
      clear bad0 hhe hhn hpb hp h0
      go_enter Tryz.func99, Tryz.ntmps99
      go_wp2_with fail
      go_ret2
      exact ⟨⟨_, rfl, IntsAt.nil _⟩, Below.refl _ _⟩
    | true =>
      rw [hp] at hpb
      have h118 : (s[0].toNat : Int) = 118 := by
        have : s[0] = 118 := of_decide_eq_true hpb.symm
        rw [this]; rfl
      have htp := trimPrefix_byte s hp
      rw [hp, htp] at hhe
      rw [htp] at hhn
      have HHE := Lib.hid hhe
      have HHN := Lib.hid hhn
      have h1s : 1 ≤ s.size := hlt
      have hcut := refCut_dot (s.extract 1 s.size) w (Nat.le_trans (extract_size_le s _ _) hs)
      rw [extract_to_end] at hcut
      have HCut := Lib.hid hcut
      have hel := extract_size_le s 1 s.size
      have hed := extract_to_end s 1
      have HED := Lib.hid hed
      clear bad0 hhe hhn hpb hp htp hcut h0 hed
      go_enter Tryz.func99, Tryz.ntmps99
      go_wp2_with fail
      refine HCut.out.mono ?_
      rintro e w1 ⟨⟨v, rfl, hS, hNew⟩, hb1⟩
      obtain ⟨a, n, cap, L, rfl, hl, hn, hcap, hc⟩ := hS
      have hLs := lstF_mem_le (by decide) hl.symm
      have hLs4 : ∀ j, j < n → (L j).size ≤ 4000000000 := fun j hj => Nat.le_trans (hLs j hj) (by rw [← HED.out, ← size_eq]; omega)
      rw [hl] at HHE HHN
      have HC := Lib.hid hc
      have HLS := Lib.hid hLs4
      clear hl hLs hLs4 hc hNew HCut hel
      by_cases h2 : 2 < n
      · obtain rfl : EE = 1 := by rw [HHE.out, lstF_length, if_pos (.inr h2)]
        obtain rfl : NN = [] := by rw [HHN.out]; rfl
        have h2' : (2 : Int) < (n : Int) := by omega
        clear HHE HHN h2
        go_wp2_with fail
        go_ret2
        exact ⟨⟨_, rfl, IntsAt.nil _⟩, hb1⟩
      · have h2' : ¬ (2 : Int) < (n : Int) := by omega
        have HEE : Hid (EE = numErrs (lstF n L) 0) := Lib.hid (by rw [HHE.out, lstF_length, if_neg (by simp [h2])])
        clear HHE
        go_wp2_with fail
        go_loopw [5, 6, 7] (fun o bad i wr => ∃ (k : Nat) (B : Bool), k ≤ n ∧ i = .int .i64 k ∧ bad = .int .i64 (bndN B : Nat) ∧ wr.ownsRow w1.heap.size 3 1 o k (intVs (numL L) k) ∧ Below w1.heap.size w1 wr ∧ Hid (numErrs ((lstF n L).take k) 0 = bndN B)) (fun _ _ i _ => n - (intOf i).toNat)
        case atStart => exact ⟨0, false, Nat.zero_le _, rfl, rfl, World.ownsRow_nil _ _ _ _, Below.refl _ _, Lib.hid rfl⟩
        case round =>
          obtain ⟨k, B, hk, rfl, rfl, hown, hbr, HB⟩ := hrel
          by_cases hlt2 : k < n
          · obtain ⟨b1, o1, rfl, hck⟩ := HC.out k hlt2
            replace hck := Below.cell_some hbr hck
            have hsn := numErrs_snoc ((lstF n L).take k) (L k).data.toList 0
            rw [← lstF_take_succ n L k hlt2, HB.out] at hsn
            have hle := (numberOf_le (L k).data.toList).2
            have hmem : (L k).data.toList ∈ lstF n L := List.mem_of_getElem? (lstF_get n L k hlt2)
            have hiv : intVs (numL L) (k + 1) = intVs (numL L) k ++ [.int .i64 ((numberOf (L k).data.toList).1 : Nat)] := intVs_succ _ _
            have hnb : (numberOf (L k).data.toList).1 ≤ 999999 := (numberOf_le _).1
            have hcall := refNumber_calls (L k) wr (HLS.out k hlt2)
            by_cases he1 : (numberOf (L k).data.toList).2 = 1
            · obtain rfl : EE = 1 := by rw [HEE.out]; exact numErrs_one _ _ (.inr ⟨_, hmem, he1⟩)
              obtain rfl : NN = [] := by rw [HHN.out]; rfl
              rw [he1] at hcall
              generalize (numberOf (L k).data.toList).1 = nk at hcall
              have hbw := below_step hb1 hbr
              clear hsn hle hmem hiv hnb he1 HEE HHN hown
              go_wp2_with fail
              refine hcall.mono ?_
              rintro e w5 ⟨rfl, hw5⟩
              subst hw5
              clear hcall
              go_wp2_with fail
              go_ret2
              exact ⟨⟨_, rfl, IntsAt.nil _⟩, hbw⟩
            · rw [bndN_step B he1 hle] at hsn
              have he1' : (((numberOf (L k).data.toList).2 : Int) == 1) = false := beq_eq_false_iff_ne.2 (by omega)
              generalize (numberOf (L k).data.toList).2 = ek at hcall he1' hsn hle he1
              generalize (numberOf (L k).data.toList).1 = nk at hcall hnb hiv
              have HIV := Lib.hid hiv
              by_cases h0 : 0 < ek
              · obtain rfl : ek = 2 := by omega
                have HN : Hid (numErrs ((lstF n L).take (k + 1)) 0 = bndN true) := Lib.hid (by rw [hsn]; simp)
                clear hsn hle hmem hiv he1 h0
                go_wp2_with fail
                refine hcall.mono ?_
                rintro e w5 ⟨rfl, hw5⟩
                subst hw5
                clear hcall
                go_wp2_with (at_builtin; refine wpList_append_own _ rfl _ _ 142 rfl w1.heap.size 3 i0 (.int .i64 0) 1 8 Tryz.underlying142 hi hz0 hz1 hz2 rfl (by decide) _ _ _ rfl (hown.alloc _) ⟨wr.heap.size, 0, none⟩ 1 1 [.int .i64 (nk : Nat)] rfl rfl (cell_one_new _ _ _) (fun x hx => by simp at hx; subst hx; rfl) (by unfold maxLen; omega) (by omega) (by have := hbr.size; simp; omega) ?_; intro v' w6 hown1 hgrow1 _)
                go_roundw
                case rel =>
                  refine ⟨k + 1, true, by omega, by go_num, rfl, ?_, ?_, HN⟩
                  · rw [HIV.out]; exact hown1
                  · exact (hbr.alloc hbr.size _).grown hgrow1 (by have := hbr.size; simp; omega) (fun q hq => (hown.lt q hq).1)
                case measure => simp [intOf]; omega
              · obtain rfl : ek = 0 := by omega
                have HN : Hid (numErrs ((lstF n L).take (k + 1)) 0 = bndN B) := Lib.hid (by rw [hsn]; simp)
                clear hsn hle hmem hiv he1 h0
                go_wp2_with fail
                refine hcall.mono ?_
                rintro e w5 ⟨rfl, hw5⟩
                subst hw5
                clear hcall
                go_wp2_with (at_builtin; refine wpList_append_own _ rfl _ _ 142 rfl w1.heap.size 3 i0 (.int .i64 0) 1 8 Tryz.underlying142 hi hz0 hz1 hz2 rfl (by decide) _ _ _ rfl (hown.alloc _) ⟨wr.heap.size, 0, none⟩ 1 1 [.int .i64 (nk : Nat)] rfl rfl (cell_one_new _ _ _) (fun x hx => by simp at hx; subst hx; rfl) (by unfold maxLen; omega) (by omega) (by have := hbr.size; simp; omega) ?_; intro v' w6 hown1 hgrow1 _)
                go_roundw
                case rel =>
                  refine ⟨k + 1, B, by omega, by go_num, rfl, ?_, ?_, HN⟩
                  · rw [HIV.out]; exact hown1
                  · exact (hbr.alloc hbr.size _).grown hgrow1 (by have := hbr.size; simp; omega) (fun q hq => (hown.lt q hq).1)
                case measure => simp [intOf]; omega
          · obtain rfl : k = n := by omega
            have hI := intsAt_own hown
            rw [numL_map] at hI
            have HI := Lib.hid hI
            have hEB : EE = bndN B := by rw [HEE.out, ← HB.out, lstF_take_all]
            have hbw := below_step hb1 hbr
            clear hI HEE HB
            cases B with
            | false =>
              obtain rfl : EE = 0 := hEB
              have HX : Hid (NN = (lstF k L).map (fun w => (numberOf w).1)) := Lib.hid (by rw [HHN.out, if_pos rfl])
              clear HHN hown
              go_wp2_with fail
              go_ret2
              rw [HX.out]
              exact ⟨⟨_, rfl, HI.out⟩, hbw⟩
            | true =>
              obtain rfl : EE = 2 := hEB
              have HX : Hid (NN = []) := Lib.hid (by rw [HHN.out]; rfl)
              clear HHN hown
              go_wp2_with fail
              go_ret2
              rw [HX.out]
              exact ⟨⟨_, rfl, IntsAt.nil _⟩, hbw⟩
end Go.Proofs.Pw

namespace Go.Proofs.Pw
open Go.RowKit
end Go.Proofs.Pw

namespace Go.Proofs.Pw
open Go.RowKit
open Go.Lib hiding intOf
open Go.Sort (grow)
theorem decDigits_len : ∀ (k u : Nat), 1 ≤ k → u < 10 ^ k → (decDigits u).length ≤ k
  | 0, _, h, _ => by omega
  | k + 1, u, _, h => by
    rw [decDigits]
    split
    · simp
    · rename_i h10
      have hk : 1 ≤ k := by
        rcases Nat.eq_zero_or_pos k with rfl | hk
        · simp at h; omega
        · exact hk
      have := decDigits_len k (u / 10) hk (by rw [Nat.pow_succ] at h; omega)
      simp only [List.length_append, List.length_singleton]
      omega
theorem itoa_len {x : Int} (h0 : -9223372036854775808 ≤ x) (h1 : x ≤ 9223372036854775807) : (itoa x).length ≤ 20 := by
  unfold itoa
  split
  · have := decDigits_len 19 x.natAbs (by omega) (by omega)
    simp only [List.length_cons]; omega
  · have := decDigits_len 19 x.toNat (by omega) (by omega)
    omega
end Go.Proofs.Pw
