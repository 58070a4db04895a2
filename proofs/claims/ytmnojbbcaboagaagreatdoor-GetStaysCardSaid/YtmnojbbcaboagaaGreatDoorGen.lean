/- Ge: walks and plain laws, joined: VerHead VerText VerBeg QMath. Conditions: at each theorem. -/
import Derived.Test.YtmnojbbcaboagaaGreatDoorGel
import Derived.Test.YtmnojbbcaboagaaGreatDoorGeg
import Derived.Test.YtmnojbbcaboagaaGreatDoorGek
import Derived.Shelf.SlSortCmp.QuietGrown
import Derived.Lib.AppendIntMem
import Derived.Deep.CutRange
import Derived.Deep.CutBlock
import Derived.Test.YtmnojbbcaboagaaGreatDoorGec

namespace Go.Proofs.Pw
open Go.RowKit
open Go.Lib hiding intOf
theorem Tryz.infoInt : (Tryz.prog.info? 3).map (fun i => (i.zero, i.size, i.bytes)) = some (some (.int .i64 0), 1, 8) := by kernel_rfl
theorem verMax_bb {a b : Str} (h1 : verErr a ≠ 0) (h2 : verErr b ≠ 0) : verMax a b = [] := by unfold verMax; rw [if_pos ⟨h1, h2⟩]
theorem verMax_bg {a b : Str} (h1 : verErr a ≠ 0) (h2 : verErr b = 0) : verMax a b = b := by unfold verMax; rw [if_neg (fun h => h.2 h2), if_pos h1]
theorem verMax_g {a b : Str} (h1 : verErr a = 0) : verMax a b = if verLess a b = true then b else a := by
  unfold verMax verLess
  rw [if_neg (fun h => h.1 h1), if_neg (fun h => h h1)]
  by_cases h2 : verErr b = 0
  · rw [if_neg (fun h => h h2)]
    by_cases h3 : verCmp a b < 0 <;> simp [h1, h2, h3]
  · rw [if_pos h2]
    simp [h2]
theorem verMax_calls (ks : List Nat) (A : Nat → Addr) (a b : ByteArray) (w : World) (hE : EnvP ks A w) (ha : a.size ≤ 1000000000) (hb : b.size ≤ 1000000000) :
    Calls Tryz.prog 206 #[.string a, .string b] w fun e w' => e = .returned (.string ⟨(verMax a.data.toList b.data.toList).toArray⟩) ∧ Below w.heap.size w w' := by
  by_cases h1 : verErr a.data.toList = 0
  · have hm := verMax_g (b := b.data.toList) h1
    generalize verMax a.data.toList b.data.toList = R at hm ⊢
    have hl := fun W hW => verLess_calls ks A a b W hW ha hb
    generalize verLess a.data.toList b.data.toList = x at hm hl
    have HM := Lib.hid hm
    have HL := Lib.hid hl
    have H1 := Lib.hid h1
    clear hm hl h1
    cases x with
    | true =>
      have HR : Hid (R = b.data.toList) := Lib.hid (by rw [HM.out]; rfl)
      go_enter Tryz.func206, Tryz.ntmps206
      go_wp2_with fail
      refine (verCheck_calls ks A a w hE ha).mono ?_
      rintro e w1 ⟨rfl, hb1⟩
      rw [H1.out, errV_zero]
      have hE1 := hE.below hb1
      go_wp2_with fail
      refine (verCheck_calls ks A a w1 hE1 ha).mono ?_
      rintro e w2 ⟨rfl, hb2⟩
      rw [H1.out, errV_zero]
      have hE2 := hE1.below hb2
      go_wp2_with fail
      refine (HL.out w2 hE2).mono ?_
      rintro e w3 ⟨rfl, hb3⟩
      have hb13 := below_step (below_step hb1 hb2) hb3
      go_wp2_with fail
      go_ret
      rw [HR.out, mk_data]
      exact ⟨rfl, hb13⟩
    | false =>
      have HR : Hid (R = a.data.toList) := Lib.hid (by rw [HM.out]; rfl)
      go_enter Tryz.func206, Tryz.ntmps206
      go_wp2_with fail
      refine (verCheck_calls ks A a w hE ha).mono ?_
      rintro e w1 ⟨rfl, hb1⟩
      rw [H1.out, errV_zero]
      have hE1 := hE.below hb1
      go_wp2_with fail
      refine (verCheck_calls ks A a w1 hE1 ha).mono ?_
      rintro e w2 ⟨rfl, hb2⟩
      rw [H1.out, errV_zero]
      have hE2 := hE1.below hb2
      go_wp2_with fail
      refine (HL.out w2 hE2).mono ?_
      rintro e w3 ⟨rfl, hb3⟩
      have hb13 := below_step (below_step hb1 hb2) hb3
      go_wp2_with fail
      go_ret
      rw [HR.out, mk_data]
      exact ⟨rfl, hb13⟩
  · by_cases h2 : verErr b.data.toList = 0
    · have HR := Lib.hid (verMax_bg h1 h2)
      have H1 := Lib.hid h1
      have H2 := Lib.hid h2
      clear h1 h2
      go_enter Tryz.func206, Tryz.ntmps206
      go_wp2_with fail
      refine (verCheck_calls ks A a w hE ha).mono ?_
      rintro e w1 ⟨rfl, hb1⟩
      rw [errV_pos A H1.out]
      have hE1 := hE.below hb1
      go_wp2_with fail
      refine (verCheck_calls ks A b w1 hE1 hb).mono ?_
      rintro e w2 ⟨rfl, hb2⟩
      rw [H2.out, errV_zero]
      have hE2 := hE1.below hb2
      go_wp2_with fail
      refine (verCheck_calls ks A a w2 hE2 ha).mono ?_
      rintro e w3 ⟨rfl, hb3⟩
      rw [errV_pos A H1.out]
      have hb13 := below_step (below_step hb1 hb2) hb3
      go_wp2_with fail
      go_ret
      rw [HR.out, mk_data]
      exact ⟨rfl, hb13⟩
    · have HR := Lib.hid (verMax_bb h1 h2)
      have H1 := Lib.hid h1
      have H2 := Lib.hid h2
      clear h1 h2
      go_enter Tryz.func206, Tryz.ntmps206
      go_wp2_with fail
      refine (verCheck_calls ks A a w hE ha).mono ?_
      rintro e w1 ⟨rfl, hb1⟩
      rw [errV_pos A H1.out]
      have hE1 := hE.below hb1
      go_wp2_with fail
      refine (verCheck_calls ks A b w1 hE1 hb).mono ?_
      rintro e w2 ⟨rfl, hb2⟩
      rw [errV_pos A H2.out]
      have hb12 := below_step hb1 hb2
      go_wp2_with fail
      go_ret
      rw [HR.out]
      exact ⟨rfl, hb12⟩
def headWords (h : Str) : List Str := split (trimPrefix h [118]) [46]
def headErr (h : Str) : Nat := if hasPrefix h [118] = false ∨ 2 < (headWords h).length then 1 else numErrs (headWords h) 0
def headNums (h : Str) : List Nat := if headErr h = 0 then (headWords h).map (fun w => (numberOf w).1) else []
theorem headNums_len (h : Str) : (headNums h).length ≤ 2 := by
  unfold headNums
  split
  · rename_i h0
    unfold headErr at h0
    split at h0
    · cases h0
    · rename_i h1
      rw [not_or] at h1
      simp; omega
  · simp
def IntsAt (w : World) (v : Value) (l : List Nat) : Prop :=
  ∃ a n cap, ∃ L : Nat → Nat, v = .slice a n cap ∧ l = (List.range n).map L ∧ n ≤ cap ∧ cap ≤ 9223372036854775807 ∧ ∀ j, j < n → ∃ b o, a = some ⟨b, o, none⟩ ∧ w.cell? ⟨b, o + j, none⟩ = some (.int .i64 (L j : Nat))
theorem IntsAt.below {w w' : World} {v : Value} {l : List Nat} (h : IntsAt w v l) (hb : Below w.heap.size w w') : IntsAt w' v l := by
  obtain ⟨a, n, cap, L, h1, h2, h3, h4, h5⟩ := h
  exact ⟨a, n, cap, L, h1, h2, h3, h4, fun j hj => let ⟨b, o, e1, e2⟩ := h5 j hj; ⟨b, o, e1, Below.cell_some hb e2⟩⟩
theorem IntsAt.nil (w : World) : IntsAt w (.slice none 0 0) [] := ⟨none, 0, 0, fun _ => 0, rfl, rfl, Nat.le_refl _, by decide, fun j hj => absurd hj (Nat.not_lt_zero _)⟩
def intVs (L : Nat → Nat) (k : Nat) : List Value := (List.range k).map fun j => .int .i64 (L j : Nat)
theorem intVs_succ (L : Nat → Nat) (k : Nat) : intVs L (k + 1) = intVs L k ++ [.int .i64 (L k : Nat)] := by simp [intVs, List.range_succ]
theorem intsAt_own {w : World} {base e : Nat} {v : Value} {L : Nat → Nat} {k : Nat} (h : w.ownsRow base e 1 v k (intVs L k)) : IntsAt w v ((List.range k).map L) := by
  rcases h.2 with ⟨rfl, h0⟩ | ⟨g, cap, cur, rfl, hb, hg, hn, hm, hs, ht⟩
  · subst h0
    exact IntsAt.nil w
  · refine ⟨_, k, cap, L, rfl, rfl, hn, by unfold maxLen at hm; exact hm, fun j hj => ⟨g, 0, rfl, ?_⟩⟩
    rw [Nat.zero_add, cell_of_row w g j cur e (0, 0) hg]
    have h1 : (intVs L k)[j]? = some (.int .i64 (L j : Nat)) := by simp [intVs, hj]
    rw [← ht, List.getElem?_take, if_pos (by omega)] at h1
    simpa using h1
def numL (L : Nat → ByteArray) (j : Nat) : Nat := (numberOf (L j).data.toList).1
theorem numL_map (n : Nat) (L : Nat → ByteArray) : (List.range n).map (numL L) = (lstF n L).map (fun w => (numberOf w).1) := by simp [numL, lstF]
set_option maxRecDepth 100000 in
set_option maxHeartbeats 1000000 in
theorem verHead_calls (ks : List Nat) (A : Nat → Addr) (s : ByteArray) (w : World) (hE : EnvP ks A w) (hs : s.size ≤ 1000000000) :
    Calls Tryz.prog 87 #[.string s] w fun e w' => (∃ v, e = .returned (.tuple #[v, errV A (headErr s.data.toList)]) ∧ IntsAt w' v (headNums s.data.toList)) ∧ Below w.heap.size w w' := by
  obtain ⟨i0, hi, hz0, hz1, hz2⟩ := info_parts Tryz.infoInt
  have ht : (trimPrefix s.data.toList [118]).length ≤ s.size := by rw [size_eq s]; exact trimPrefix_le _ _
  have ht4 : (⟨(trimPrefix s.data.toList [118]).toArray⟩ : ByteArray).size ≤ 4000000000 := Nat.le_trans ht (by omega)
  have hhe : headErr s.data.toList = if hasPrefix s.data.toList [118] = false ∨ 2 < (split (trimPrefix s.data.toList [118]) [46]).length then 1 else numErrs (split (trimPrefix s.data.toList [118]) [46]) 0 := rfl
  have hhn : headNums s.data.toList = if headErr s.data.toList = 0 then (split (trimPrefix s.data.toList [118]) [46]).map (fun w => (numberOf w).1) else [] := rfl
  generalize headErr s.data.toList = EE at hhe hhn ⊢
  generalize headNums s.data.toList = NN at hhn ⊢
  have HHE := Lib.hid hhe
  have HHN := Lib.hid hhn
  clear hhe hhn
  generalize hpx : hasPrefix s.data.toList [118] = px at HHE
  have HPX := Lib.hid hpx
  clear hpx
  go_enter Tryz.func87, Tryz.ntmps87
  go_wp2_with fail
  refine (cutPrefix_calls _ _ _).mono ?_
  rintro e w1 ⟨rfl, hw1⟩
  subst hw1
  rw [show (⟨#[118]⟩ : ByteArray).data.toList = [118] from rfl, HPX.out]
  go_wp2_with fail
  refine (split_calls _ ⟨#[46]⟩ _ hE.m ht4 (by decide)).mono ?_
  rintro e w3 ⟨n, rfl, hn1, hn2, HL, hb2, hc2, hz2'⟩
  have hn : n = (split (trimPrefix s.data.toList [118]) [46]).length := by
    have := congrArg List.length HL.out
    rw [lstF_length] at this
    exact this
  have HL' : Hid (lstF n (splitL ⟨(trimPrefix s.data.toList [118]).toArray⟩ ⟨#[46]⟩) = split (trimPrefix s.data.toList [118]) [46]) := HL
  have hLs := lstF_mem_le (by decide) HL'.out
  generalize splitL ⟨(trimPrefix s.data.toList [118]).toArray⟩ ⟨#[46]⟩ = L at hc2 HL' hLs ⊢
  have hLs4 : ∀ j, j < n → (L j).size ≤ 4000000000 := fun j hj => Nat.le_trans (hLs j hj) (by omega)
  rw [← HL'.out] at HHE HHN
  have HC := Lib.hid hc2
  have HLS := Lib.hid hLs4
  have hE2 := hE.below hb2
  have g1 := hE2.errs.var 1 hE2.has.1
  simp only [errG] at g1
  clear hn HL hLs hc2 hLs4 HL' ht4 ht hn2
  have bad1 : Hid (px = false ∨ 2 < n → EE = 1 ∧ NN = []) := Lib.hid (fun h => by
    have h1 : EE = 1 := by rw [HHE.out, lstF_length, if_pos h]
    exact ⟨h1, by rw [HHN.out, h1]; rfl⟩)
  cases px with
  | false =>
    obtain ⟨rfl, rfl⟩ := bad1.out (.inl rfl)
    clear bad1 HHE HHN
    go_wp2_with fail
    go_quiet (fail)
    go_wp2_with fail
    go_ret2
    exact ⟨⟨_, rfl, IntsAt.nil _⟩, Below.drewN hb2 _⟩
  | true =>
    by_cases h2 : 2 < n
    · obtain ⟨rfl, rfl⟩ := bad1.out (.inr h2)
      have h2' : (2 : Int) < (n : Int) := by omega
      clear bad1 HHE HHN h2
      go_wp2_with fail
      go_quiet (fail)
      go_wp2_with fail
      go_ret2
      exact ⟨⟨_, rfl, IntsAt.nil _⟩, Below.drewN hb2 _⟩
    · have h2' : ¬ (2 : Int) < (n : Int) := by omega
      have HEE : Hid (EE = numErrs (lstF n L) 0) := Lib.hid (by rw [HHE.out, lstF_length, if_neg (by simp [h2])])
      clear bad1 HHE g1
      go_wp2_with fail
      go_loopw [6, 7, 29] (fun o bad i wr => ∃ k : Nat, k ≤ n ∧ i = .int .i64 k ∧ bad = errV A (numErrs ((lstF n L).take k) 0) ∧ wr.ownsRow w3.heap.size 3 1 o k (intVs (numL L) k) ∧ Below w3.heap.size w3 wr) (fun _ _ i _ => n - (intOf i).toNat)
      case atStart => exact ⟨0, Nat.zero_le _, rfl, rfl, World.ownsRow_nil _ _ _ _, Below.refl _ _⟩
      case round =>
        obtain ⟨k, hk, rfl, rfl, hown, hbr⟩ := hrel
        have hEr := hE2.below hbr
        by_cases hlt : k < n
        · have hck := Below.cell_some hbr (HC.out k hlt)
          have hsn := numErrs_snoc ((lstF n L).take k) (L k).data.toList 0
          rw [← lstF_take_succ n L k hlt] at hsn
          have hle := numErrs_le ((lstF n L).take k) 0 (by decide)
          have HSN := Lib.hid hsn
          have hnb : (numberOf (L k).data.toList).1 ≤ 999999 := (numberOf_le _).1
          have hiv : intVs (numL L) (k + 1) = intVs (numL L) k ++ [.int .i64 ((numberOf (L k).data.toList).1 : Nat)] := intVs_succ _ _
          have hcall := number_calls ks A (L k) wr hEr (HLS.out k hlt)
          generalize (numberOf (L k).data.toList).1 = nk at hcall hnb hiv
          have HIV := Lib.hid hiv
          generalize hcn : numErrs ((lstF n L).take k) 0 = c at hle HSN
          clear hsn hcn hiv
          go_wp2_with fail
          refine hcall.mono ?_
          rintro e w5 ⟨rfl, hb5⟩
          have hE5 := hEr.below hb5
          clear hcall
          go_wp2_with fail
          refine (worse_calls ks A c (numberOf (L k).data.toList).2 w5 hE5 ?_).mono ?_
          · have h12 := hE.has
            rcases (by omega : c = 0 ∨ c = 1 ∨ c = 2) with h | h | h
            · exact .inl h
            · rw [h]; exact .inr h12.1
            · rw [h]; exact .inr h12.2
          rintro e w6 ⟨rfl, hw6⟩
          subst hw6
          rw [← HSN.out]
          have hb35 := below_step hbr hb5
          have hown5 := hown.kept (row := none) ⟨hb5.os, hb5.tape, hb5.output, hb5.size, fun i hi _ => hb5.block i hi⟩ (by cases Value.ownBlock _ <;> simp)
          go_wp2_with (at_builtin; refine wpList_append_own _ rfl _ _ 132 rfl w3.heap.size 3 i0 (.int .i64 0) 1 8 Tryz.underlying132 hi hz0 hz1 hz2 rfl (by decide) _ _ _ rfl (hown5.alloc _) ⟨w5.heap.size, 0, none⟩ 1 1 [.int .i64 (nk : Nat)] rfl rfl (cell_one_new _ _ _) (fun x hx => by simp at hx; subst hx; rfl) (by unfold maxLen; omega) (by omega) (by have := hb35.size; simp; omega) ?_; intro v' w6 hown1 hgrow1 _)
          go_roundw
          case rel =>
            refine ⟨k + 1, by omega, by go_num, rfl, ?_, ?_⟩
            · rw [HIV.out]; exact hown1
            · exact (hb35.alloc hb35.size _).grown hgrow1 (by have := hb35.size; simp; omega) (fun q hq => (hown5.lt q hq).1)
          case measure => simp [intOf]; omega
        · obtain rfl : k = n := by omega
          have hI := intsAt_own hown
          rw [numL_map] at hI
          rw [lstF_take_all, ← HEE.out]
          have hbw := below_step hb2 hbr
          by_cases h0 : EE = 0
          · have HX : Hid (NN = (lstF k L).map (fun w => (numberOf w).1)) := Lib.hid (by rw [HHN.out, if_pos h0])
            have HI := Lib.hid hI
            subst h0
            rw [errV_zero]
            clear hI HHN HEE hown
            go_wp2_with fail
            go_ret2
            rw [HX.out]
            exact ⟨⟨_, rfl, HI.out⟩, hbw⟩
          · have HX : Hid (NN = []) := Lib.hid (by rw [HHN.out, if_neg h0])
            have h00 := errV_pos A h0
            rw [h00]
            clear hI HHN HEE hown
            go_wp2_with fail
            go_ret2
            rw [HX.out, ← h00]
            exact ⟨⟨_, rfl, IntsAt.nil _⟩, hbw⟩
end Go.Proofs.Pw

namespace Go.Proofs.Pw
open Go.RowKit
open Go.Lib hiding intOf
open Go.Sort (grow)
theorem decDigits_len : ∀ (k u : Nat), 1 ≤ k → u < 10 ^ k → (decDigits u).length ≤ k
  | 0, _, h, _ => by omega
  | k + 1, u, _, h => by
    rw [decDigits]
    split
    · simp
    · rename_i h10
      have hk : 1 ≤ k := by
        rcases Nat.eq_zero_or_pos k with rfl | hk
        · simp at h; omega
        · exact hk
      have := decDigits_len k (u / 10) hk (by rw [Nat.pow_succ] at h; omega)
      simp only [List.length_append, List.length_singleton]
      omega
theorem itoa_len {x : Int} (h0 : -9223372036854775808 ≤ x) (h1 : x ≤ 9223372036854775807) : (itoa x).length ≤ 20 := by
  unfold itoa
  split
  · have := decDigits_len 19 x.natAbs (by omega) (by omega)
    simp only [List.length_cons]; omega
  · have := decDigits_len 19 x.toNat (by omega) (by omega)
    omega
end Go.Proofs.Pw

namespace Go.Proofs.Pw
open Go.RowKit
open Go.Lib hiding intOf
theorem equalInts_calls (v u : Value) (l m : List Nat) (w : World) (h : IntsAt w v l) (g : IntsAt w u m) :
    Calls Tryz.prog 209 #[v, u] w fun e w' => e = .returned (.bool (decide (l = m))) ∧ Below w.heap.size w w' := by
  obtain ⟨a, n, cap, L, rfl, rfl, hn, hcap, hc⟩ := h
  obtain ⟨a', n', cap', M, rfl, rfl, hn', hcap', hc'⟩ := g
  by_cases hnn : n = n'
  · subst hnn
    have H1 := Lib.hid hc
    have H2 := Lib.hid hc'
    clear hc hc'
    have hext : ((List.range n).map L = (List.range n).map M) ↔ ∀ j, j < n → L j = M j := by simp
    have HX := Lib.hid hext
    clear hext
    go_enter Tryz.func209, Tryz.ntmps209
    go_wp2_with fail
    go_loopw [13] (fun i wr => ∃ k : Nat, k ≤ n ∧ i = .int .i64 k ∧ Below w.heap.size w wr ∧ Hid (∀ j, j < k → L j = M j)) (fun i _ => n - (intOf i).toNat)
    case atStart => exact ⟨0, by omega, rfl, Below.refl _ _, Lib.hid (fun j hj => absurd hj (Nat.not_lt_zero _))⟩
    case round =>
      obtain ⟨k, hk, rfl, hb, HA⟩ := hrel
      by_cases hlt : k < n
      · obtain ⟨b1, o1, rfl, d1⟩ := H1.out k hlt
        obtain ⟨b2, o2, rfl, d2⟩ := H2.out k hlt
        replace d1 := Below.cell_some hb d1
        replace d2 := Below.cell_some hb d2
        by_cases he : L k = M k
        · have HE := Lib.hid he
          rw [he] at d1
          generalize M k = y at d1 d2
          clear he
          go_wp2_with fail
          go_region
          all_goals
            go_wp2_with fail
            go_roundw
            case rel =>
              refine ⟨k + 1, by omega, by go_num, hb.drew, Lib.hid (fun j hj => ?_)⟩
              by_cases e : j = k
              · subst e; exact HE.out
              · exact HA.out j (by omega)
            case measure => simp [intOf]; omega
        · have HF : Hid (decide ((List.range n).map L = (List.range n).map M) = false) := Lib.hid (decide_eq_false (fun e => he (HX.out.1 e k hlt)))
          have he1 : (((L k : Nat) : Int) == ((M k : Nat) : Int)) = false := beq_eq_false_iff_ne.2 (by omega)
          generalize L k = x at d1 he1
          generalize M k = y at d2 he1
          clear he
          go_wp2_with fail
          go_region
          all_goals
            go_wp2_with fail
            go_ret
            rw [HF.out]
            exact ⟨rfl, hb.drew⟩
      · obtain rfl : k = n := by omega
        have HF : Hid (decide ((List.range k).map L = (List.range k).map M) = true) := Lib.hid (decide_eq_true (HX.out.2 HA.out))
        go_wp2_with fail
        go_ret
        rw [HF.out]
        exact ⟨rfl, hb⟩
  · have HF : Hid (decide ((List.range n).map L = (List.range n').map M) = false) := Lib.hid (decide_eq_false (fun e => hnn (by have := congrArg List.length e; simpa using this)))
    have hnn2 : ((n : Int) == (n' : Int)) = false := beq_eq_false_iff_ne.2 (by omega)
    clear hc hc' hnn
    go_enter Tryz.func209, Tryz.ntmps209
    go_wp2_with fail
    go_ret
    rw [HF.out]
    exact ⟨rfl, Below.refl _ _⟩
def verBegins (s h : Str) : Bool :=
  decide (verErr s = 0) && (decide (s = h) || (decide (headErr h = 0) && decide (headNums h = [verNum s 0, verNum s 1].take (headNums h).length)))
theorem nums_two {n : Nat} (L : Nat → Nat) (x y : Nat) (hn : n ≤ 2) : ((List.range n).map L = [x, y].take ((List.range n).map L).length) ↔ ∀ j, j < n → L j = if j = 0 then x else y := by
  obtain rfl | rfl | rfl : n = 0 ∨ n = 1 ∨ n = 2 := by omega
  · simp
  · simp
  · simp [List.range_succ]
    constructor
    · rintro ⟨h1, h2⟩ j hj
      obtain rfl | rfl : j = 0 ∨ j = 1 := by omega
      · simpa using h1
      · simpa using h2
    · intro h
      exact ⟨by simpa using h 0 (by omega), by simpa using h 1 (by omega)⟩
set_option maxRecDepth 100000 in
set_option maxHeartbeats 1000000 in
theorem verBegins_calls (ks : List Nat) (A : Nat → Addr) (s h : ByteArray) (w : World) (hE : EnvP ks A w) (hs : s.size ≤ 1000000000) (hh : h.size ≤ 1000000000) :
    Calls Tryz.prog 144 #[.string s, .string h] w fun e w' => e = .returned (.bool (verBegins s.data.toList h.data.toList)) ∧ Below w.heap.size w w' := by
  have hm : verBegins s.data.toList h.data.toList = (decide (verErr s.data.toList = 0) && (decide (s.data.toList = h.data.toList) || (decide (headErr h.data.toList = 0) && decide (headNums h.data.toList = [verNum s.data.toList 0, verNum s.data.toList 1].take (headNums h.data.toList).length)))) := rfl
  generalize verBegins s.data.toList h.data.toList = R at hm ⊢
  have HM := Lib.hid hm
  clear hm
  go_enter Tryz.func144, Tryz.ntmps144
  go_wp2_with fail
  refine (verSplit_calls ks A s w hE hs).mono ?_
  rintro e w1 ⟨hb1, v, rfl, a, n, cap, L, rfl, _, _, _, _⟩
  have hbA := below_alloc w1 (.cells #[.int .i64 (verNum s.data.toList 0 : Nat), .int .i64 (verNum s.data.toList 1 : Nat), .int .i64 (verNum s.data.toList 2 : Nat), .slice a n cap] 83)
  have hzA := box4_alloc w1 (.int .i64 (verNum s.data.toList 0 : Nat)) (.int .i64 (verNum s.data.toList 1 : Nat)) (.int .i64 (verNum s.data.toList 2 : Nat)) (.slice a n cap) 83
  have hb1A := below_step hb1 hbA
  have hE1 := (hE.below hb1).below hbA
  generalize verNum s.data.toList 0 = x0 at *
  generalize verNum s.data.toList 1 = x1 at *
  generalize verNum s.data.toList 2 = x2 at *
  by_cases h1 : verErr s.data.toList = 0
  · rw [h1, errV_zero]
    by_cases h2 : s.data.toList = h.data.toList
    · have HR : Hid (R = true) := Lib.hid (by rw [HM.out, decide_eq_true h1, decide_eq_true h2]; rfl)
      obtain rfl := bytes_ext.1 h2
      clear h1 h2
      go_wp2_with fail
      go_ret
      rw [HR.out]
      exact ⟨rfl, hb1A⟩
    · have hq1 : (s.toList == h.toList) = false := by rw [toList_data, toList_data]; exact beq_eq_false_iff_ne.2 h2
      have hq2 : s ≠ h := fun e => h2 (by rw [e])
      have HR : Hid (R = (decide (headErr h.data.toList = 0) && decide (headNums h.data.toList = [x0, x1].take (headNums h.data.toList).length))) := Lib.hid (by rw [HM.out, decide_eq_true h1, decide_eq_false h2]; rfl)
      have hl2 := headNums_len h.data.toList
      have hcall := verHead_calls ks A h _ hE1 hh
      generalize headErr h.data.toList = he at hcall HR
      generalize headNums h.data.toList = hn at hcall HR hl2
      have HCall := Lib.hid hcall
      clear h1 h2 hcall HM
      go_wp2_with fail
      refine HCall.out.mono ?_
      rintro e w3 ⟨⟨vh, rfl, hI⟩, hb3⟩
      obtain ⟨a2, n2, cap2, L2, rfl, rfl, hn2, hcap2, hc2⟩ := id hI
      rw [List.length_map, List.length_range] at hl2
      clear HCall
      by_cases h0 : he = 0
      · subst h0
        rw [errV_zero]
        have hz3 := hzA.below hb3
        have c0 := hz3.c0
        have c1 := hz3.c1
        have HR2 : Hid (R = decide ((List.range n2).map L2 = [x0, x1].take ((List.range n2).map L2).length)) := Lib.hid (by rw [HR.out]; rfl)
        have hI3 : IntsAt (w3.alloc (.cells #[.int .i64 x0, .int .i64 x1] 3)) (.slice (some ⟨w3.heap.size, 0, none⟩) n2 2) ((List.range n2).map fun j => if j = 0 then x0 else x1) :=
          ⟨_, n2, 2, _, rfl, rfl, hl2, by decide, fun j hj => ⟨_, 0, rfl, by
            obtain rfl | rfl : j = 0 ∨ j = 1 := by omega
            all_goals simp⟩⟩
        have hbC := below_alloc w3 (.cells #[.int .i64 x0, .int .i64 x1] 3)
        have hEq := equalInts_calls _ _ _ _ _ (hI.below hbC) hI3
        have hiff : decide ((List.range n2).map L2 = (List.range n2).map fun j => if j = 0 then x0 else x1) = decide ((List.range n2).map L2 = [x0, x1].take ((List.range n2).map L2).length) := by
          congr 1
          rw [nums_two L2 x0 x1 hl2]
          simp
        rw [hiff, ← HR2.out] at hEq
        have HEq := Lib.hid hEq
        have hbw := below_step (below_step hb1A hb3) hbC
        have hl2' : (n2 : Int) ≤ 2 := by omega
        clear hEq hiff HR2 hc2 HR hI hI3 hz3 hzA hbC
        go_wp2_with fail
        refine HEq.out.mono ?_
        rintro e w5 ⟨rfl, hb5⟩
        have hb5w := below_step hbw hb5
        clear HEq
        go_wp2_with fail
        go_ret
        exact ⟨rfl, hb5w⟩
      · have HR2 : Hid (R = false) := Lib.hid (by rw [HR.out, decide_eq_false h0]; rfl)
        rw [errV_pos A h0]
        have hbw := below_step hb1A hb3
        clear h0 HR hc2
        go_wp2_with fail
        go_ret
        rw [HR2.out]
        exact ⟨rfl, hbw⟩
  · have HR : Hid (R = false) := Lib.hid (by rw [HM.out, decide_eq_false h1]; rfl)
    rw [errV_pos A h1]
    clear h1
    go_wp2_with fail
    go_ret
    rw [HR.out]
    exact ⟨rfl, hb1A⟩
end Go.Proofs.Pw

namespace Go.Proofs.Pw
open Go.Lib hiding intOf
def wLatest : Str := [108, 97, 116, 101, 115, 116]
def wUpgrade : Str := [117, 112, 103, 114, 97, 100, 101]
def wPatch : Str := [112, 97, 116, 99, 104]
def wNone : Str := [110, 111, 110, 101]
def qWord (q : Str) : Bool := decide (q = wLatest ∨ q = wUpgrade ∨ q = wPatch ∨ q = wNone)
def signs : List Str := [[60, 61], [62, 61], [60], [62]]
def boundF : List Str → Str → Option (Str × Str)
  | [], _ => none
  | s :: r, q => if hasPrefix q s then some (s, trimPrefix q s) else boundF r q
theorem boundF_len : ∀ {l : List Str} {q : Str} {b : Str × Str}, boundF l q = some b → b.2.length ≤ q.length
  | [], _, _, h => by cases h
  | s :: r, q, b, h => by
    unfold boundF at h
    split at h
    · obtain rfl := Option.some.inj h
      show (trimPrefix q s).length ≤ _
      unfold trimPrefix
      split <;> simp
    · exact boundF_len h
def qBound (q : Str) : Option (Str × Str) := boundF signs q
def qErr (q : Str) : Nat :=
  if qWord q then 0 else match qBound q with
    | some b => verErr b.2
    | none => if verErr q = 1 then headErr q else verErr q
def withinF (sign v s : Str) : Bool :=
  if sign = [60] then verLess s v else if sign = [60, 61] then !verLess v s else if sign = [62] then verLess v s else !verLess s v
def likedF (l : List En) (p : Str) (vs : List Str) (least : Bool) : Option Str :=
  if likedL l p vs = [] then none else some (if least then (likedL l p vs).headD [] else lastS (likedL l p vs))
def patchHead (now : Str) : Str := 118 :: (itoa (verNum now 0 : Nat) ++ 46 :: itoa (verNum now 1 : Nat))
def patchOut (now s : Str) : Bool := !verBegins s (patchHead now) || verLess s now
def patchF (l : List En) (p now : Str) (vs : List Str) : Option Str :=
  if verErr now ≠ 0 then likedF l p vs false else likedF l p (vs.filter fun s => !patchOut now s) false
def namedF (l : List En) (p q now : Str) (vs : List Str) : Option Str :=
  if q = wNone then some q else if q = wPatch then patchF l p now vs
  else (likedF l p vs false).map fun s => if q = wUpgrade then verMax s now else s
def pickF (l : List En) (p q now : Str) : Option Str :=
  if qWord q then namedF l p q now (vsort (versL l p)) else match qBound q with
    | some b => likedF l p ((vsort (versL l p)).filter fun s => !!withinF b.1 b.2 s) (decide (b.1.headD 0 = 62))
    | none => if verErr q = 0 then (if q ∈ vsort (versL l p) then some q else none) else likedF l p ((vsort (versL l p)).filter fun s => !!verBegins s q) false
def pickErr (l : List En) (p q now : Str) : Nat × Int :=
  if qErr q ≠ 0 then (qErr q, -1) else orE (idxErr l) (if (pickF l p q now).isNone then (5, -1) else (0, -1))
def pickS (l : List En) (p q now : Str) : Str := if (pickErr l p q now).1 = 0 then (pickF l p q now).getD [] else []
end Go.Proofs.Pw
