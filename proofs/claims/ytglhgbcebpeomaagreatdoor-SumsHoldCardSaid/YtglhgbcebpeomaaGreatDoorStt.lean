/- St: walks and plain laws, joined: SumVerify Summed FmtUint. Conditions: at each theorem. -/
import Derived.Test.YtglhgbcebpeomaaGreatDoorSts
import Derived.Test.YtglhgbcebpeomaaGreatDoorStk
import Derived.Stop.IfaceNil
import Derived.Test.YtglhgbcebpeomaaGreatDoorStn
import Derived.Deep.RegionHeld2
import Derived.Deep.Upon
import Derived.Test.YtglhgbcebpeomaaGreatDoorShelf
import Derived.Test.YtglhgbcebpeomaaGreatDoorStb
import Derived.Test.YtglhgbcebpeomaaGreatDoorSto
import Derived.Lib.AppendIntMem
import Derived.Lib.ItoaMem

namespace Go.Proofs.Pw
open Go.RowKit
open Go.Lib hiding intOf
def TestsL (g : Nat) (lb : Array Value) (p : Nat → Bool) (n : Nat) (P V : Nat → ByteArray) (S : Nat → Nat) (base : Nat) (w : World) : Prop :=
  ∀ W, Below base w W → ∀ j, j < n → Calls Tryz.prog g (#[.agg #[.string (P j), .string (V j), .int .u32 (S j : Nat)]] ++ lb) W fun e w'' => e = .returned (.bool (p j)) ∧ Below W.heap.size W w''
set_option maxHeartbeats 1000000 in
set_option maxRecDepth 100000 in
theorem indexFuncL_calls (g : Nat) (lb : Array Value) (eg : ∀ args w, (callFunc g args).run Tryz.prog w = .ok (.enter g args) w) (p : Nat → Bool) (q : Ln → Bool) (a : Option Addr) (n cap base : Nat) (P V : Nat → ByteArray) (S : Nat → Nat) (w : World) (hn : n ≤ 1000000) (hbase : base ≤ w.heap.size)
    (hc : LnsIn .u32 w a n cap P V fun j => ((S j : Nat) : Int)) (hq : ∀ j, j < n → q (lnAt (lnF n P V S) j) = p j) (hT : TestsL g lb p n P V S base w) :
    Calls Tryz.prog 72 #[.slice a n cap, .func (.func g) #[] lb] w fun e w' => e = .returned (.int .i64 (findI q (lnF n P V S))) ∧ Below w.heap.size w w' := by
  replace hc := Lib.hid hc
  replace hT := Lib.hid hT
  replace hq := Lib.hid hq
  go_enter Tryz.func72, Tryz.ntmps72
  go_wp2_with fail
  go_loopw [8] (fun i wr => ∃ k : Nat, k ≤ n ∧ i = .int .i64 k ∧ Below w.heap.size w wr ∧ Hid (∀ j, j < k → p j = false)) (fun i _ => n - (intOf i).toNat)
  case atStart => exact ⟨0, by omega, rfl, Below.refl _ _, Lib.hid (fun j hj => absurd hj (Nat.not_lt_zero _))⟩
  case round =>
    obtain ⟨k, hk, rfl, hb, HA⟩ := hrel
    by_cases hlt : k < n
    · obtain ⟨b1, o1, rfl, hcell⟩ := hc.out.at_ k hlt
      obtain ⟨c0, c1, c2⟩ := hcell.below hb
      have hcall := hT.out wr (hb.mono hbase) k hlt
      have hget := lnF_get n P V S k hlt
      clear hcell
      cases hp : p k with
      | true =>
        have HR : Hid (findI q (lnF n P V S) = k) := Lib.hid (findI_hit hget (by have := hq.out k hlt; rw [lnAt_lnF hlt] at this; rw [this, hp]) (fun j y hj hy => by
          rw [lnF_get n P V S j (by omega)] at hy
          have h1 := hq.out j (by omega)
          rw [lnAt_lnF (by omega)] at h1
          cases hy
          rw [h1]; exact HA.out j hj))
        rw [hp] at hcall
        clear hp hget
        go_wp2_with (go_at_fn g; refine hcall.mono ?_; rintro e w' ⟨rfl, hb2⟩)
        go_ret
        rw [HR.out]
        exact ⟨rfl, below_step hb hb2⟩
      | false =>
        have HN : Hid (∀ j, j < k + 1 → p j = false) := Lib.hid (fun j hj => by
          by_cases e : j = k
          · subst e; exact hp
          · exact HA.out j (by omega))
        rw [hp] at hcall
        clear hp hget
        go_wp2_with (go_at_fn g; refine hcall.mono ?_; rintro e w' ⟨rfl, hb2⟩)
        go_roundw
        case rel => exact ⟨k + 1, by omega, by go_num, below_step hb hb2, HN⟩
        case measure => simp [intOf]; omega
    · obtain rfl : k = n := by omega
      have HR : Hid (findI q (lnF k P V S) = -1) := Lib.hid (findI_none (fun j y hy => by
        have hj : j < k := by have := (List.getElem?_eq_some_iff.1 hy).1; rwa [lnF_length] at this
        have h1 := hq.out j hj
        rw [lnAt_lnF hj] at h1
        rw [lnF_get k P V S j hj] at hy
        cases hy
        rw [h1]; exact HA.out j hj))
      go_wp2_with fail
      go_ret
      rw [HR.out]
      exact ⟨rfl, hb⟩
theorem Tryz.enters_sverify1 : ∀ args w, (callFunc 73 args).run Tryz.prog w = .ok (.enter 73 args) w := Go.Proofs.enters_of Tryz.func73 (by kernel_rfl) rfl
theorem sumsVerify1_calls (p v s u : ByteArray) (x : Nat) (b : Nat) (w : World) (h0 : w.cell? ⟨b, 0, none⟩ = some (.string s)) (h1 : w.cell? ⟨b, 1, none⟩ = some (.string u)) :
    Calls Tryz.prog 73 #[.agg #[.string p, .string v, .int .u32 x], .pointer (some ⟨b, 0, none⟩)] w fun e w' => e = .returned (.bool (decide (p = s ∧ v = u))) ∧ Below w.heap.size w w' := by
  have hb := below_alloc w (.cells #[.string p, .string v, .int .u32 x] 64)
  have d0 := Below.cell_some hb h0
  have d1 := Below.cell_some hb h1
  have hg := Tryz.md_guard
  have hq := md_eql p v s u
  generalize decide (p = s ∧ v = u) = X at hq ⊢
  go_enter Tryz.func73, Tryz.ntmps73
  go_wp2_with fail
  go_ret
  exact ⟨rfl, hb⟩
theorem lnTs_at {l : List En} {sel : List Md} {T : List LnB} (h0 : (allErr l sel).1 = 0) (h : lnTs T = sumsL l sel) : T.length = sel.length ∧ ∀ j, j < sel.length → mdAt sel j = ((lnG T j).1.data.toList, (lnG T j).2.1.data.toList) ∧ sumOf (entOf l (mdAt sel j)) = (lnG T j).2.2 := by
  rw [sumsL_ok h0] at h
  have h1 := congrArg List.length h
  rw [lnTs_length, List.length_map] at h1
  refine ⟨h1, fun j hj => ?_⟩
  have h2 : (lnTs T)[j]? = (sel.map (sumPair l))[j]? := by rw [h]
  rw [lnTs_F, lnF_get _ _ _ _ j (by omega), List.getElem?_map, mdAt_get hj] at h2
  have h3 := Option.some.inj h2
  unfold sumPair at h3
  exact ⟨(congrArg (·.1) h3).symm, (congrArg (·.2) h3).symm⟩
set_option maxHeartbeats 8000000 in
set_option maxRecDepth 100000 in
theorem sumsVerify_in (ks : List Nat) (A : Nat → Addr) (hks : IdxKs ks) (h10 : 10 ∈ ks) (a : Option Addr) (n cap : Nat) (P V : Nat → ByteArray) (R : Nat → List Md) (K : Nat → List Str) (B : Nat → Bool) (Rv Kv : Nat → Value) (sv hv : Value) (sel : List Md) (hl : List Ln) (l : List En) (hle : enF n P V R K B = l) (w : World) (hE : EnvP ks A w) (h : EntsIn w a n cap P V R K B Rv Kv) (hs : ShortI l) (hr : ModsAt w sv sel) (hsl : sel.length ≤ 1000000) (hh : LnsAt .u32 w hv hl) (hhl : hl.length ≤ 1000000) :
    Calls Tryz.prog 25 #[.slice a n cap, sv, hv] w fun e w' => (∃ ev, e = .returned ev ∧ FaultAt A w' ev (verifyErr l sel hl)) ∧ Below w.heap.size w w' := by
  have hal := sumsAll_in ks A hks a n cap P V R K B Rv Kv sv sel l hle w hE h hs hr hsl
  obtain ⟨a2, m, cap2, Q, U, rfl, hsm, -⟩ := id hr
  obtain ⟨a3, hn, hcap, Ph, Vh, Sh, rfl, hlm, hin⟩ := hh
  have hhn : hn ≤ 1000000 := by rw [hlm, lnF_length] at hhl; exact hhl
  have HIN := Lib.hid hin
  have HV : Hid (verifyErr l sel hl = orE (allErr l sel) (firstE (verE l sel hl) sel.length)) := Lib.hid rfl
  have hfi := fun (p v : ByteArray) (b : Nat) (W : World) (hW : Below w.heap.size w W) (h0 : W.cell? ⟨b, 0, none⟩ = some (.string p)) (h1 : W.cell? ⟨b, 1, none⟩ = some (.string v)) =>
    indexFuncL_calls 73 #[.pointer (some ⟨b, 0, none⟩)] Tryz.enters_sverify1 (fun j => decide (Ph j = p ∧ Vh j = v)) (isLn (p.data.toList, v.data.toList)) a3 hn hcap W.heap.size Ph Vh Sh W hhn (Nat.le_refl _) (HIN.out.below hW)
      (fun j hj => by
        rw [lnAt_lnF hj]
        unfold isLn
        rw [Bool.eq_iff_iff, decide_eq_true_iff, decide_eq_true_iff]
        exact bytes_pair)
      (fun W2 hW2 j hj => sumsVerify1_calls (Ph j) (Vh j) p v (Sh j) b W2 (Below.cell_some hW2 h0) (Below.cell_some hW2 h1))
  have HFN : Hid (∀ p v : ByteArray, findI (isLn (p.data.toList, v.data.toList)) (lnF hn Ph Vh Sh) = findL hl (p.data.toList, v.data.toList)) := Lib.hid (fun p v => by rw [hlm]; rfl)
  have HHA : Hid (∀ j, j < hn → lnAt hl j = (((Ph j).data.toList, (Vh j).data.toList), Sh j)) := Lib.hid (fun j hj => by rw [hlm, lnAt_lnF hj])
  have HHL : Hid (hl.length = hn) := Lib.hid (by rw [hlm, lnF_length])
  have HSM := Lib.hid hsm
  have hm : sel.length ≤ 1000000 := hsl
  replace hal := Lib.hid hal
  replace hfi := Lib.hid hfi
  clear hin hlm hsm hr hs h hle hsl
  go_enter Tryz.func25, Tryz.ntmps25
  go_wp2_with fail
  refine hal.out.mono ?_
  rintro e w2 ⟨⟨v2, ev, T, rfl, hO, hT, hf⟩, hB⟩
  clear hal
  rcases fault_form hf with ⟨h0, rfl⟩ | ⟨h0, ty, qq, rfl⟩
  · obtain ⟨hTl, hTa⟩ := lnTs_at h0 hT
    have hLI := lnsAt_own hO
    obtain ⟨ao, no, co, rfl⟩ := own_form hO
    have HV1 : Hid (verifyErr l sel hl = firstE (verE l sel hl) sel.length) := Lib.hid (by rw [HV.out]; unfold orE; rw [if_neg (by simp [h0])])
    have HLC : Hid (∀ W, Below w2.heap.size w2 W → ∀ j, j < T.length → ∃ b o, ao = some ⟨b, o, none⟩ ∧ LnC .u32 W b (o + j * 3) (lnG T j).1 (lnG T j).2.1 ((lnG T j).2.2 : Nat)) := Lib.hid (fun W hW j hj => lnG_cells (ownsRow_kept hO hW) j hj)
    obtain rfl : no = T.length := ownL_len hO
    have HTA := Lib.hid hTa
    rw [← hTl] at hm
    have HTL := Lib.hid hTl
    clear hf h0 hT hO hLI hTa hTl
    generalize hM : T.length = m9 at *
    clear hM
    go_wp2_with fail
    go_loopw [23] (fun i wr => ∃ k : Nat, k ≤ m9 ∧ i = .int .i64 k ∧ Below w2.heap.size w2 wr ∧ Hid (∀ j, j < k → verE l sel hl j = 0)) (fun i _ => m9 - (intOf i).toNat)
    case atStart => exact ⟨0, Nat.zero_le _, rfl, Below.refl _ _, Lib.hid (fun j hj => absurd hj (Nat.not_lt_zero _))⟩
    case round =>
      obtain ⟨k, hk, rfl, hBr, HA⟩ := hrel
      by_cases hlt : k < m9
      · have hkn : (k : Int) < (m9 : Int) := by omega
        obtain ⟨b1, o1, ea, hc⟩ := HLC.out wr hBr k hlt
        obtain ⟨c0, c1, c2⟩ := hc
        obtain ⟨hm1, hm2⟩ := HTA.out k (by rw [← HTL.out]; exact hlt)
        have hR : verE l sel hl k = if findL hl (mdAt sel k) < 0 then 5 else if (lnAt hl (findL hl (mdAt sel k)).toNat).2 ≠ sumOf (entOf l (mdAt sel k)) then 10 else 0 := rfl
        rw [hm2, hm1] at hR
        generalize (lnG T k).1 = p at *
        generalize (lnG T k).2.1 = v at *
        generalize (lnG T k).2.2 = S at *
        have hba := below_alloc wr (.cells #[.string p, .string v, .int .u32 S] 64)
        have hx : LnC .u32 (wr.alloc (.cells #[.string p, .string v, .int .u32 S] 64)) wr.heap.size 0 p v S := ⟨by simp, by simp, by simp⟩
        have hB3 := below_step hBr hba
        have hf1 := hfi.out p v wr.heap.size _ (below_step hB hB3) hx.c0 hx.c1
        rw [HFN.out] at hf1
        subst ea
        obtain ⟨x, hx0⟩ : ∃ x, findL hl (p.data.toList, v.data.toList) = x := ⟨_, rfl⟩
        rw [hx0] at hf1 hR
        have HX0 := Lib.hid hx0
        have HSL : Hid (k < sel.length) := Lib.hid (by rw [← HTL.out]; exact hlt)
        clear hm1 hm2 hx0 hba
        by_cases hxn : x < 0
        · rw [if_pos hxn] at hR
          have HF : Hid (verifyErr l sel hl = (5, (k : Int))) := Lib.hid (by rw [HV1.out, firstE_hit (by rw [hR]; decide) HA.out HSL.out, hR])
          replace hf1 := Lib.hid hf1
          clear hR hBr
          go_wp2_with fail
          refine hf1.out.mono ?_
          rintro e w8 ⟨rfl, hb8⟩
          have hB8 := below_step (below_step hB hB3) hb8
          have g5 := (hE.below hB8).errs.var 5 hks.2.2.1
          simp only [errG] at g5
          clear c0 c1 c2 hx
          go_wp2_with fail
          go_ret
          rw [HF.out]
          refine ⟨⟨_, rfl, .inr (.inr ⟨(show (5 : Nat) ≠ 0 by decide), w8.heap.size, rfl, by simp, ?_⟩)⟩, hB8.alloc hB8.size _⟩
          show _ = some (errV A 5)
          rw [errV_pos A (show (5 : Nat) ≠ 0 by decide)]
          simp
        · rw [if_neg hxn] at hR
          obtain ⟨q, hq1, hq2, _⟩ := findL_nat (h := hl) (m := (p.data.toList, v.data.toList)) (by rw [HX0.out]; exact hxn)
          obtain rfl : x = (q : Int) := by rw [← HX0.out, hq1]
          rw [HHL.out] at hq2
          rw [Int.toNat_natCast, HHA.out q hq2] at hR
          have hq' : ¬ ((q : Nat) : Int) < 0 := by omega
          have hqn : ((q : Nat) : Int) < (hn : Int) := by omega
          replace hf1 := Lib.hid hf1
          clear hq1 hxn HX0
          go_wp2_with fail
          refine hf1.out.mono ?_
          rintro e w8 ⟨rfl, hb8⟩
          have hB8 := below_step (below_step hB hB3) hb8
          have hB28 := below_step hB3 hb8
          obtain ⟨y0, y1, y2⟩ := hx.below hb8
          obtain ⟨b3, o3, ea, d0, d1, d2⟩ := (HIN.out.below hB8).at_ q hq2
          subst ea
          clear hf1 hb8 c0 c1 c2 hx hB3 y0 y1 d0 d1
          by_cases hS : Sh q = S
          · rw [if_neg (fun h => h hS)] at hR
            have hne : (((Sh q : Nat) : Int) != ((S : Nat) : Int)) = false := by rw [hS]; simp
            have HN : Hid (∀ j, j < k + 1 → verE l sel hl j = 0) := Lib.hid (fun j hj => by
              by_cases e : j = k
              · subst e; exact hR
              · exact HA.out j (by omega))
            clear hR hS
            go_wp2_with fail
            have kqy2 := fun d os => cell_patch (d := d) (os := os) y2
            have kqd2 := fun d os => cell_patch (d := d) (os := os) d2
            refine wp_region_quiet_patch (by kernel_rfl) (by kernel_rfl) ?_
            repeat (go_big_quiet_step (fail))
            refine wpQuiet_nil ?_
            intro _ hw'
            obtain ⟨⟨dq, osq⟩, hw''⟩ := hw'
            subst hw''
            clear kqy2 kqd2
            have hb := below_patch w8 dq osq
            replace hB28 := below_step hB28 hb
            clear hb
            generalize patch w8 dq osq = w9 at hB28 ⊢
            clear y2 d2
            go_wp2_with fail
            go_roundw
            case rel => exact ⟨k + 1, by omega, by go_num, hB28, HN⟩
            case measure => simp [intOf]; omega
          · rw [if_pos hS] at hR
            have hne : (((Sh q : Nat) : Int) != ((S : Nat) : Int)) = true := by rw [bne_iff_ne]; omega
            have HF : Hid (verifyErr l sel hl = (10, (k : Int))) := Lib.hid (by rw [HV1.out, firstE_hit (by rw [hR]; decide) HA.out HSL.out, hR])
            clear hR hS hB28
            go_wp2_with fail
            have kqy2 := fun d os => cell_patch (d := d) (os := os) y2
            have kqd2 := fun d os => cell_patch (d := d) (os := os) d2
            refine wp_region_quiet_patch (by kernel_rfl) (by kernel_rfl) ?_
            repeat (go_big_quiet_step (fail))
            refine wpQuiet_nil ?_
            intro _ hw'
            obtain ⟨⟨dq, osq⟩, hw''⟩ := hw'
            subst hw''
            clear kqy2 kqd2
            have hb := below_patch w8 dq osq
            replace hB8 := below_step hB8 hb
            clear hb
            generalize patch w8 dq osq = w9 at hB8 ⊢
            clear y2 d2
            have g5 := (hE.below hB8).errs.var 10 h10
            simp only [errG] at g5
            go_wp2_with fail
            go_ret
            rw [HF.out]
            refine ⟨⟨_, rfl, .inr (.inr ⟨(show (10 : Nat) ≠ 0 by decide), w9.heap.size, rfl, by simp, ?_⟩)⟩, hB8.alloc hB8.size _⟩
            show _ = some (errV A 10)
            rw [errV_pos A (show (10 : Nat) ≠ 0 by decide)]
            simp
      · obtain rfl : k = m9 := by omega
        have hkn : ¬ (k : Int) < (k : Int) := by omega
        have HF : Hid (verifyErr l sel hl = (0, -1)) := Lib.hid (by rw [HV1.out, ← HTL.out, firstE_none HA.out])
        go_wp2_with fail
        go_ret
        rw [HF.out]
        exact ⟨⟨_, rfl, .inl ⟨rfl, rfl, rfl⟩⟩, below_step hB hBr⟩
  · have HV1 : Hid (verifyErr l sel hl = allErr l sel) := Lib.hid (by rw [HV.out]; unfold orE; rw [if_pos (by simp [h0])])
    have HVF := Lib.hid hf
    obtain ⟨ao, no, co, rfl⟩ := own_form hO
    clear hf h0 hT hO
    go_wp2_with fail
    go_ret
    rw [HV1.out]
    exact ⟨⟨_, rfl, HVF.out⟩, hB⟩
end Go.Proofs.Pw

namespace Go.Proofs.Pw
open Go.RowKit Go.Sort
open Go.Lib hiding intOf
def selB : List Md := [(sB.data.toList, v010.data.toList)]
theorem selB_err : allErr s3L selB = (0, -1) := by decide +kernel
theorem selB_txt : sumTxt (entOf s3L (sB.data.toList, v010.data.toList)) = [98, 64, 118, 48, 46, 49, 46, 48, 10] := by decide +kernel
theorem selB_sum : sumOf (entOf s3L (sB.data.toList, v010.data.toList)) = crcF [98, 64, 118, 48, 46, 49, 46, 48, 10] := by
  unfold sumOf
  rw [selB_txt]
theorem smallE_calls (w : World) :
    Calls Tryz.prog 50 #[] w fun e w' => (∃ (eb : Nat) (Rv Kv : Nat → Value), e = .returned (.slice (some ⟨eb, 0, none⟩) 4 4) ∧ EntsIn w' (some ⟨eb, 0, none⟩) 4 4 s3P s3V s3R s3K smB Rv Kv) ∧ Below w.heap.size w w' := by
  refine (small3_calls w).mono ?_
  rintro e w' ⟨h1, h2⟩
  subst h2
  exact ⟨⟨_, _, _, h1, s3W_in w⟩, s3W_below w⟩
theorem selB_in (w : World) : ModsAt (w.alloc (.cells #[.string sB, .string v010] 29)) (.slice (some ⟨w.heap.size, 0, none⟩) 1 1) selB := by
  have h0 := new_cell w [.string sB, .string v010] 29 rfl (c := 0) rfl
  have h1 := new_cell w [.string sB, .string v010] 29 rfl (c := 1) rfl
  refine ⟨some ⟨w.heap.size, 0, none⟩, 1, 1, fun _ => sB, fun _ => v010, rfl, rfl, Nat.le_refl _, by decide, fun i hi => ?_⟩
  obtain rfl : i = 0 := by omega
  exact ⟨w.heap.size, 0, rfl, h0, h1⟩
set_option maxHeartbeats 4000000 in
set_option maxRecDepth 100000 in
theorem summed_calls (ks : List Nat) (A : Nat → Addr) (hks : IdxKs ks) (h10 : 10 ∈ ks) (w : World) (hE : EnvP ks A w) :
    Calls Tryz.prog 9 #[] w fun e w' => e = .returned (.bool true) ∧ Below w.heap.size w w' := by
  have hsm := fun W => small3_calls W
  have hse := fun W => smallE_calls W
  have hB := s3W_below w
  have hba := below_alloc (s3W w) (.cells #[.string sB, .string v010] 29)
  have hB2 := below_step hB hba
  have hal := sumsAll_in ks A hks (some ⟨w.heap.size + 3, 0, none⟩) 4 4 s3P s3V s3R s3K smB (s3Rv w.heap.size) (s3Kv w.heap.size) (.slice (some ⟨(s3W w).heap.size, 0, none⟩) 1 1) selB s3L rfl _ (hE.below hB2) ((s3W_in w).below hba) s3_short (selB_in (s3W w)) (by decide)
  have hcr := fun W => refCrc_calls ⟨#[98, 64, 118, 48, 46, 49, 46, 48, 10]⟩ W (by decide)
  have hve := fun (eb sb : Nat) (Rv Kv : Nat → Value) (W : World) (hb : Below w.heap.size w W) (he : EntsIn W (some ⟨eb, 0, none⟩) 4 4 s3P s3V s3R s3K smB Rv Kv) (hr : ModsAt W (.slice (some ⟨sb, 0, none⟩) 1 1) selB) (v : Value) (hv : LnsAt .u32 W v (selB.map (sumPair s3L))) => sumsVerify_in ks A hks h10 (some ⟨eb, 0, none⟩) 4 4 s3P s3V s3R s3K smB Rv Kv (.slice (some ⟨sb, 0, none⟩) 1 1) v selB _ s3L rfl _ (hE.below hb) he s3_short hr (by decide) hv (by rw [List.length_map]; decide)
  rw [verify_self (by rw [selB_err])] at hve
  unfold SumsOut at hal
  rw [selB_err, sumsL_ok (by rw [selB_err])] at hal
  have HSB := Lib.hid (fun W => s3W_below W)
  obtain ⟨w1, hW1⟩ : ∃ W, s3W w = W := ⟨_, rfl⟩
  rw [hW1] at hal hB2 hba
  have HS1 := Lib.hid hW1
  obtain ⟨C, hC⟩ : ∃ C, crcF [98, 64, 118, 48, 46, 49, 46, 48, 10] = C := ⟨_, rfl⟩
  have hC32 : C < 4294967296 := by rw [← hC]; exact crcF_32 _
  rw [show (⟨#[98, 64, 118, 48, 46, 49, 46, 48, 10]⟩ : ByteArray).data.toList = [98, 64, 118, 48, 46, 49, 46, 48, 10] from rfl, hC] at hcr
  have HSUM : Hid (selB.map (sumPair s3L) = [((sB.data.toList, v010.data.toList), C)]) := Lib.hid (by
    show [((sB.data.toList, v010.data.toList), sumOf (entOf s3L (sB.data.toList, v010.data.toList)))] = _
    rw [selB_sum, hC])
  unfold sB v010 at hal
  replace hsm := Lib.hid hsm
  replace hse := Lib.hid hse
  replace hal := Lib.hid hal
  replace hcr := Lib.hid hcr
  replace hve := Lib.hid hve
  clear hE hB hba hW1 hC
  go_enter Tryz.func9, Tryz.ntmps9
  go_wp2_with fail
  refine (hsm.out _).mono ?_
  rintro e w' ⟨rfl, hw'⟩
  rw [HS1.out] at hw'
  subst hw'
  go_wp2_with fail
  refine hal.out.mono ?_
  rintro e w2 ⟨⟨v2, ev1, T, rfl, hO, hT, hf1⟩, hb⟩
  obtain rfl : ev1 = .nilIface := by
    rcases fault_form hf1 with ⟨_, h⟩ | ⟨h, _⟩
    · exact h
    · exact absurd rfl h
  have hLA := lnsAt_own hO
  rw [hT] at hLA
  obtain ⟨ao, no, co, rfl⟩ := own_form hO
  have hno := ownL_len hO
  have hTl : T.length = 1 := by
    have := congrArg List.length hT
    rw [lnTs_length, HSUM.out] at this
    exact this
  obtain ⟨b1, o1, ea, hc⟩ := lnG_cells hO 0 (by omega)
  have hS0 : (lnG T 0).2.2 = C := by
    have h1 := lnAt_G (T := T) (i := 0) (by omega)
    rw [hT, HSUM.out] at h1
    have h2 := congrArg (·.2) h1
    exact h2.symm
  obtain ⟨_, _, c2⟩ := hc
  rw [hS0] at c2
  obtain rfl : no = 1 := by omega
  subst ea
  simp only [Nat.zero_mul, Nat.add_zero] at c2
  replace hB2 := below_step hB2 hb
  have hw := wrap63 C (by omega)
  have HLA := Lib.hid hLA
  clear hb hf1 hal hO hT hTl hno hS0 hLA
  have C2 := Lib.hid c2
  have hbW := (Below.refl w2.heap.size w2).drew
  have HB2 := Lib.hid hB2
  clear c2 hB2
  have heq : ((C : Int) == (C : Int)) = true := beq_self_eq_true _
  go_wp2_with fail
  have HSI := Lib.hid (fun W => s3W_in W)
  have HSE := Lib.hid (fun W => selB_in W)
  unfold sB v010 at HSE
  have hbX : Below w2.heap.size w2 (w2.alloc (.cells #[.string ⟨#[98]⟩, .string ⟨#[118, 48, 46, 49, 46, 48]⟩] 29)).drew := (below_alloc w2 _).drew
  have hsB : ModsAt (w2.alloc (.cells #[.string ⟨#[98]⟩, .string ⟨#[118, 48, 46, 49, 46, 48]⟩] 29)).drew (.slice (some ⟨w2.heap.size, 0, none⟩) 1 1) selB := (HSE.out w2).below (Below.refl _ _).drew
  have HSBB := Lib.hid hsB
  clear hsB HSI HSB
  go_region_held2 (fun W => W.cell? ⟨b1, o1 + 2, none⟩ = some (.int .u32 (C : Nat))) (first
    | with_reducible exact Below.cell_some hbV C2.out
    | with_reducible exact Below.cell_some (below_step hbA (below_alloc _ _)) C2.out
    | with_reducible exact Below.cell_some hbA C2.out
    | with_reducible exact Below.cell_some hbB C2.out
    | with_reducible exact Below.cell_some hbX C2.out
    | with_reducible exact Below.cell_some hbW C2.out) (first
    | (go_at_call 51; refine (hcr.out _).mono ?_; rintro e w' ⟨rfl, rfl⟩)
    | (go_at_call 50; with_reducible refine (hse.out w2.drew).mono ?_; rintro e w3 ⟨⟨eb, Rv3, Kv3, rfl, hen⟩, hb3⟩; have hbA := below_step hbW hb3)
    | (go_at_call 50; with_reducible refine (hse.out (w2.alloc (.cells #[.string ⟨#[98]⟩, .string ⟨#[118, 48, 46, 49, 46, 48]⟩] 29)).drew).mono ?_; rintro e w3 ⟨⟨eb, Rv3, Kv3, rfl, hen⟩, hb3⟩; have hbB := below_step hbX hb3; have hsel := HSBB.out.below hb3)
    | (have hA0 := hbA; go_at_call 25; refine (hve.out _ _ _ _ (w3.alloc (.cells #[.string ⟨#[98]⟩, .string ⟨#[118, 48, 46, 49, 46, 48]⟩] 29)) (below_step HB2.out (below_step hA0 (below_alloc _ _))) (hen.below (below_alloc _ _)) (HSE.out w3) _ (HLA.out.below (below_step hA0 (below_alloc _ _)))).mono ?_; rintro e w4 ⟨⟨ev2, rfl, hf2⟩, hb4⟩; have hev2 : ev2 = .nilIface := (by rcases fault_form hf2 with ⟨_, h⟩ | ⟨h, _⟩; exact h; exact absurd rfl h); subst hev2; have hbV := below_step (below_step hA0 (below_alloc _ _)) hb4)
    | (have hA0 := hbB; go_at_call 25; refine (hve.out _ _ _ _ w3 (below_step HB2.out hA0) hen hsel _ (HLA.out.below hA0)).mono ?_; rintro e w4 ⟨⟨ev2, rfl, hf2⟩, hb4⟩; have hev2 : ev2 = .nilIface := (by rcases fault_form hf2 with ⟨_, h⟩ | ⟨h, _⟩; exact h; exact absurd rfl h); subst hev2; have hbV := below_step hA0 hb4))
  all_goals
    go_wp2_with fail
    go_ret
    exact ⟨by simp, below_step HB2.out hbV⟩
end Go.Proofs.Pw

namespace Go.Proofs.Pw
open Go.RowKit Go.Sort
open Go.Lib hiding intOf
set_option maxHeartbeats 6400000 in
set_option maxRecDepth 100000 in
theorem fmtUintIn_calls (u : Nat) (hu64 : u < 18446744073709551616) (w : World) (htab : Lib.TabIs Tryz.prog w "internal/strconv.uint64pow10" .u64 Lib.pow10Tab) :
    Calls Tryz.prog 128 #[.int .u64 u, .int .i64 10] w fun e w' => e = .returned (.string ⟨(Lib.decDigits u).toArray⟩) ∧ Below w.heap.size w w' := by
  by_cases h100 : u < 100
  · have hlt : (u : Int) < 100 := by omega
    have hwr := wrap63 u (by omega)
    have hsm := Tryz.internal_strconv_small u h100 w
    replace hsm := Lib.hid hsm
    go_enter Tryz.func128, Tryz.ntmps128
    go_wp2_with fail
    refine hsm.out.mono ?_
    rintro e w' ⟨rfl, rfl⟩
    go_wp2_with fail
    go_ret
    exact ⟨rfl, Below.refl _ _⟩
  · have hlt : ¬ (u : Int) < 100 := by omega
    have hu1 : 1 ≤ u := by omega
    have hnd20 : Lib.nDigits u ≤ 20 := by have := Lib.numDigits_eq u hu1 hu64; split at this <;> omega
    have hal : Tryz.prog.arrayLen 255 = 24 := by kernel_rfl
    have hsl : ∀ W, (Instr.sliceAt 255 (.pointer (some ⟨w.heap.size, 0, none⟩)) none (some (.int .i64 (Lib.nDigits u : Int))) none).run Tryz.prog W = .ok (.slice (some ⟨w.heap.size, 0, none⟩) (Lib.nDigits u) 24) W := fun W => by
      rw [run_sliceAt_array_h W 255 ⟨w.heap.size, 0, none⟩ (by simp [Program.arrayLen, Program.elem, Tryz.underlying255]) .i64 (Lib.nDigits u : Int) (by omega) (by rw [hal]; omega)]
      go_simp
    have hnd := Tryz.internal_strconv_numDigits u hu1 hu64 (w.alloc (.cells Lib.zeros24 255)) (Lib.tabIs_alloc htab _)
    have hH0 := Lib.holds_zero0 w 255 (Lib.nDigits u) (by omega)
    have hfmt := Tryz.internal_strconv_formatBase10 w.heap.size 0 24 u (Array.replicate (Lib.nDigits u) 0) (w.alloc (.cells Lib.zeros24 255)) hH0 (by rw [Array.size_replicate]; exact Lib.lt_pow_nDigits u) hu64 (by rw [Array.size_replicate]; omega)
    rw [Array.size_replicate] at hfmt
    have HH0 := Lib.hid hH0
    have hcv : ∀ (k : Nat) (v' : Nat) (dk : Array UInt8), FmtInv (Lib.nDigits u) u 0 v' dk → (convert 98 9 (.slice (some ⟨w.heap.size, 0, none⟩) (Lib.nDigits u) 24)).run Tryz.prog ((putRow (fun (b : UInt8) => Value.int .u8 (b.toNat : Int)) (w.alloc (.cells Lib.zeros24 255)) w.heap.size 0 dk).drewN k) = .ok (.string ⟨(Lib.decDigits u).toArray⟩) ((putRow (fun (b : UInt8) => Value.int .u8 (b.toNat : Int)) (w.alloc (.cells Lib.zeros24 255)) w.heap.size 0 dk).drewN k) := fun k v' dk hF => by
      have h := run_convert_bytes_back (P := Tryz.prog) ((putRow (fun (b : UInt8) => Value.int .u8 (b.toNat : Int)) (w.alloc (.cells Lib.zeros24 255)) w.heap.size 0 dk).drewN k) 98 9 5 ⟨w.heap.size, 0, none⟩ 24 (Lib.decDigits u) Tryz.underlying98 Tryz.underlying5 Tryz.underlying9 (fun j hj => by
        rw [Lib.row_is_numeral hF j hj, Lib.add_plain, World.cell?_drewN]
        exact cell?_putRow (fun (b : UInt8) => Value.int .u8 (b.toNat : Int)) _ w.heap.size 0 _ dk HH0.out (by rw [hF.size, Array.size_replicate]) j (by rw [hF.size]; rw [Lib.decDigits_length] at hj; exact hj))
      rw [Lib.decDigits_length] at h
      exact h
    have hfin := fun (dk : Array UInt8) (k : Nat) => Lib.fin_at w (.cells Lib.zeros24 255) dk k 0
    replace hnd := Lib.hid hnd
    replace hfmt := Lib.hid hfmt
    replace hcv := Lib.hid hcv
    replace hfin := Lib.hid hfin
    clear hH0 hal h100 htab
    go_enter Tryz.func128, Tryz.ntmps128
    go_wp2_with fail
    refine hnd.out.mono ?_
    rintro e w' ⟨rfl, rfl⟩
    go_wp2_with fail
    refine hfmt.out.mono ?_
    rintro e w' ⟨rfl, k, v', dk, rfl, hF⟩
    have hcv1 := hcv.out k v' dk hF
    obtain ⟨os, hos⟩ := hfin.out dk k
    have HOS := Lib.hid hos
    clear hcv hfin hos hF hfmt hnd
    go_wp2_with fail
    go_ret
    refine ⟨rfl, ?_⟩
    rw [HOS.out]
    exact below_grow _ _ (Nat.le_refl _) _ _
theorem fmtUint_calls (ks : List Nat) (A : Nat → Addr) (u : Nat) (hu64 : u < 18446744073709551616) (w : World) (hE : EnvP ks A w) :
    Calls Tryz.prog 64 #[.int .u64 u, .int .i64 10] w fun e w' => e = .returned (.string ⟨(Lib.decDigits u).toArray⟩) ∧ Below w.heap.size w w' := by
  have hf := fmtUintIn_calls u hu64 w hE.pow10
  replace hf := Lib.hid hf
  clear hE
  go_enter Tryz.func64, Tryz.ntmps64
  go_wp2_with fail
  refine hf.out.mono ?_
  rintro e w' ⟨rfl, hb⟩
  go_wp2_with fail
  go_ret
  exact ⟨rfl, hb⟩
end Go.Proofs.Pw
