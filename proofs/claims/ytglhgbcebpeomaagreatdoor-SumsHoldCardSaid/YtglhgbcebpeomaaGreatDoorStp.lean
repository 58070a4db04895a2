/- St: walks and plain laws, joined: SumLine. Conditions: at each theorem. -/
import Derived.Test.YtglhgbcebpeomaaGreatDoorSto
import Derived.Test.YtglhgbcebpeomaaGreatDoorStj
import Derived.Test.YtglhgbcebpeomaaGreatDoorStc
import Derived.Test.YtglhgbcebpeomaaGreatDoorStd
import Derived.Test.YtglhgbcebpeomaaGreatDoorStk
import Derived.Stop.IfaceNil

namespace Go.Proofs.Pw
open Go.RowKit
open Go.Lib hiding intOf
theorem atoiAll_short {s : Str} (h : areDigits s = true) (hl : s.length ≤ 17) : atoiAll s ≠ .range := by
  intro hr
  have h' := h
  unfold areDigits at h
  simp only [Bool.and_eq_true, Bool.not_eq_true'] at h
  have hv := decVal_lt s h.2
  have hp := Nat.pow_le_pow_right (n := 10) (by decide) hl
  have key : ∀ (l : Str) (acc : Nat), l.all isDig = true → acc * 10 ^ l.length + decVal l < 10 ^ 18 → parseUint10 acc l ≠ .range := by
    intro l
    induction l with
    | nil => intro acc _ _ e; cases e
    | cons c r ih =>
      intro acc hd hb
      simp only [List.all_cons, Bool.and_eq_true] at hd
      have hc : 48 ≤ c.toNat ∧ c.toNat ≤ 57 := of_decide_eq_true hd.1
      rw [decVal_cons, List.length_cons, Nat.pow_succ] at hb
      have hb2 : (acc * 10 + (c.toNat - 48)) * 10 ^ r.length + decVal r < 10 ^ 18 := by
        rw [Nat.add_mul, Nat.mul_assoc, Nat.mul_comm 10]; omega
      have hp1 : 1 ≤ 10 ^ r.length := Nat.one_le_pow _ _ (by decide)
      have hb3 : acc * 10 + (c.toNat - 48) < 10 ^ 18 := by
        have := Nat.mul_le_mul_left (acc * 10 + (c.toNat - 48)) hp1
        omega
      rw [parseUint10, if_pos hc, if_neg (by omega), if_neg (by omega)]
      exact ih _ hd.2 hb2
  unfold atoiAll at hr
  cases s with
  | nil => simp at h
  | cons c r =>
    have hc : 48 ≤ c.toNat ∧ c.toNat ≤ 57 := by
      have := h.2
      simp only [List.all_cons, Bool.and_eq_true] at this
      exact of_decide_eq_true this.1
    simp only at hr
    rw [if_neg (by omega)] at hr
    unfold parseMag at hr
    rw [if_neg (by simp)] at hr
    have hk := key (c :: r) 0 h.2 (by rw [Nat.zero_mul, Nat.zero_add]; omega)
    rcases parseUint10_digits (c :: r) 0 h.2 with e | e
    · exact hk e
    · rw [e] at hr
      simp only at hr
      have e2 : (c :: r).foldl (fun n c => 10 * n + (c.toNat - 48)) 0 = decVal (c :: r) := rfl
      rw [e2, if_neg (by omega), if_neg (by omega)] at hr
      cases hr
theorem sumW_parts {s : Str} : sumW s = true ↔ areDigits s = true ∧ s.length ≤ 10 ∧ ¬ (1 < s.length ∧ s.head? = some 48) := by
  unfold sumW
  rw [Bool.and_eq_true, Bool.and_eq_true, decide_eq_true_iff, Bool.not_eq_true', ← Bool.not_eq_true, Bool.and_eq_true, decide_eq_true_iff, decide_eq_true_iff, and_assoc]
theorem sumW_ok {s : Str} (h : sumW s = true) : atoiAll s = .ok (decVal s : Nat) ∧ s.length ≤ 10 ∧ itoa ((decVal s : Nat) : Int) = s := by
  obtain ⟨h1, h2, h3⟩ := sumW_parts.1 h
  refine ⟨?_, h2, (itoa_decVal h1).2 h3⟩
  rcases atoiAll_digits h1 with h4 | h4
  · exact absurd h4 (atoiAll_short h1 (by omega))
  · exact h4
theorem sumW_of {s : Str} {z : Int} (h0 : 0 ≤ z) (hl : s.length ≤ 10) (h : itoa z = s) : sumW s = true ∧ (decVal s : Int) = z := by
  obtain ⟨u, rfl⟩ : ∃ u : Nat, z = u := ⟨z.toNat, by omega⟩
  rw [itoa_ofNat] at h
  subst h
  exact ⟨sumW_parts.2 ⟨decDigits_digits u, hl, decDigits_head u⟩, by rw [decVal_decDigits]⟩
theorem atoiAll_bound {s : Str} {z : Int} (h : atoiAll s = .ok z) : -9223372036854775808 ≤ z ∧ z ≤ 9223372036854775807 := by
  unfold atoiAll at h
  cases s with
  | nil => cases h
  | cons c r =>
    simp only at h
    cases hp : parseMag (if c.toNat = 43 ∨ c.toNat = 45 then r else c :: r)
    case ok u =>
      rw [hp] at h
      simp only at h
      split at h
      · cases h
      · rename_i h1
        split at h
        · cases h
        · rename_i h2
          injection h with h
          subst h
          split
          · rename_i h3
            have : ¬ 9223372036854775808 < u := fun h4 => h2 ⟨h3, h4⟩
            omega
          · rename_i h3
            have : ¬ 9223372036854775808 ≤ u := fun h4 => h1 ⟨h3, h4⟩
            omega
    all_goals
      rw [hp] at h
      cases h
theorem atoiAny_calls (ks : List Nat) (A : Nat → Addr) (s : ByteArray) (w : World) (hE : EnvP ks A w) (hs : s.size ≤ 4000000000) :
    Calls Tryz.prog 135 #[.string s] w fun e w' => ((∃ x te pe, e = .returned (.tuple #[.int .i64 x, .iface te pe]) ∧ ∀ z, atoiAll s.data.toList ≠ .ok z) ∨ (∃ z : Int, e = .returned (.tuple #[.int .i64 z, .nilIface]) ∧ atoiAll s.data.toList = .ok z)) ∧ Below w.heap.size w w' := by
  cases h : atoiAll s.data.toList
  case ok v =>
    refine (Tryz.strconv_Atoi_ok s (by omega) _ h w).mono ?_
    rintro e w' ⟨rfl, hw⟩
    refine ⟨.inr ⟨v, rfl, rfl⟩, ?_⟩
    rcases hw with rfl | ⟨t, rfl⟩
    · exact Below.refl _ _
    · exact Lib.bytesWorld_below _ _ _
  case range =>
    obtain ⟨te, pe, hr⟩ := hE.range
    refine (Tryz.strconv_Atoi_range s (by omega) h _ w hr (.inr ⟨te, pe, rfl⟩)).mono ?_
    rintro e w' ⟨N, rfl, _, _, hb⟩
    exact ⟨.inl ⟨_, _, _, rfl, fun z h => by cases h⟩, hb⟩
  · obtain ⟨te, pe, hr⟩ := hE.syn
    refine (Any.strconv_Atoi_syntax Tryz.laysC172 s (by omega) h _ w hr (.inr ⟨te, pe, rfl⟩)).mono ?_
    rintro e w' ⟨N, rfl, _, _, hb⟩
    exact ⟨.inl ⟨_, _, _, rfl, fun z h => by cases h⟩, hb⟩
theorem below_sto3 {B : Nat} {w W : World} (h : Below B w W) {b : Nat} (hb : B ≤ b) (u0 u1 u2 : Value) : Below B w (((W.setCell ⟨b, 0, none⟩ u0).setCell ⟨b, 1, none⟩ u1).setCell ⟨b, 2, none⟩ u2) := ((h.setCell (p := ⟨b, 0, none⟩) hb u0).setCell (p := ⟨b, 1, none⟩) hb u1).setCell (p := ⟨b, 2, none⟩) hb u2
def LineOut (A : Nat → Addr) (s : Str) (e : Ending) : Prop :=
  ∃ (p v : ByteArray) (n : Nat), e = .returned (.tuple #[.agg #[.string p, .string v, .int .u32 n], errV A (lineE s)]) ∧ (lineE s = 0 → (((p.data.toList, v.data.toList), n) : Ln) = lineLn s ∧ n < 4294967296)
theorem lineOut_bad {A : Nat → Addr} {s : Str} {c : Nat} (h : lineE s = c) (hc : c ≠ 0) : LineOut A s (.returned (.tuple #[.agg #[.string ⟨#[]⟩, .string ⟨#[]⟩, .int .u32 0], .iface 371 (.pointer (some (A c)))])) :=
  ⟨⟨#[]⟩, ⟨#[]⟩, 0, by rw [h, errV_pos A hc]; rfl, fun h0 => absurd (h.symm.trans h0) hc⟩
set_option maxHeartbeats 8000000 in
set_option maxRecDepth 100000 in
theorem sumLine_calls (ks : List Nat) (A : Nat → Addr) (hks : IdxKs ks) (s : ByteArray) (w : World) (hE : EnvP ks A w) (hs : s.size ≤ 1000000) :
    Calls Tryz.prog 69 #[.string s] w fun e w' => LineOut A s.data.toList e ∧ Below w.heap.size w w' := by
  have hB := below_alloc w (.cells #[.string ⟨#[]⟩, .string ⟨#[]⟩, .int .u32 0] 64)
  have hz := box3f_alloc w (.string ⟨#[]⟩) (.string ⟨#[]⟩) (.int .u32 0) 64
  have HGL : Hid (2 < w.heap.size ∧ 4 < w.heap.size) := Lib.hid (by
    have g := hE.errs.var 1 hE.has.1
    have g2 := hE.errs.var 2 hE.has.2
    simp only [errG] at g g2
    exact ⟨lt_of_cell g, lt_of_cell g2⟩)
  have hsp := fun W (hW : EnvP ks A W) => split_calls s ⟨#[32]⟩ W hW.m (by omega) (by decide)
  have hck := fun p v W hW h1 h2 => modCheck_calls ks A hks.2.1 p v W hW h1 h2
  replace hsp := Lib.hid hsp
  replace hck := Lib.hid hck
  go_enter Tryz.func69, Tryz.ntmps69
  go_wp2_with fail
  refine (hsp.out _ (hE.below hB)).mono ?_
  rintro e w1 ⟨n, rfl, hn1, hn2, HL, hb, hc, hz1⟩
  replace hB := below_step hB hb
  replace hz := hz.below hb
  have hL : lstF n (splitL s ⟨#[32]⟩) = split s.data.toList [32] := HL.out
  obtain ⟨L, hLL⟩ : ∃ L, splitL s ⟨#[32]⟩ = L := ⟨_, rfl⟩
  rw [hLL] at hL hc
  have hE1 := hE.below hB
  obtain ⟨bs, hbs⟩ : ∃ b, (w.alloc (.cells #[.string ⟨#[]⟩, .string ⟨#[]⟩, .int .u32 0] 64)).heap.size = b := ⟨_, rfl⟩
  rw [hbs] at hc hz1
  simp only [hbs]
  clear HL hb hsp hLL hbs
  by_cases h3 : n = 3
  · subst h3
    have c0 := hc 0 (by decide)
    have c1 := hc 1 (by decide)
    have c2 := hc 2 (by decide)
    have hS : split s.data.toList [32] = [(L 0).data.toList, (L 1).data.toList, (L 2).data.toList] := hL.symm
    have hlens : ∀ j, j < 3 → (L j).size ≤ 1000000 := fun j hj => by
      have hm : (L j).data.toList ∈ split s.data.toList [32] := by rw [← hL]; exact List.mem_of_getElem? (lstF_get 3 L j hj)
      have := split_mem_le [32] (by simp) _ _ (Nat.le_refl _) _ hm
      rw [size_eq] at hs ⊢
      omega
    have hl0 := hlens 0 (by decide)
    have hl1 := hlens 1 (by decide)
    have hl2 := hlens 2 (by decide)
    have H3 := lineE_three hS
    generalize L 0 = p at *
    generalize L 1 = v at *
    generalize L 2 = d at *
    have HLE := Lib.hid H3.1
    have HLL := Lib.hid H3.2
    have hat := atoiAny_calls ks A d w1 hE1 (by omega)
    replace hat := Lib.hid hat
    clear hc hL hS H3 hn1 hn2 hlens hz1
    go_wp2_with fail
    refine hat.out.mono ?_
    rintro e w2 ⟨hr, hb⟩
    replace hB := below_step hB hb
    replace hz := hz.below hb
    replace c0 := Below.cell_some hb c0
    replace c1 := Below.cell_some hb c1
    replace c2 := Below.cell_some hb c2
    have hE2 := hE1.below hb
    clear hat hb
    rcases hr with ⟨x, te, pe, rfl, hno⟩ | ⟨z, rfl, hok⟩
    · have hw : sumW d.data.toList = false := by
        rw [Bool.eq_false_iff]
        exact fun h => hno _ (sumW_ok h).1
      have HF : Hid (lineE s.data.toList = 1) := Lib.hid (by rw [HLE.out, if_pos hw])
      clear hno hw
      go_wp2_with fail
      have kqc2 := fun d os => cell_patch (d := d) (os := os) c2
      refine wp_region_quiet_patch (by kernel_rfl) (by kernel_rfl) ?_
      repeat (go_big_quiet_step (fail))
      refine wpQuiet_nil ?_
      intro _ hw'
      obtain ⟨⟨dq, osq⟩, hw''⟩ := hw'
      subst hw''
      clear kqc2
      have hb := below_patch w2 dq osq
      replace hB := below_step hB hb
      replace hz := hz.below hb
      replace hE2 := hE2.below hb
      clear hb
      generalize patch w2 dq osq = w3 at hB hz hE2 ⊢
      clear c0 c1 c2
      have g1 := hE2.errs.var 1 hE2.has.1
      simp only [errG] at g1
      obtain ⟨z0, z1, z2, zf⟩ := id hz
      have hg1 : w.heap.size ≠ 2 := by have := HGL.out; omega
      have hg2 : 2 ≠ w.heap.size := by have := HGL.out; omega
      go_wp2_with fail
      go_region
      all_goals
        go_wp2_with fail
        refine bodyPost_ret (v := .tuple #[.agg #[.string ⟨#[]⟩, .string ⟨#[]⟩, .int .u32 0], .iface 371 (.pointer (some (A 1)))]) (by simp [results, Tryz.results69, go_sem, *]) rfl ?_
        exact ⟨lineOut_bad HF.out (by decide), below_sto3 hB.drew (Nat.le_refl _) _ _ _⟩
    · have hzb := atoiAll_bound hok
      by_cases h10 : 10 < d.size
      · have h10' : (10 : Int) < (d.size : Int) := by omega
        have HF : Hid (lineE s.data.toList = 1) := Lib.hid (by
          rw [HLE.out, if_pos (by
            rw [Bool.eq_false_iff]
            exact fun h => by have := (sumW_ok h).2.1; rw [← size_eq] at this; omega)])
        clear hok
        go_wp2_with fail
        have kqc2 := fun d os => cell_patch (d := d) (os := os) c2
        refine wp_region_quiet_patch (by kernel_rfl) (by kernel_rfl) ?_
        repeat (go_big_quiet_step (fail))
        refine wpQuiet_nil ?_
        intro _ hw'
        obtain ⟨⟨dq, osq⟩, hw''⟩ := hw'
        subst hw''
        clear kqc2
        have hb := below_patch w2 dq osq
        replace hB := below_step hB hb
        replace hz := hz.below hb
        replace hE2 := hE2.below hb
        clear hb
        generalize patch w2 dq osq = w3 at hB hz hE2 ⊢
        clear c0 c1 c2
        have g1 := hE2.errs.var 1 hE2.has.1
        simp only [errG] at g1
        obtain ⟨z0, z1, z2, zf⟩ := id hz
        have hg1 : w.heap.size ≠ 2 := by have := HGL.out; omega
        have hg2 : 2 ≠ w.heap.size := by have := HGL.out; omega
        go_wp2_with fail
        go_region
        all_goals
          go_wp2_with fail
          refine bodyPost_ret (v := .tuple #[.agg #[.string ⟨#[]⟩, .string ⟨#[]⟩, .int .u32 0], .iface 371 (.pointer (some (A 1)))]) (by simp [results, Tryz.results69, go_sem, *]) rfl ?_
          exact ⟨lineOut_bad HF.out (by decide), below_sto3 hB.drew (Nat.le_refl _) _ _ _⟩
      · have h10' : ¬ (10 : Int) < (d.size : Int) := by omega
        by_cases hz0 : z < 0
        · have HF : Hid (lineE s.data.toList = 1) := Lib.hid (by
            rw [HLE.out, if_pos (by
              rw [Bool.eq_false_iff]
              exact fun h => by have := (sumW_ok h).1; rw [hok] at this; injection this with this; omega)])
          clear hok
          go_wp2_with fail
          have hd1 : decide ((10 : Int) < (d.size : Int)) = false := decide_eq_false (by omega)
          have hd2 : decide (10 < d.size) = false := decide_eq_false (by omega)
          have hd3 : decide (z < 0) = true := decide_eq_true (by omega)
          have kqc2 := fun d os => cell_patch (d := d) (os := os) c2
          refine wp_region_quiet_patch (by kernel_rfl) (by kernel_rfl) ?_
          repeat (go_big_quiet_step (fail))
          refine wpQuiet_nil ?_
          intro _ hw'
          obtain ⟨⟨dq, osq⟩, hw''⟩ := hw'
          subst hw''
          clear kqc2
          have hb := below_patch w2 dq osq
          replace hB := below_step hB hb
          replace hz := hz.below hb
          replace hE2 := hE2.below hb
          clear hb
          generalize patch w2 dq osq = w3 at hB hz hE2 ⊢
          clear c0 c1 c2 hd1 hd2 hd3
          have g1 := hE2.errs.var 1 hE2.has.1
          simp only [errG] at g1
          obtain ⟨z0, z1, z2, zf⟩ := id hz
          have hg1 : w.heap.size ≠ 2 := by have := HGL.out; omega
          have hg2 : 2 ≠ w.heap.size := by have := HGL.out; omega
          go_wp2_with fail
          go_region
          all_goals
            go_wp2_with fail
            refine bodyPost_ret (v := .tuple #[.agg #[.string ⟨#[]⟩, .string ⟨#[]⟩, .int .u32 0], .iface 371 (.pointer (some (A 1)))]) (by simp [results, Tryz.results69, go_sem, *]) rfl ?_
            exact ⟨lineOut_bad HF.out (by decide), below_sto3 hB.drew (Nat.le_refl _) _ _ _⟩
        · obtain ⟨u, rfl⟩ : ∃ u : Nat, z = u := ⟨z.toNat, by omega⟩
          have hit := fun W hW => itoa_calls ks A u W hW (by omega)
          have kE := Lib.hid (fun dd os => hE2.below (below_patch w2 dd os))
          by_cases heq : itoa ((u : Nat) : Int) = d.data.toList
          · obtain ⟨hw, hv⟩ := sumW_of (s := d.data.toList) (Int.natCast_nonneg u) (by rw [← size_eq]; omega) heq
            have hdv : decVal d.data.toList = u := by omega
            have hdd : (⟨(itoa ((u : Nat) : Int)).toArray⟩ : ByteArray) = d := bytes_eq.1 heq
            rw [hdd] at hit
            have hq : (d.toList != d.toList) = false := by simp
            have HE0 : Hid (lineE s.data.toList = if 4294967295 < u then 2 else modErr p.data.toList v.data.toList) := Lib.hid (by rw [HLE.out, if_neg (by rw [hw]; decide), hdv])
            have HLV : Hid (lineLn s.data.toList = ((p.data.toList, v.data.toList), u)) := Lib.hid (by rw [HLL.out, hdv])
            replace hit := Lib.hid hit
            clear hok heq hw hv hdv hdd
            go_wp2_with fail
            have hd1 : decide ((10 : Int) < (d.size : Int)) = false := decide_eq_false (by omega)
            have hd2 : decide (10 < d.size) = false := decide_eq_false (by omega)
            have hd3 : decide ((u : Int) < 0) = false := decide_eq_false (by omega)
            have kqc2 := fun d os => cell_patch (d := d) (os := os) c2
            refine wp_region_quiet_patch (by kernel_rfl) (by kernel_rfl) ?_
            repeat (go_big_quiet_step ((go_at_call 136; with_reducible exact Calls.patch_of (hit.out _ (kE.out _ _)))))
            refine wpQuiet_nil ?_
            intro _ hw'
            obtain ⟨⟨dq, osq⟩, hw''⟩ := hw'
            subst hw''
            clear kqc2
            have hb := below_patch w2 dq osq
            replace hB := below_step hB hb
            replace hz := hz.below hb
            replace hE2 := hE2.below hb
            replace c0 := Below.cell_some hb c0
            replace c1 := Below.cell_some hb c1
            clear hb
            generalize patch w2 dq osq = w3 at hB hz hE2 c0 c1 ⊢
            clear c2 kE hq hd1 hd2 hd3
            by_cases hbig : 4294967295 < u
            · have hb' : (4294967295 : Int) < (u : Int) := by omega
              have HF : Hid (lineE s.data.toList = 2) := Lib.hid (by rw [HE0.out, if_pos hbig])
              have g1 := hE2.errs.var 2 hE2.has.2
              simp only [errG] at g1
              obtain ⟨z0, z1, z2, zf⟩ := id hz
              have hg1 : w.heap.size ≠ 4 := by have := HGL.out.2; omega
              have hg2 : 4 ≠ w.heap.size := by have := HGL.out.2; omega
              clear hbig c0 c1
              go_wp2_with fail
              go_region
              all_goals
                go_wp2_with fail
                refine bodyPost_ret (v := .tuple #[.agg #[.string ⟨#[]⟩, .string ⟨#[]⟩, .int .u32 0], .iface 371 (.pointer (some (A 2)))]) (by simp [results, Tryz.results69, go_sem, *]) rfl ?_
                exact ⟨lineOut_bad HF.out (by decide), below_sto3 hB.drew (Nat.le_refl _) _ _ _⟩
            · have hb' : ¬ (4294967295 : Int) < (u : Int) := by omega
              have HE1 : Hid (lineE s.data.toList = modErr p.data.toList v.data.toList) := Lib.hid (by rw [HE0.out, if_neg hbig])
              have hbW := hB.drew
              have ca := below_alloc w3 (.cells #[.string ⟨#[]⟩, .string ⟨#[]⟩] 29)
              have c0a := Below.cell_some ca c0
              have c1a := Below.cell_some ca c1
              clear hbig HE0 ca
              go_wp2_with fail
              go_region
              all_goals
                have hB4 := (hB.alloc hB.size (.cells #[.string p, .string v] 29)).drew
                have hba := (below_alloc w3 (.cells #[.string p, .string v] 29)).drew
                have hz4 := hz.below hba
                have hE4 := hE2.below hba
                have hx4 : Box2 (w3.alloc (.cells #[.string p, .string v] 29)).drew w3.heap.size (.string p) (.string v) := ⟨(box2_alloc w3 (.string p) (.string v) 29).c0, (box2_alloc w3 (.string p) (.string v) 29).c1, (box2_alloc w3 (.string p) (.string v) 29).fr⟩
                clear c0a c1a c0 c1 hbW hz hE2 hB hba
                generalize (w3.alloc (.cells #[.string p, .string v] 29)).drew = w4 at *
                generalize w3.heap.size = bx at *
                have hc1 := hck.out p v w4 hE4 (by omega) (by omega)
                obtain ⟨E, hEE⟩ : ∃ E, modErr p.data.toList v.data.toList = E := ⟨_, rfl⟩
                rw [hEE] at hc1
                have HF : Hid (lineE s.data.toList = E) := Lib.hid (by rw [HE1.out, hEE])
                obtain ⟨x0, x1, xf⟩ := id hx4
                by_cases h0 : E = 0
                · subst h0
                  rw [errV_zero] at hc1
                  have hwu := wrap_u32_nat u (by omega)
                  replace hc1 := Lib.hid hc1
                  clear hEE x0 x1 xf
                  obtain ⟨x0, x1, xf⟩ := id hx4
                  go_wp2_with fail
                  refine hc1.out.mono ?_
                  rintro e w5 ⟨rfl, hb⟩
                  have hB5 := below_step hB4 hb
                  obtain ⟨z0, z1, z2, zf⟩ := hz4.below hb
                  replace x0 := Below.cell_some hb x0
                  replace x1 := Below.cell_some hb x1
                  clear xf hc1 hb hx4 hz4
                  go_wp2_with fail
                  refine bodyPost_ret (v := .tuple #[.agg #[.string p, .string v, .int .u32 u], .nilIface]) (by simp [results, Tryz.results69, go_sem, *]) rfl ?_
                  exact ⟨⟨p, v, u, by rw [HF.out]; rfl, fun _ => ⟨HLV.out.symm, by omega⟩⟩, below_sto3 hB5 (Nat.le_refl _) _ _ _⟩
                · rw [errV_pos A h0] at hc1
                  have H0 := Lib.hid h0
                  replace hc1 := Lib.hid hc1
                  clear hEE h0
                  go_wp2_with fail
                  refine hc1.out.mono ?_
                  rintro e w5 ⟨rfl, hb⟩
                  have hB5 := below_step hB4 hb
                  obtain ⟨z0, z1, z2, zf⟩ := hz4.below hb
                  clear x0 x1 xf hc1 hb hx4 hz4
                  go_wp2_with fail
                  refine bodyPost_ret (v := .tuple #[.agg #[.string ⟨#[]⟩, .string ⟨#[]⟩, .int .u32 0], .iface 371 (.pointer (some (A E)))]) (by simp [results, Tryz.results69, go_sem, *]) rfl ?_
                  exact ⟨lineOut_bad HF.out H0.out, below_sto3 hB5 (Nat.le_refl _) _ _ _⟩
          · have hw : sumW d.data.toList = false := by
              rw [Bool.eq_false_iff]
              exact fun h => heq (by
                have h1 := (sumW_ok h).1
                rw [hok] at h1
                injection h1 with h1
                have := (sumW_ok h).2.2
                rwa [← h1] at this)
            have HF : Hid (lineE s.data.toList = 1) := Lib.hid (by rw [HLE.out, if_pos hw])
            obtain ⟨I, hI⟩ : ∃ I : ByteArray, (⟨(itoa ((u : Nat) : Int)).toArray⟩ : ByteArray) = I := ⟨_, rfl⟩
            have hq2 : (I.toList == d.toList) = false := by
              rw [toList_data, toList_data, beq_eq_false_iff_ne, ← hI]
              exact heq
            have hq : (I.toList != d.toList) = true := by
              rw [toList_data, toList_data, bne_iff_ne, ← hI]
              exact heq
            rw [hI] at hit
            replace hit := Lib.hid hit
            clear hok heq hw hI
            go_wp2_with fail
            have hd1 : decide ((10 : Int) < (d.size : Int)) = false := decide_eq_false (by omega)
            have hd2 : decide (10 < d.size) = false := decide_eq_false (by omega)
            have hd3 : decide ((u : Int) < 0) = false := decide_eq_false (by omega)
            have kqc2 := fun d os => cell_patch (d := d) (os := os) c2
            refine wp_region_quiet_patch (by kernel_rfl) (by kernel_rfl) ?_
            repeat (go_big_quiet_step ((go_at_call 136; with_reducible exact Calls.patch_of (hit.out _ (kE.out _ _)))))
            refine wpQuiet_nil ?_
            intro _ hw'
            obtain ⟨⟨dq, osq⟩, hw''⟩ := hw'
            subst hw''
            clear kqc2
            have hb := below_patch w2 dq osq
            replace hB := below_step hB hb
            replace hz := hz.below hb
            replace hE2 := hE2.below hb
            clear hb
            generalize patch w2 dq osq = w3 at hB hz hE2 ⊢
            clear c0 c1 c2 kE hd1 hd2 hd3
            have g1 := hE2.errs.var 1 hE2.has.1
            simp only [errG] at g1
            obtain ⟨z0, z1, z2, zf⟩ := id hz
            have hg1 : w.heap.size ≠ 2 := by have := HGL.out; omega
            have hg2 : 2 ≠ w.heap.size := by have := HGL.out; omega
            go_wp2_with fail
            go_region
            all_goals
              go_wp2_with fail
              refine bodyPost_ret (v := .tuple #[.agg #[.string ⟨#[]⟩, .string ⟨#[]⟩, .int .u32 0], .iface 371 (.pointer (some (A 1)))]) (by simp [results, Tryz.results69, go_sem, *]) rfl ?_
              exact ⟨lineOut_bad HF.out (by decide), below_sto3 hB.drew (Nat.le_refl _) _ _ _⟩
  · have h3' : ((n : Int) != 3) = true := by rw [bne_iff_ne]; omega
    have HF : Hid (lineE s.data.toList = 1) := Lib.hid (lineE_form (by rw [← hL, lstF_length]; exact h3))
    clear hc hL hz1 h3
    have g1 := hE1.errs.var 1 hE1.has.1
    simp only [errG] at g1
    obtain ⟨z0, z1, z2, zf⟩ := id hz
    have hg1 : w.heap.size ≠ 2 := by have := HGL.out; omega
    have hg2 : 2 ≠ w.heap.size := by have := HGL.out; omega
    go_wp2_with fail
    go_region
    all_goals
      go_wp2_with fail
      refine bodyPost_ret (v := .tuple #[.agg #[.string ⟨#[]⟩, .string ⟨#[]⟩, .int .u32 0], .iface 371 (.pointer (some (A 1)))]) (by simp [results, Tryz.results69, go_sem, *]) rfl ?_
      exact ⟨lineOut_bad HF.out (by decide), below_sto3 hB.drew (Nat.le_refl _) _ _ _⟩
end Go.Proofs.Pw
