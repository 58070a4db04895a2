/- The document's IsMatch, PatternError; pat.Check, pat.Some. Conditions: texts of at most 1000000 bytes. -/
import Derived.Test.YtaelindfneoajaaGreatDoorRefG
import Derived.Test.YtaelindfneoajaaGreatDoorVerSort
import Derived.Test.YtaelindfneoajaaGreatDoorModPath
import Derived.Test.YtaelindfneoajaaGreatDoorRepl
namespace Go.Proofs.Pw
open Go.RowKit
open Go.Lib hiding intOf

theorem hasSuffix_take {p q : Str} (h : q.length ≤ p.length) : hasSuffix p q = decide (p.drop (p.length - q.length) = q) := by
  unfold hasSuffix
  rw [Bool.eq_iff_iff, decide_eq_true_iff, List.isSuffixOf_iff_suffix, List.suffix_iff_eq_drop]
  exact eq_comm

theorem app_bytes (a b : ByteArray) : (a ++ b).data.toList = a.data.toList ++ b.data.toList := by rw [ByteArray.data_append, Array.toList_append]
theorem sd_toList : (⟨#[47, 46, 46, 46]⟩ : ByteArray).toList = slashDots := by rw [toList_data]; rfl
theorem sd_bytes : (⟨#[47, 46, 46, 46]⟩ : ByteArray).data.toList = slashDots := rfl
set_option maxHeartbeats 400000 in
theorem isMatch_calls (p s : ByteArray) (w : World) (hp : p.size ≤ 1000000) (hs : s.size ≤ 1000000) :
    Calls Tryz.prog 23 #[.string p, .string s] w fun e w' => e = .returned (.bool (pMatch p.data.toList s.data.toList)) ∧ Below w.heap.size w w' := by
  have hm : pMatch p.data.toList s.data.toList = (pmatches (split p.data.toList dots) s.data.toList || (hasSuffix p.data.toList slashDots && pmatches (split (trimSuffix p.data.toList slashDots) dots) s.data.toList)) := rfl
  generalize pMatch p.data.toList s.data.toList = R at hm ⊢
  have h1 := fun W => refMatches_calls p s W hp hs
  generalize pmatches (split p.data.toList dots) s.data.toList = X at hm h1
  cases X with
  | true =>
    have HF : Hid (R = true) := Lib.hid (by rw [hm]; rfl)
    replace h1 := Lib.hid h1
    clear hm
    go_enter Tryz.func23, Tryz.ntmps23
    go_wp2_with fail
    refine (h1.out _).mono ?_
    rintro e w1 ⟨rfl, hb1⟩
    go_wp2_with fail
    go_ret
    rw [HF.out]
    exact ⟨rfl, hb1⟩
  | false =>
    rw [Bool.false_or] at hm
    by_cases h4 : p.size < 4
    · have HF : Hid (R = false) := Lib.hid (by
        rw [hm]
        cases e : hasSuffix p.data.toList slashDots with
        | false => rfl
        | true =>
          unfold hasSuffix at e
          have := (List.isSuffixOf_iff_suffix.1 e).length_le
          rw [← size_eq, show slashDots.length = 4 from rfl] at this
          omega)
      have h4' : (p.size : Int) < 4 := by omega
      replace h1 := Lib.hid h1
      clear hm
      go_enter Tryz.func23, Tryz.ntmps23
      go_wp2_with fail
      refine (h1.out _).mono ?_
      rintro e w1 ⟨rfl, hb1⟩
      go_wp2_with fail
      go_ret
      rw [HF.out]
      exact ⟨rfl, hb1⟩
    · have h4' : ¬ (p.size : Int) < 4 := by omega
      have hsub : (p.size : Int) - 4 = ((p.size - 4 : Nat) : Int) := by omega
      have hsf := hasSuffix_take (p := p.data.toList) (q := slashDots) (by rw [← size_eq]; show 4 ≤ _; omega)
      rw [← size_eq, show slashDots.length = 4 from rfl] at hsf
      have e1 : (p.extract (p.size - 4) p.size).toList = p.data.toList.drop (p.size - 4) := by rw [toList_data, extract_to_end]
      by_cases hq : p.data.toList.drop (p.size - 4) = slashDots
      · rw [decide_eq_true hq] at hsf
        have ht : trimSuffix p.data.toList slashDots = p.data.toList.take (p.size - 4) := by
          unfold trimSuffix
          rw [hsf, if_pos rfl, ← size_eq]; rfl
        have hx : (p.extract 0 (p.size - 4)).data.toList = p.data.toList.take (p.size - 4) := by simp
        rw [hsf, Bool.true_and, ht, ← hx] at hm
        have h2 := fun W => refMatches_calls (p.extract 0 (p.size - 4)) s W (by have := extract_size_le p 0 (p.size - 4); omega) hs
        rw [← hm] at h2
        have hbe : ((p.extract (p.size - 4) p.size).toList == ([47, 46, 46, 46] : Str)) = true := by rw [e1, hq]; rfl
        have hbn : ((p.extract (p.size - 4) p.size).toList != ([47, 46, 46, 46] : Str)) = false := by unfold bne; rw [hbe]; rfl
        have hbx : (p.extract (p.size - 4) p.size).toList = [47, 46, 46, 46] := by rw [e1, hq]; rfl
        replace h1 := Lib.hid h1
        replace h2 := Lib.hid h2
        clear hm hq hsf ht hx e1
        go_enter Tryz.func23, Tryz.ntmps23
        go_wp2_with fail
        refine (h1.out _).mono ?_
        rintro e w1 ⟨rfl, hb1⟩
        go_wp2_with fail
        refine (h2.out _).mono ?_
        rintro e w2 ⟨rfl, hb2⟩
        go_wp2_with fail
        go_ret
        exact ⟨rfl, below_step hb1 hb2⟩
      · have HF : Hid (R = false) := Lib.hid (by rw [hm, hsf, decide_eq_false hq]; rfl)
        have hbe : ((p.extract (p.size - 4) p.size).toList == ([47, 46, 46, 46] : Str)) = false := by
          rw [e1]; exact beq_eq_false_iff_ne.2 hq
        have hbn : ((p.extract (p.size - 4) p.size).toList != ([47, 46, 46, 46] : Str)) = true := by unfold bne; rw [hbe]; rfl
        have hbx : (p.extract (p.size - 4) p.size).toList ≠ [47, 46, 46, 46] := by rw [e1]; exact hq
        replace h1 := Lib.hid h1
        clear hm hq hsf e1
        go_enter Tryz.func23, Tryz.ntmps23
        go_wp2_with fail
        refine (h1.out _).mono ?_
        rintro e w1 ⟨rfl, hb1⟩
        go_wp2_with fail
        go_ret
        rw [HF.out]
        exact ⟨rfl, hb1⟩

theorem xs_snoc_none (T : List (Option UInt8)) : xs (T ++ [none]) = xs T ++ [120] := by simp [xs]
theorem xs_snoc_some (T : List (Option UInt8)) (c : UInt8) : xs (T ++ [some c]) = xs T ++ [c] := by simp [xs]
theorem extract_one (p : ByteArray) (k : Nat) (hk : k < p.size) : (p.extract k (k + 1)).data.toList = [p[k]] := by
  have : p.extract k (k + 1) = p.extract k (k + 1) := rfl
  rw [extract_data, Nat.add_sub_cancel_left]
  rw [drop_cons p k hk]; rfl

set_option maxHeartbeats 400000 in
theorem patError_calls (p : ByteArray) (w : World) (hp : p.size ≤ 1000000) :
    Calls Tryz.prog 21 #[.string p] w fun e w' => e = .returned (.int .i64 (patErrOf (pathErr (xs (toks p.data.toList))) : Nat)) ∧ Below w.heap.size w w' := by
  have hxl := xs_len p.data.toList
  rw [← size_eq] at hxl
  go_enter Tryz.func21, Tryz.ntmps21
  go_wp2_with fail
  go_loop [3, 4] (fun s i => ∃ (k : Nat) (T : List (Option UInt8)), k ≤ p.size ∧ i = .int .i64 k ∧ s = .string ⟨(xs T).toArray⟩ ∧ T.length ≤ k ∧ Hid (toks p.data.toList = T ++ toks (p.data.toList.drop k))) (fun _ i => p.size - (intOf i).toNat)
  case atStart => exact ⟨0, [], Nat.zero_le _, rfl, rfl, Nat.le_refl _, Lib.hid rfl⟩
  case round =>
    obtain ⟨k, T, hk, rfl, rfl, hTk, HT⟩ := hrel
    by_cases hlt : k < p.size
    · have hbd := fun W => beginsDots p k W (by omega)
      have hTs : (⟨(xs T).toArray⟩ : ByteArray).size = T.length := by rw [size_eq]; simp [xs]
      cases hq : hasPrefix (p.data.toList.drop k) dots with
      | true =>
        obtain ⟨ht, hk3⟩ := toks_at_hit hlt hq
        have HT3 : Hid (toks p.data.toList = (T ++ [none]) ++ toks (p.data.toList.drop (k + 3))) := Lib.hid (by rw [HT.out, ht]; simp)
        have HX : Hid ((⟨(xs T).toArray⟩ : ByteArray) ++ ⟨#[120]⟩ = ⟨(xs (T ++ [none])).toArray⟩) := Lib.hid (by
          apply bytes_eq.1; rw [app_bytes, xs_snoc_none])
        rw [hq] at hbd
        clear hq ht
        replace hbd := Lib.hid hbd
        go_wp2_with fail
        refine (hbd.out _).mono ?_
        rintro e w' ⟨rfl, rfl⟩
        go_wp2_with fail
        go_round
        case rel => exact ⟨k + 3, T ++ [none], hk3, by go_num, by rw [HX.out], by simp; omega, HT3⟩
        case measure => simp [intOf]; omega
      | false =>
        have ht := toks_at_miss hlt hq
        have HT3 : Hid (toks p.data.toList = (T ++ [some p[k]]) ++ toks (p.data.toList.drop (k + 1))) := Lib.hid (by rw [HT.out, ht]; simp)
        have HX : Hid ((⟨(xs T).toArray⟩ : ByteArray) ++ p.extract k (k + 1) = ⟨(xs (T ++ [some p[k]])).toArray⟩) := Lib.hid (by
          apply bytes_eq.1; rw [app_bytes, xs_snoc_some, extract_one p k hlt])
        have hes : (p.extract k (k + 1)).size = 1 := by rw [size_eq, extract_one p k hlt]; rfl
        rw [hq] at hbd
        clear hq ht
        replace hbd := Lib.hid hbd
        go_wp2_with fail
        refine (hbd.out _).mono ?_
        rintro e w' ⟨rfl, rfl⟩
        go_wp2_with fail
        go_round
        case rel => exact ⟨k + 1, T ++ [some p[k]], by omega, by go_num, by rw [HX.out], by simp; omega, HT3⟩
        case measure => simp [intOf]; omega
    · obtain rfl : k = p.size := by omega
      have hT : toks p.data.toList = T := by rw [HT.out, drop_size, toks_nil, List.append_nil]
      have hc := fun W => refPath_calls ⟨(xs T).toArray⟩ W (by rw [size_eq]; show (xs T).length ≤ _; rw [← hT]; omega)
      have HQ : Hid (patErrOf (pathErr (xs (toks p.data.toList))) = patErrOf (pathErr (xs T))) := Lib.hid (by rw [hT])
      rw [show (⟨(xs T).toArray⟩ : ByteArray).data.toList = xs T from rfl] at hc
      generalize pathErr (xs T) = q at hc HQ
      replace hc := Lib.hid hc
      by_cases h4 : q = 4
      · subst h4
        rw [show patErrOf 4 = 0 from rfl] at HQ
        go_wp2_with fail
        refine (hc.out _).mono ?_
        rintro e w1 ⟨rfl, hb1⟩
        go_wp2_with fail
        go_ret
        rw [HQ.out]
        exact ⟨rfl, hb1⟩
      · have HF : Hid (patErrOf (pathErr (xs (toks p.data.toList))) = q) := Lib.hid (HQ.out.trans (if_neg h4))
        have hq4 : ((q : Int) == 4) = false := beq_eq_false_iff_ne.2 (by omega)
        go_wp2_with fail
        refine (hc.out _).mono ?_
        rintro e w1 ⟨rfl, hb1⟩
        go_wp2_with fail
        go_ret
        rw [HF.out]
        exact ⟨rfl, hb1⟩

theorem pathErr_in (p : Str) : pathErr p = 0 ∨ pathErr p = 1 ∨ pathErr p = 2 ∨ pathErr p = 4 := by
  unfold pathErr
  simp only
  split
  · exact .inr (.inl rfl)
  · split
    · exact .inr (.inr (.inl rfl))
    · split
      · exact .inr (.inr (.inr rfl))
      · exact .inl rfl

/-- pat.Check -/
theorem patCheck_calls (ks : List Nat) (A : Nat → Addr) (h4 : 4 ∈ ks) (p : ByteArray) (w : World) (hE : EnvP ks A w) (hp : p.size ≤ 1000000) :
    Calls Tryz.prog 20 #[.string p] w fun e w' => e = .returned (errV A (patErrOf (pathErr (xs (toks p.data.toList))))) ∧ Below w.heap.size w w' := by
  have hxl := xs_len p.data.toList
  rw [← size_eq] at hxl
  have hr := fun W hW => replAll_calls p W hW hp
  have hc := fun W hW => path_calls ks A h4 ⟨(xs (toks p.data.toList)).toArray⟩ W hW (by rw [size_eq]; show (xs (toks p.data.toList)).length ≤ _; omega)
  rw [show (⟨(xs (toks p.data.toList)).toArray⟩ : ByteArray).data.toList = xs (toks p.data.toList) from rfl] at hc
  have hq4 := pathErr_in (xs (toks p.data.toList))
  generalize xs (toks p.data.toList) = X at hc hr hq4 ⊢
  generalize pathErr X = q at hc hq4 ⊢
  obtain ⟨i0, hi0, hcmp⟩ := Option.map_eq_some_iff.1 Tryz.err_comp
  obtain ⟨j0, hj0, hjs⟩ := Option.map_eq_some_iff.1 Tryz.err_size
  replace hr := Lib.hid hr
  replace hc := Lib.hid hc
  by_cases h0 : q = 0
  · subst h0
    rw [show patErrOf 0 = 0 from rfl]
    have heq := fun W => run_eql_iface_nil_left (P := Tryz.prog) W 316 (.pointer (some (A 4))) Tryz.underlying38
    rw [errV_zero] at hc ⊢
    go_enter Tryz.func20, Tryz.ntmps20
    go_wp2_with fail
    refine (hr.out _ hE.m).mono ?_
    rintro e w1 ⟨rfl, hb1⟩
    have hE1 := hE.below hb1
    go_wp2_with fail
    refine (hc.out _ hE1).mono ?_
    rintro e w2 ⟨rfl, hb2⟩
    have hT := (hE1.below hb2).errs.var 4 h4
    simp only [errG] at hT
    go_wp2_with fail
    go_ret
    exact ⟨rfl, below_step hb1 hb2⟩
  · rw [errV_pos A h0] at hc
    by_cases h4q : q = 4
    · subst h4q
      rw [show patErrOf 4 = 0 from rfl, errV_zero]
      have heq := fun W => run_eql_iface_ptr_same (P := Tryz.prog) W (A 4) Tryz.underlying38 Tryz.underlying316 hi0 hcmp hj0
      go_enter Tryz.func20, Tryz.ntmps20
      go_wp2_with fail
      refine (hr.out _ hE.m).mono ?_
      rintro e w1 ⟨rfl, hb1⟩
      have hE1 := hE.below hb1
      go_wp2_with fail
      refine (hc.out _ hE1).mono ?_
      rintro e w2 ⟨rfl, hb2⟩
      have hT := (hE1.below hb2).errs.var 4 h4
      simp only [errG] at hT
      go_wp2_with fail
      go_ret
      exact ⟨rfl, below_step hb1 hb2⟩
    · rw [show patErrOf q = q from if_neg h4q, errV_pos A h0]
      have hqk : q ∈ ks := by
        rcases hq4 with h | h | h | h
        · exact absurd h h0
        · rw [h]; exact hE.has.1
        · rw [h]; exact hE.has.2
        · exact absurd h h4q
      have hne : A q ≠ A 4 := fun e => h4q (hE.errs.inj _ hqk _ h4 e)
      go_enter Tryz.func20, Tryz.ntmps20
      go_wp2_with fail
      refine (hr.out _ hE.m).mono ?_
      rintro e w1 ⟨rfl, hb1⟩
      have hE1 := hE.below hb1
      go_wp2_with fail
      refine (hc.out _ hE1).mono ?_
      rintro e w2 ⟨rfl, hb2⟩
      have hE2 := hE1.below hb2
      have hT := hE2.errs.var 4 h4
      simp only [errG] at hT
      obtain ⟨ca, ta, ha⟩ := hE2.errs.row q hqk
      obtain ⟨cb, tb, hb⟩ := hE2.errs.row 4 h4
      have heq := run_eql_iface_ptr_other (P := Tryz.prog) w2 Tryz.underlying38 Tryz.underlying316 hi0 hcmp hj0 (by rw [hjs]; decide) hne ha hb
      go_wp2_with fail
      go_ret
      exact ⟨rfl, below_step hb1 hb2⟩

end Go.Proofs.Pw
