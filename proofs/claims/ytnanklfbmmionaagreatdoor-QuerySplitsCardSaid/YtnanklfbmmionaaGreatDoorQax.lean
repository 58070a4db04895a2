/- Qa: walks and plain laws, joined: QSplits. Conditions: at each theorem. -/
import Derived.Test.YtnanklfbmmionaaGreatDoorQav
import Derived.Test.YtnanklfbmmionaaGreatDoorQaw
import Derived.Test.YtnanklfbmmionaaGreatDoorQap
import Derived.Test.YtnanklfbmmionaaGreatDoorQah
import Derived.Test.YtnanklfbmmionaaGreatDoorQaf

namespace Go.Proofs.Pw
open Go.RowKit Go.Sort
open Go.Lib hiding intOf
theorem StrsAt.cells3 {w : World} {x : Value} {l : List Str} (h : StrsAt w x l) : ∃ a n c L, x = .slice a n c ∧ l = lstF n L ∧ ∀ W, Below w.heap.size w W → ∀ j, j < n → ∃ b o, a = some ⟨b, o, none⟩ ∧ W.cell? ⟨b, o + j, none⟩ = some (.string (L j)) := by
  obtain ⟨a, n, c, L, e1, e2, _, _, h5⟩ := h
  exact ⟨a, n, c, L, e1, e2, fun W hW j hj => let ⟨b, o, e, c0⟩ := h5 j hj; ⟨b, o, e, Below.cell_some hW c0⟩⟩
structure QsArgs (ks : List Nat) (A : Nat → Addr) (la : Option Addr) (ln lc : Nat) (P V : Nat → ByteArray) (R : Nat → List Md) (K : Nat → List Str) (Bk : Nat → Bool) (Rv Kv : Nat → Value) (w : World) : Prop where
  idx : IdxKs ks
  env : EnvP ks A w
  l : EntsIn w la ln lc P V R K Bk Rv Kv
set_option maxHeartbeats 4000000 in
set_option maxRecDepth 100000 in
theorem qSplits_long (ks : List Nat) (A : Nat → Addr) (la : Option Addr) (ln lc : Nat) (P V : Nat → ByteArray) (R : Nat → List Md) (K : Nat → List Str) (Bk : Nat → Bool) (Rv Kv : Nat → Value) (p v : ByteArray) (w : World) (H : QsArgs ks A la ln lc P V R K Bk Rv Kv w)
    (hlong : longIdx (enF ln P V R K Bk) = true ∨ (longIdx (enF ln P V R K Bk) = false ∧ (30 < ln ∨ (ln ≤ 30 ∧ (70 < p.size ∨ (p.size ≤ 70 ∧ 50 < v.size)))))) :
    Calls Tryz.prog 7 #[.slice la ln lc, .string p, .string v] w fun e w' => e = .returned (.bool true) ∧ Below w.heap.size w w' := by
  have hre := picked_calls ks A H.idx w H.env
  have hlx := fun (W : World) (hb : Below w.heap.size w W) => longIndex_in la ln lc P V R K Bk Rv Kv W (H.l.below hb)
  replace hre := Lib.hid hre
  replace hlx := Lib.hid hlx
  clear H
  rcases hlong with h1 | ⟨h1, h2 | ⟨h2, h3 | ⟨h3, h4⟩⟩⟩
  · rw [longII_yes h1] at hlx
    clear h1
    go_enter Tryz.func7, Tryz.ntmps7
    go_wp2_with fail
    refine hre.out.mono ?_
    rintro e w1 ⟨rfl, hB⟩
    go_wp2_with fail
    refine (hlx.out _ hB).mono ?_
    rintro e w' ⟨rfl, rfl⟩
    clear hlx hre
    go_wp2_with fail
    go_ret
    exact ⟨rfl, hB⟩
  · rw [longII_no h1] at hlx
    have h2' : (30 : Int) < (ln : Int) := by omega
    clear h1
    go_enter Tryz.func7, Tryz.ntmps7
    go_wp2_with fail
    refine hre.out.mono ?_
    rintro e w1 ⟨rfl, hB⟩
    go_wp2_with fail
    refine (hlx.out _ hB).mono ?_
    rintro e w' ⟨rfl, rfl⟩
    clear hlx hre
    go_wp2_with fail
    go_ret
    exact ⟨rfl, hB⟩
  · rw [longII_no h1] at hlx
    have h2' : ¬ (30 : Int) < (ln : Int) := by omega
    have h3' : decide ((70 : Int) < (p.size : Int)) = true := decide_eq_true (by omega)
    clear h1
    go_enter Tryz.func7, Tryz.ntmps7
    go_wp2_with fail
    refine hre.out.mono ?_
    rintro e w1 ⟨rfl, hB⟩
    go_wp2_with fail
    refine (hlx.out _ hB).mono ?_
    rintro e w' ⟨rfl, rfl⟩
    clear hlx hre
    go_wp2_with fail
    go_ret
    exact ⟨rfl, hB⟩
  · rw [longII_no h1] at hlx
    have h2' : ¬ (30 : Int) < (ln : Int) := by omega
    have h3' : decide ((70 : Int) < (p.size : Int)) = false := decide_eq_false (by omega)
    have h4' : decide ((50 : Int) < (v.size : Int)) = true := decide_eq_true (by omega)
    clear h1
    go_enter Tryz.func7, Tryz.ntmps7
    go_wp2_with fail
    refine hre.out.mono ?_
    rintro e w1 ⟨rfl, hB⟩
    go_wp2_with fail
    refine (hlx.out _ hB).mono ?_
    rintro e w' ⟨rfl, rfl⟩
    clear hlx hre
    go_wp2_with fail
    go_ret
    exact ⟨rfl, hB⟩
set_option maxHeartbeats 16000000 in
set_option maxRecDepth 100000 in
theorem qSplits_main (ks : List Nat) (A : Nat → Addr) (la : Option Addr) (ln lc : Nat) (P V : Nat → ByteArray) (R : Nat → List Md) (K : Nat → List Str) (Bk : Nat → Bool) (Rv Kv : Nat → Value) (p v : ByteArray) (w : World) (H : QsArgs ks A la ln lc P V R K Bk Rv Kv w)
    (h1 : longIdx (enF ln P V R K Bk) = false) (h2 : ln ≤ 30) (h3 : p.size ≤ 70) (h4 : v.size ≤ 50) :
    Calls Tryz.prog 7 #[.slice la ln lc, .string p, .string v] w fun e w' => e = .returned (.bool true) ∧ Below w.heap.size w w' := by
  have hre := picked_calls ks A H.idx w H.env
  have hlx := fun (W : World) (hb : Below w.heap.size w W) => longIndex_in la ln lc P V R K Bk Rv Kv W (H.l.below hb)
  have hsi := longIdx_short h1
  have hsm := longIdx_small h1
  have h2' : ¬ (30 : Int) < (ln : Int) := by omega
  have h3' : decide ((70 : Int) < (p.size : Int)) = false := decide_eq_false (by omega)
  have h4' : decide ((50 : Int) < (v.size : Int)) = false := decide_eq_false (by omega)
  have HH := Lib.hid H
  have how := fun (W : World) (hb : Below w.heap.size w W) => ownIndex_calls (.slice la ln lc) (enF ln P V R K Bk) W ⟨la, ln, lc, P, V, R, K, Bk, Rv, Kv, rfl, rfl, HH.out.l.below hb⟩ (by have := hsm.1; omega) (fun e he => by
    have h4 := longEn_small (hsm.2 e he)
    have h5 := longMods_small h4.2.2.1
    exact ⟨by omega, by omega⟩)
  have hE := fun (W : World) (hb : Below w.heap.size w W) => HH.out.env.below hb
  have hvo := fun (W : World) => refVerOf_calls v W (by omega)
  rw [longII_no h1] at hlx
  have HSI := Lib.hid hsi
  have HI := Lib.hid HH.out.idx
  replace hre := Lib.hid hre
  replace hlx := Lib.hid hlx
  replace how := Lib.hid how
  replace hE := Lib.hid hE
  replace hvo := Lib.hid hvo
  clear h1 hsi hsm H
  go_enter Tryz.func7, Tryz.ntmps7
  go_wp2_with fail
  refine hre.out.mono ?_
  rintro e w1 ⟨rfl, hB⟩
  go_wp2_with fail
  refine (hlx.out _ hB).mono ?_
  rintro e w' ⟨rfl, rfl⟩
  clear hlx hre
  go_wp2_with fail
  clear h2' h3' h4'
  refine (how.out _ hB).mono ?_
  rintro e w2 ⟨⟨ov, rfl, hOE⟩, hb⟩
  replace hB := below_step hB hb
  obtain ⟨oa, on, oc, P', V', R', K', B', Rv', Kv', rfl, hOl, hO⟩ := hOE
  obtain rfl : ln = on := by have := congrArg List.length hOl; rwa [enF_length, enF_length] at this
  rw [hOl] at HSI
  have HO := Lib.hid hO
  clear hO hb how hOl HH
  have hck := idxCheck_in ks A HI.out oa ln oc P' V' R' K' B' Rv' Kv' w2 (hE.out _ hB) HO.out HSI.out
  have hE2 := fun W (hc : Below w2.heap.size w2 W) => hE.out W (below_step hB hc)
  have hvs := fun W hc => idxVersions_in ks A oa ln oc P' V' R' K' B' Rv' Kv' p W (hE2 W hc) (HO.out.below hc) HSI.out
  have hpi := fun (q : ByteArray) (hq : q.size ≤ 1000000) (hw : qWord q.data.toList = false) W hc => qPickN_in ks A HI.out oa ln oc P' V' R' K' B' Rv' Kv' p q ⟨#[]⟩ W (hE2 W hc) (HO.out.below hc) HSI.out hq hw
  rw [show (⟨#[]⟩ : ByteArray).data.toList = [] from rfl] at hpi
  have hov := fun (s : ByteArray) (hs : s.size ≤ 1000000000) W => orderVer_calls s v W hs (by omega)
  obtain ⟨l, hl⟩ : ∃ l, enF ln P' V' R' K' B' = l := ⟨_, rfl⟩
  have HLN : Hid (l.length = ln) := Lib.hid (by rw [← hl, enF_length])
  simp only [hl] at hck hvs hpi HSI
  replace hck := Lib.hid hck
  replace hvs := Lib.hid hvs
  replace hpi := Lib.hid hpi
  replace hov := Lib.hid hov
  clear hl hE2
  go_wp2_with fail
  refine hck.out.mono ?_
  rintro e w3 ⟨⟨ev3, rfl, hf3⟩, hb⟩
  have hC := hb
  clear hb hck
  rcases fault_form hf3 with ⟨h0, rfl⟩ | ⟨h0, ty, q, rfl⟩
  · have HX0 := Lib.hid h0
    clear hf3 h0
    go_wp2_with fail
    refine (hvo.out _).mono ?_
    rintro e w4 ⟨⟨va, rfl, hs4⟩, hb⟩
    obtain ⟨a4, m4, c4, _, rfl, _⟩ := hs4
    generalize verNum v.data.toList 0 = N0
    generalize verNum v.data.toList 1 = N1
    generalize verNum v.data.toList 2 = N2
    have hba := below_alloc w4 (.cells #[.int .i64 (N0 : Nat), .int .i64 (N1 : Nat), .int .i64 (N2 : Nat), .slice a4 m4 c4] 81)
    replace hC := below_step hC (below_step hb hba)
    clear hb hba hvo
    by_cases hv0 : verErr v.data.toList = 0
    · have HSF := Lib.hid (splitF (l := l) (p := p.data.toList) HX0.out hv0)
      rw [hv0]
      clear hv0
      go_wp2_with fail
      generalize w4.alloc (.cells #[.int .i64 (N0 : Nat), .int .i64 (N1 : Nat), .int .i64 (N2 : Nat), .slice a4 m4 c4] 81) = w5 at *
      refine (hvs.out _ hC).mono ?_
      rintro e w6 ⟨⟨v6, rfl, hs6⟩, hb⟩
      replace hC := below_step hC hb
      have hsz := versL_size (l := l) (p := p.data.toList) HSI.out
      have hvz : ∀ x ∈ vsort (versL l p.data.toList), x.length ≤ 1000000 := fun x hx => hsz.2 x ((vsort_mem _ _).1 hx).1
      obtain ⟨a6, m6, c6, L6, rfl, e6, hc6⟩ := hs6.cells3
      have hm6 : m6 ≤ 30 := by
        have h5 := congrArg List.length e6
        rw [lstF_length] at h5
        have h6 := vsort_len (versL l p.data.toList)
        have h7 := versL_len l p.data.toList
        rw [HLN.out] at h7
        omega
      rw [e6] at hvz
      have HVZ := Lib.hid hvz
      have hsf := HSF.out
      have hcl := cnt_len v.data.toList (vsort (versL l p.data.toList))
      rw [e6, lstF_length] at hcl
      have HCL := Lib.hid hcl
      have H6 := Lib.hid e6
      replace hc6 := Lib.hid hc6
      clear hs6 hb hvs hsz hvz e6 hsf hcl
      go_wp2_with fail
      go_loopw [12, 13, 14, 15, 16] (fun x y z i _ wr => ∃ (k : Nat), k ≤ m6 ∧ i = .int .i64 k ∧ x = .int .i64 (cntL v.data.toList ((lstF m6 L6).take k) : Nat) ∧ y = .int .i64 (cntM v.data.toList ((lstF m6 L6).take k) : Nat) ∧ z = .int .i64 (cntE v.data.toList ((lstF m6 L6).take k) : Nat) ∧ Below w6.heap.size w6 wr) (fun _ _ _ i _ _ => m6 - (intOf i).toNat)
      case atStart => exact ⟨0, Nat.zero_le _, rfl, rfl, rfl, rfl, Below.refl _ _⟩
      case round =>
        obtain ⟨k, hk, rfl, rfl, rfl, rfl, hBr⟩ := hrel
        by_cases hlt : k < m6
        · have hkn : (k : Int) < (m6 : Int) := by omega
          obtain ⟨b1, o1, ea, d0⟩ := hc6.out wr hBr k hlt
          subst ea
          have hLs : (L6 k).size ≤ 1000000000 := by
            have := HVZ.out _ (List.mem_of_getElem? (lstF_get m6 L6 k hlt))
            rw [size_eq]; omega
          have hoc := hov.out (L6 k) hLs wr
          have hlen : ((lstF m6 L6).take k).length = k := by rw [List.length_take, lstF_length]; omega
          have hcn := cnt_len v.data.toList ((lstF m6 L6).take k)
          rw [hlen] at hcn
          have htk : (lstF m6 L6).take (k + 1) = (lstF m6 L6).take k ++ [(L6 k).data.toList] := by rw [List.take_add_one, lstF_get m6 L6 k hlt]; rfl
          have hL1 : cntL v.data.toList ((lstF m6 L6).take (k + 1)) = cntL v.data.toList ((lstF m6 L6).take k) + (if verCmp (L6 k).data.toList v.data.toList < 0 then 1 else 0) := by rw [htk, cntL_app]; simp [cntL]
          have hM1 : cntM v.data.toList ((lstF m6 L6).take (k + 1)) = cntM v.data.toList ((lstF m6 L6).take k) + (if 0 < verCmp (L6 k).data.toList v.data.toList then 1 else 0) := by rw [htk, cntM_app]; simp [cntM]
          have hE1 : cntE v.data.toList ((lstF m6 L6).take (k + 1)) = cntE v.data.toList ((lstF m6 L6).take k) + (if verCmp (L6 k).data.toList v.data.toList = 0 then 1 else 0) := by rw [htk, cntE_app]; simp [cntE]
          generalize cntL v.data.toList ((lstF m6 L6).take k) = cl at *
          generalize cntM v.data.toList ((lstF m6 L6).take k) = cm at *
          generalize cntE v.data.toList ((lstF m6 L6).take k) = ce at *
          generalize verCmp (L6 k).data.toList v.data.toList = C at hoc hL1 hM1 hE1
          rcases Int.lt_trichotomy C 0 with h | h | h
          · rw [sgn_neg h] at hoc
            rw [if_pos h] at hL1
            rw [if_neg (by omega)] at hM1 hE1
            have HN := Lib.hid (And.intro hL1 (And.intro hM1 hE1))
            replace hoc := Lib.hid hoc
            clear h htk hlen hL1 hM1 hE1
            go_wp2_with fail
            refine hoc.out.mono ?_
            rintro e w7 ⟨rfl, hb⟩
            replace hBr := below_step hBr hb
            clear hb hoc d0
            go_wp2_with fail
            go_roundw
            case rel => exact ⟨k + 1, by omega, by go_num, by rw [HN.out.1]; go_num, by rw [HN.out.2.1]; go_num, by rw [HN.out.2.2]; go_num, hBr⟩
            case measure => simp [intOf]; omega
          · rw [show sgn C = 0 by rw [h]; rfl] at hoc
            rw [if_neg (by omega)] at hL1 hM1
            rw [if_pos h] at hE1
            have HN := Lib.hid (And.intro hL1 (And.intro hM1 hE1))
            replace hoc := Lib.hid hoc
            clear h htk hlen hL1 hM1 hE1
            go_wp2_with fail
            refine hoc.out.mono ?_
            rintro e w7 ⟨rfl, hb⟩
            replace hBr := below_step hBr hb
            clear hb hoc d0
            go_wp2_with fail
            go_roundw
            case rel => exact ⟨k + 1, by omega, by go_num, by rw [HN.out.1]; go_num, by rw [HN.out.2.1]; go_num, by rw [HN.out.2.2]; go_num, hBr⟩
            case measure => simp [intOf]; omega
          · rw [sgn_pos h] at hoc
            rw [if_neg (by omega)] at hL1 hE1
            rw [if_pos h] at hM1
            have HN := Lib.hid (And.intro hL1 (And.intro hM1 hE1))
            replace hoc := Lib.hid hoc
            clear h htk hlen hL1 hM1 hE1
            go_wp2_with fail
            refine hoc.out.mono ?_
            rintro e w7 ⟨rfl, hb⟩
            replace hBr := below_step hBr hb
            clear hb hoc d0
            go_wp2_with fail
            go_roundw
            case rel => exact ⟨k + 1, by omega, by go_num, by rw [HN.out.1]; go_num, by rw [HN.out.2.1]; go_num, by rw [HN.out.2.2]; go_num, hBr⟩
            case measure => simp [intOf]; omega
        · have hkn : ¬ (k : Int) < (m6 : Int) := by omega
          rw [List.take_of_length_le (by rw [lstF_length]; omega), ← H6.out]
          have hsf := HSF.out
          have hcl := HCL.out
          rw [← H6.out] at hcl
          replace hC := below_step hC hBr
          have key : ∀ (s : Str) (C : Nat) (_ : s.length ≤ 2) (_ : qWord (s ++ v.data.toList) = false) (_ : (pickErr l p.data.toList (s ++ v.data.toList) []).1 = 0 ↔ 0 < C) (q : ByteArray) (_ : q.data.toList = s ++ v.data.toList) (W : World) (_ : Below w2.heap.size w2 W), Calls Tryz.prog 45 #[.slice oa ln oc, .string p, .string q, .string ⟨#[]⟩] W fun e w' => (∃ ev, e = .returned (.tuple #[.string ⟨(pickS l p.data.toList (s ++ v.data.toList) []).toArray⟩, ev]) ∧ (0 < C → ev = .nilIface) ∧ (C = 0 → ∃ ty qq, ev = .iface ty (.pointer qq))) ∧ Below W.heap.size W w' := by
            intro s C hs hw hC q hq W hc
            have hqs : q.size ≤ 1000000 := by
              rw [size_eq, hq, List.length_append, ← size_eq]
              omega
            have h := hpi.out q hqs (by rw [hq]; exact hw) W hc
            rw [hq] at h
            refine h.mono ?_
            rintro e w' ⟨⟨ev, rfl, hf⟩, hb⟩
            refine ⟨⟨ev, rfl, fun h1 => ?_, fun h1 => ?_⟩, hb⟩
            · rcases fault_form hf with ⟨_, h2⟩ | ⟨h2, _⟩
              · exact h2
              · exact absurd (hC.2 h1) h2
            · rcases fault_form hf with ⟨h2, _⟩ | ⟨_, h2⟩
              · have := hC.1 h2; omega
              · exact h2
          have hq1 := key [60] _ (by decide) hsf.w1 hsf.lt
          have hq2 := key [62] _ (by decide) hsf.w2 hsf.gt
          have hq3 := key [60, 61] _ (by decide) hsf.w3 hsf.le
          have hq4 := key [62, 61] _ (by decide) hsf.w4 hsf.ge
          have hq5 := key [] _ (by decide) hsf.w5 hsf.eq
          have hS5 : 0 < cntE v.data.toList (vsort (versL l p.data.toList)) → (⟨(pickS l p.data.toList ([] ++ v.data.toList) []).toArray⟩ : ByteArray) = v := fun h => by
            have h2 := hsf.is (hsf.eq.2 h)
            rw [List.nil_append, h2]
          generalize cntL v.data.toList (vsort (versL l p.data.toList)) = CL at *
          generalize cntM v.data.toList (vsort (versL l p.data.toList)) = CM at *
          generalize cntE v.data.toList (vsort (versL l p.data.toList)) = CE at *
          generalize (⟨(pickS l p.data.toList ([60] ++ v.data.toList) []).toArray⟩ : ByteArray) = S1 at hq1
          generalize (⟨(pickS l p.data.toList ([62] ++ v.data.toList) []).toArray⟩ : ByteArray) = S2 at hq2
          generalize (⟨(pickS l p.data.toList ([60, 61] ++ v.data.toList) []).toArray⟩ : ByteArray) = S3 at hq3
          generalize (⟨(pickS l p.data.toList ([62, 61] ++ v.data.toList) []).toArray⟩ : ByteArray) = S4 at hq4
          generalize (⟨(pickS l p.data.toList ([] ++ v.data.toList) []).toArray⟩ : ByteArray) = S5 at hq5 hS5
          have hlm : CL + CM + CE ≤ 30 := by omega
          replace hq1 := Lib.hid hq1
          replace hq2 := Lib.hid hq2
          replace hq3 := Lib.hid hq3
          replace hq4 := Lib.hid hq4
          replace hq5 := Lib.hid hq5
          replace hS5 := Lib.hid hS5
          clear key hsf hcl HSF HCL hpi hov hlt hk hc6 HVZ H6 HX0
          rcases Nat.eq_zero_or_pos CL with rfl | hl1 <;> rcases Nat.eq_zero_or_pos CM with rfl | hm1 <;> rcases Nat.eq_zero_or_pos CE with rfl | he1
          · skip
            try have hl1' : (0 : Int) < (CL : Int) := by omega
            try have hm1' : (0 : Int) < (CM : Int) := by omega
            try have he1' : (0 : Int) < (CE : Int) := by omega
            try have hle' : (0 : Int) < (CL : Int) + (CE : Int) := by omega
            try have hme' : (0 : Int) < (CM : Int) + (CE : Int) := by omega
            go_wp2_with fail
            refine (hq1.out _ (by simp) _ hC).mono ?_
            rintro e w7 ⟨⟨ev1, rfl, hn1, hp1⟩, hb⟩
            replace hC := below_step hC hb
            obtain ⟨ty1, qq1, rfl⟩ := hp1 (by trivial)
            clear hn1 hp1 hb hq1
            go_wp2_with fail
            refine (hq2.out _ (by simp) _ hC).mono ?_
            rintro e w8 ⟨⟨ev2, rfl, hn2, hp2⟩, hb⟩
            replace hC := below_step hC hb
            obtain ⟨ty2, qq2, rfl⟩ := hp2 (by trivial)
            clear hn2 hp2 hb hq2
            go_wp2_with fail
            refine (hq3.out _ (by simp) _ hC).mono ?_
            rintro e w9 ⟨⟨ev3, rfl, hn3, hp3⟩, hb⟩
            replace hC := below_step hC hb
            obtain ⟨ty3, qq3, rfl⟩ := hp3 (by trivial)
            clear hn3 hp3 hb hq3
            go_wp2_with fail
            refine (hq4.out _ (by simp) _ hC).mono ?_
            rintro e w10 ⟨⟨ev4, rfl, hn4, hp4⟩, hb⟩
            replace hC := below_step hC hb
            obtain ⟨ty4, qq4, rfl⟩ := hp4 (by trivial)
            clear hn4 hp4 hb hq4
            go_wp2_with fail
            refine (hq5.out _ (by simp) _ hC).mono ?_
            rintro e w11 ⟨⟨ev5, rfl, hn5, hp5⟩, hb⟩
            replace hC := below_step hC hb
            obtain ⟨ty5, qq5, rfl⟩ := hp5 (by trivial)
            clear hn5 hp5 hb hq5 hS5
            go_wp2_with fail
            go_ret
            exact ⟨rfl, below_step hB hC⟩
          · skip
            try have hl1' : (0 : Int) < (CL : Int) := by omega
            try have hm1' : (0 : Int) < (CM : Int) := by omega
            try have he1' : (0 : Int) < (CE : Int) := by omega
            try have hle' : (0 : Int) < (CL : Int) + (CE : Int) := by omega
            try have hme' : (0 : Int) < (CM : Int) + (CE : Int) := by omega
            go_wp2_with fail
            refine (hq1.out _ (by simp) _ hC).mono ?_
            rintro e w7 ⟨⟨ev1, rfl, hn1, hp1⟩, hb⟩
            replace hC := below_step hC hb
            obtain ⟨ty1, qq1, rfl⟩ := hp1 (by trivial)
            clear hn1 hp1 hb hq1
            go_wp2_with fail
            refine (hq2.out _ (by simp) _ hC).mono ?_
            rintro e w8 ⟨⟨ev2, rfl, hn2, hp2⟩, hb⟩
            replace hC := below_step hC hb
            obtain ⟨ty2, qq2, rfl⟩ := hp2 (by trivial)
            clear hn2 hp2 hb hq2
            go_wp2_with fail
            refine (hq3.out _ (by simp) _ hC).mono ?_
            rintro e w9 ⟨⟨ev3, rfl, hn3, hp3⟩, hb⟩
            replace hC := below_step hC hb
            obtain rfl := hn3 (by omega)
            clear hn3 hp3 hb hq3
            go_wp2_with fail
            refine (hq4.out _ (by simp) _ hC).mono ?_
            rintro e w10 ⟨⟨ev4, rfl, hn4, hp4⟩, hb⟩
            replace hC := below_step hC hb
            obtain rfl := hn4 (by omega)
            clear hn4 hp4 hb hq4
            go_wp2_with fail
            refine (hq5.out _ (by simp) _ hC).mono ?_
            rintro e w11 ⟨⟨ev5, rfl, hn5, hp5⟩, hb⟩
            replace hC := below_step hC hb
            obtain rfl := hn5 (by omega); obtain rfl := hS5.out he1
            clear hn5 hp5 hb hq5 hS5
            go_wp2_with fail
            go_ret
            exact ⟨rfl, below_step hB hC⟩
          · skip
            try have hl1' : (0 : Int) < (CL : Int) := by omega
            try have hm1' : (0 : Int) < (CM : Int) := by omega
            try have he1' : (0 : Int) < (CE : Int) := by omega
            try have hle' : (0 : Int) < (CL : Int) + (CE : Int) := by omega
            try have hme' : (0 : Int) < (CM : Int) + (CE : Int) := by omega
            go_wp2_with fail
            refine (hq1.out _ (by simp) _ hC).mono ?_
            rintro e w7 ⟨⟨ev1, rfl, hn1, hp1⟩, hb⟩
            replace hC := below_step hC hb
            obtain ⟨ty1, qq1, rfl⟩ := hp1 (by trivial)
            clear hn1 hp1 hb hq1
            go_wp2_with fail
            refine (hq2.out _ (by simp) _ hC).mono ?_
            rintro e w8 ⟨⟨ev2, rfl, hn2, hp2⟩, hb⟩
            replace hC := below_step hC hb
            obtain rfl := hn2 (by omega)
            clear hn2 hp2 hb hq2
            go_wp2_with fail
            refine (hq3.out _ (by simp) _ hC).mono ?_
            rintro e w9 ⟨⟨ev3, rfl, hn3, hp3⟩, hb⟩
            replace hC := below_step hC hb
            obtain ⟨ty3, qq3, rfl⟩ := hp3 (by trivial)
            clear hn3 hp3 hb hq3
            go_wp2_with fail
            refine (hq4.out _ (by simp) _ hC).mono ?_
            rintro e w10 ⟨⟨ev4, rfl, hn4, hp4⟩, hb⟩
            replace hC := below_step hC hb
            obtain rfl := hn4 (by omega)
            clear hn4 hp4 hb hq4
            go_wp2_with fail
            refine (hq5.out _ (by simp) _ hC).mono ?_
            rintro e w11 ⟨⟨ev5, rfl, hn5, hp5⟩, hb⟩
            replace hC := below_step hC hb
            obtain ⟨ty5, qq5, rfl⟩ := hp5 (by trivial)
            clear hn5 hp5 hb hq5 hS5
            go_wp2_with fail
            go_ret
            exact ⟨rfl, below_step hB hC⟩
          · skip
            try have hl1' : (0 : Int) < (CL : Int) := by omega
            try have hm1' : (0 : Int) < (CM : Int) := by omega
            try have he1' : (0 : Int) < (CE : Int) := by omega
            try have hle' : (0 : Int) < (CL : Int) + (CE : Int) := by omega
            try have hme' : (0 : Int) < (CM : Int) + (CE : Int) := by omega
            go_wp2_with fail
            refine (hq1.out _ (by simp) _ hC).mono ?_
            rintro e w7 ⟨⟨ev1, rfl, hn1, hp1⟩, hb⟩
            replace hC := below_step hC hb
            obtain ⟨ty1, qq1, rfl⟩ := hp1 (by trivial)
            clear hn1 hp1 hb hq1
            go_wp2_with fail
            refine (hq2.out _ (by simp) _ hC).mono ?_
            rintro e w8 ⟨⟨ev2, rfl, hn2, hp2⟩, hb⟩
            replace hC := below_step hC hb
            obtain rfl := hn2 (by omega)
            clear hn2 hp2 hb hq2
            go_wp2_with fail
            refine (hq3.out _ (by simp) _ hC).mono ?_
            rintro e w9 ⟨⟨ev3, rfl, hn3, hp3⟩, hb⟩
            replace hC := below_step hC hb
            obtain rfl := hn3 (by omega)
            clear hn3 hp3 hb hq3
            go_wp2_with fail
            refine (hq4.out _ (by simp) _ hC).mono ?_
            rintro e w10 ⟨⟨ev4, rfl, hn4, hp4⟩, hb⟩
            replace hC := below_step hC hb
            obtain rfl := hn4 (by omega)
            clear hn4 hp4 hb hq4
            go_wp2_with fail
            refine (hq5.out _ (by simp) _ hC).mono ?_
            rintro e w11 ⟨⟨ev5, rfl, hn5, hp5⟩, hb⟩
            replace hC := below_step hC hb
            obtain rfl := hn5 (by omega); obtain rfl := hS5.out he1
            clear hn5 hp5 hb hq5 hS5
            go_wp2_with fail
            go_ret
            exact ⟨rfl, below_step hB hC⟩
          · skip
            try have hl1' : (0 : Int) < (CL : Int) := by omega
            try have hm1' : (0 : Int) < (CM : Int) := by omega
            try have he1' : (0 : Int) < (CE : Int) := by omega
            try have hle' : (0 : Int) < (CL : Int) + (CE : Int) := by omega
            try have hme' : (0 : Int) < (CM : Int) + (CE : Int) := by omega
            go_wp2_with fail
            refine (hq1.out _ (by simp) _ hC).mono ?_
            rintro e w7 ⟨⟨ev1, rfl, hn1, hp1⟩, hb⟩
            replace hC := below_step hC hb
            obtain rfl := hn1 (by omega)
            clear hn1 hp1 hb hq1
            go_wp2_with fail
            refine (hq2.out _ (by simp) _ hC).mono ?_
            rintro e w8 ⟨⟨ev2, rfl, hn2, hp2⟩, hb⟩
            replace hC := below_step hC hb
            obtain ⟨ty2, qq2, rfl⟩ := hp2 (by trivial)
            clear hn2 hp2 hb hq2
            go_wp2_with fail
            refine (hq3.out _ (by simp) _ hC).mono ?_
            rintro e w9 ⟨⟨ev3, rfl, hn3, hp3⟩, hb⟩
            replace hC := below_step hC hb
            obtain rfl := hn3 (by omega)
            clear hn3 hp3 hb hq3
            go_wp2_with fail
            refine (hq4.out _ (by simp) _ hC).mono ?_
            rintro e w10 ⟨⟨ev4, rfl, hn4, hp4⟩, hb⟩
            replace hC := below_step hC hb
            obtain ⟨ty4, qq4, rfl⟩ := hp4 (by trivial)
            clear hn4 hp4 hb hq4
            go_wp2_with fail
            refine (hq5.out _ (by simp) _ hC).mono ?_
            rintro e w11 ⟨⟨ev5, rfl, hn5, hp5⟩, hb⟩
            replace hC := below_step hC hb
            obtain ⟨ty5, qq5, rfl⟩ := hp5 (by trivial)
            clear hn5 hp5 hb hq5 hS5
            go_wp2_with fail
            go_ret
            exact ⟨rfl, below_step hB hC⟩
          · skip
            try have hl1' : (0 : Int) < (CL : Int) := by omega
            try have hm1' : (0 : Int) < (CM : Int) := by omega
            try have he1' : (0 : Int) < (CE : Int) := by omega
            try have hle' : (0 : Int) < (CL : Int) + (CE : Int) := by omega
            try have hme' : (0 : Int) < (CM : Int) + (CE : Int) := by omega
            go_wp2_with fail
            refine (hq1.out _ (by simp) _ hC).mono ?_
            rintro e w7 ⟨⟨ev1, rfl, hn1, hp1⟩, hb⟩
            replace hC := below_step hC hb
            obtain rfl := hn1 (by omega)
            clear hn1 hp1 hb hq1
            go_wp2_with fail
            refine (hq2.out _ (by simp) _ hC).mono ?_
            rintro e w8 ⟨⟨ev2, rfl, hn2, hp2⟩, hb⟩
            replace hC := below_step hC hb
            obtain ⟨ty2, qq2, rfl⟩ := hp2 (by trivial)
            clear hn2 hp2 hb hq2
            go_wp2_with fail
            refine (hq3.out _ (by simp) _ hC).mono ?_
            rintro e w9 ⟨⟨ev3, rfl, hn3, hp3⟩, hb⟩
            replace hC := below_step hC hb
            obtain rfl := hn3 (by omega)
            clear hn3 hp3 hb hq3
            go_wp2_with fail
            refine (hq4.out _ (by simp) _ hC).mono ?_
            rintro e w10 ⟨⟨ev4, rfl, hn4, hp4⟩, hb⟩
            replace hC := below_step hC hb
            obtain rfl := hn4 (by omega)
            clear hn4 hp4 hb hq4
            go_wp2_with fail
            refine (hq5.out _ (by simp) _ hC).mono ?_
            rintro e w11 ⟨⟨ev5, rfl, hn5, hp5⟩, hb⟩
            replace hC := below_step hC hb
            obtain rfl := hn5 (by omega); obtain rfl := hS5.out he1
            clear hn5 hp5 hb hq5 hS5
            go_wp2_with fail
            go_ret
            exact ⟨rfl, below_step hB hC⟩
          · skip
            try have hl1' : (0 : Int) < (CL : Int) := by omega
            try have hm1' : (0 : Int) < (CM : Int) := by omega
            try have he1' : (0 : Int) < (CE : Int) := by omega
            try have hle' : (0 : Int) < (CL : Int) + (CE : Int) := by omega
            try have hme' : (0 : Int) < (CM : Int) + (CE : Int) := by omega
            go_wp2_with fail
            refine (hq1.out _ (by simp) _ hC).mono ?_
            rintro e w7 ⟨⟨ev1, rfl, hn1, hp1⟩, hb⟩
            replace hC := below_step hC hb
            obtain rfl := hn1 (by omega)
            clear hn1 hp1 hb hq1
            go_wp2_with fail
            refine (hq2.out _ (by simp) _ hC).mono ?_
            rintro e w8 ⟨⟨ev2, rfl, hn2, hp2⟩, hb⟩
            replace hC := below_step hC hb
            obtain rfl := hn2 (by omega)
            clear hn2 hp2 hb hq2
            go_wp2_with fail
            refine (hq3.out _ (by simp) _ hC).mono ?_
            rintro e w9 ⟨⟨ev3, rfl, hn3, hp3⟩, hb⟩
            replace hC := below_step hC hb
            obtain rfl := hn3 (by omega)
            clear hn3 hp3 hb hq3
            go_wp2_with fail
            refine (hq4.out _ (by simp) _ hC).mono ?_
            rintro e w10 ⟨⟨ev4, rfl, hn4, hp4⟩, hb⟩
            replace hC := below_step hC hb
            obtain rfl := hn4 (by omega)
            clear hn4 hp4 hb hq4
            go_wp2_with fail
            refine (hq5.out _ (by simp) _ hC).mono ?_
            rintro e w11 ⟨⟨ev5, rfl, hn5, hp5⟩, hb⟩
            replace hC := below_step hC hb
            obtain ⟨ty5, qq5, rfl⟩ := hp5 (by trivial)
            clear hn5 hp5 hb hq5 hS5
            go_wp2_with fail
            go_ret
            exact ⟨rfl, below_step hB hC⟩
          · skip
            try have hl1' : (0 : Int) < (CL : Int) := by omega
            try have hm1' : (0 : Int) < (CM : Int) := by omega
            try have he1' : (0 : Int) < (CE : Int) := by omega
            try have hle' : (0 : Int) < (CL : Int) + (CE : Int) := by omega
            try have hme' : (0 : Int) < (CM : Int) + (CE : Int) := by omega
            go_wp2_with fail
            refine (hq1.out _ (by simp) _ hC).mono ?_
            rintro e w7 ⟨⟨ev1, rfl, hn1, hp1⟩, hb⟩
            replace hC := below_step hC hb
            obtain rfl := hn1 (by omega)
            clear hn1 hp1 hb hq1
            go_wp2_with fail
            refine (hq2.out _ (by simp) _ hC).mono ?_
            rintro e w8 ⟨⟨ev2, rfl, hn2, hp2⟩, hb⟩
            replace hC := below_step hC hb
            obtain rfl := hn2 (by omega)
            clear hn2 hp2 hb hq2
            go_wp2_with fail
            refine (hq3.out _ (by simp) _ hC).mono ?_
            rintro e w9 ⟨⟨ev3, rfl, hn3, hp3⟩, hb⟩
            replace hC := below_step hC hb
            obtain rfl := hn3 (by omega)
            clear hn3 hp3 hb hq3
            go_wp2_with fail
            refine (hq4.out _ (by simp) _ hC).mono ?_
            rintro e w10 ⟨⟨ev4, rfl, hn4, hp4⟩, hb⟩
            replace hC := below_step hC hb
            obtain rfl := hn4 (by omega)
            clear hn4 hp4 hb hq4
            go_wp2_with fail
            refine (hq5.out _ (by simp) _ hC).mono ?_
            rintro e w11 ⟨⟨ev5, rfl, hn5, hp5⟩, hb⟩
            replace hC := below_step hC hb
            obtain rfl := hn5 (by omega); obtain rfl := hS5.out he1
            clear hn5 hp5 hb hq5 hS5
            go_wp2_with fail
            go_ret
            exact ⟨rfl, below_step hB hC⟩
    · have hvp : (0 : Int) < (verErr v.data.toList : Int) := by omega
      clear hv0
      go_wp2_with fail
      go_ret
      exact ⟨rfl, below_step hB hC⟩
  · clear hf3 h0
    go_wp2_with fail
    go_ret
    exact ⟨rfl, below_step hB hC⟩
set_option maxHeartbeats 4000000 in
theorem qSplits_calls (ks : List Nat) (A : Nat → Addr) (hks : IdxKs ks) (lv : Value) (l : List En) (p v : ByteArray) (w : World) (hE : EnvP ks A w) (hl : EntsAt w lv l) :
    Calls Tryz.prog 7 #[lv, .string p, .string v] w fun e w' => e = .returned (.bool true) ∧ Below w.heap.size w w' := by
  obtain ⟨la, ln, lc, P, V, R, K, Bk, Rv, Kv, rfl, rfl, hin⟩ := hl
  have H : QsArgs ks A la ln lc P V R K Bk Rv Kv w := ⟨hks, hE, hin⟩
  cases h1 : longIdx (enF ln P V R K Bk)
  · by_cases h2 : ln ≤ 30
    · by_cases h3 : p.size ≤ 70
      · by_cases h4 : v.size ≤ 50
        · exact qSplits_main ks A la ln lc P V R K Bk Rv Kv p v w H h1 h2 h3 h4
        · exact qSplits_long ks A la ln lc P V R K Bk Rv Kv p v w H (.inr ⟨h1, .inr ⟨h2, .inr ⟨h3, by omega⟩⟩⟩)
      · exact qSplits_long ks A la ln lc P V R K Bk Rv Kv p v w H (.inr ⟨h1, .inr ⟨h2, .inl (by omega)⟩⟩)
    · exact qSplits_long ks A la ln lc P V R K Bk Rv Kv p v w H (.inr ⟨h1, .inl (by omega)⟩)
  · exact qSplits_long ks A la ln lc P V R K Bk Rv Kv p v w H (.inl h1)
end Go.Proofs.Pw
