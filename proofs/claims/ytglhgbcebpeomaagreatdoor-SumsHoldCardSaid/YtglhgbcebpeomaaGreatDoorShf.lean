/- Sh: walks and plain laws, joined: SumsHold. Conditions: at each theorem. -/
import Derived.Test.YtglhgbcebpeomaaGreatDoorSta
import Derived.Test.YtglhgbcebpeomaaGreatDoorStb
import Derived.Test.YtglhgbcebpeomaaGreatDoorStc
import Derived.Test.YtglhgbcebpeomaaGreatDoorStd
import Derived.Test.YtglhgbcebpeomaaGreatDoorSte
import Derived.Test.YtglhgbcebpeomaaGreatDoorStf
import Derived.Test.YtglhgbcebpeomaaGreatDoorStg
import Derived.Test.YtglhgbcebpeomaaGreatDoorSth
import Derived.Test.YtglhgbcebpeomaaGreatDoorSti
import Derived.Test.YtglhgbcebpeomaaGreatDoorStj
import Derived.Test.YtglhgbcebpeomaaGreatDoorStk
import Derived.Test.YtglhgbcebpeomaaGreatDoorStl
import Derived.Test.YtglhgbcebpeomaaGreatDoorStm
import Derived.Test.YtglhgbcebpeomaaGreatDoorStn
import Derived.Test.YtglhgbcebpeomaaGreatDoorSto
import Derived.Test.YtglhgbcebpeomaaGreatDoorStp
import Derived.Test.YtglhgbcebpeomaaGreatDoorStq
import Derived.Test.YtglhgbcebpeomaaGreatDoorStr
import Derived.Test.YtglhgbcebpeomaaGreatDoorSts
import Derived.Test.YtglhgbcebpeomaaGreatDoorStt
import Derived.Test.YtglhgbcebpeomaaGreatDoorStu
import Derived.Test.YtglhgbcebpeomaaGreatDoorStv
import Derived.Test.YtglhgbcebpeomaaGreatDoorStx
import Derived.Test.YtglhgbcebpeomaaGreatDoorSty
import Derived.Test.YtglhgbcebpeomaaGreatDoorStz
import Derived.Test.YtglhgbcebpeomaaGreatDoorStza
import Derived.Test.YtglhgbcebpeomaaGreatDoorStzb
import Derived.Test.YtglhgbcebpeomaaGreatDoorStzd
import Derived.Test.YtglhgbcebpeomaaGreatDoorSha
import Derived.Test.YtglhgbcebpeomaaGreatDoorShb
import Derived.Test.YtglhgbcebpeomaaGreatDoorShc
import Derived.Test.YtglhgbcebpeomaaGreatDoorShd
import Derived.Test.YtglhgbcebpeomaaGreatDoorShe

namespace Go.Proofs.Pw
open Go.RowKit Go.Sort
open Go.Lib hiding intOf
theorem wf32u {o : Int} (h : (Lit.int .u32 o).wf = true) : ∃ n : Nat, o = n ∧ n < 4294967296 := by
  simp only [Lit.wf, Bool.and_eq_true, decide_eq_true_eq] at h
  have e1 : IntKind.u32.min = 0 := by decide
  have e2 : IntKind.u32.max = 4294967295 := by decide
  rw [e1, e2] at h
  exact ⟨o.toNat, by omega, by omega⟩
structure ShF (l : List En) (S : List Md) (X : List Ln) : Prop where
  sums : sumsL l S = X
  all : allErr l S = (0, -1)
  self : verifyErr l S X = (0, -1)
  less : ∀ k, k < X.length → verifyErr l S (X.take k ++ X.drop (k + 1)) = (5, (k : Int))
  other : ∀ k o, k < X.length → (lnAt X k).2 ≠ o → verifyErr l S (X.set k ((lnAt X k).1, o)) = (10, (k : Int))
  lines : linesErr X = (0, -1)
  txt : linesTxt X = lnsTxt X
  read : readLs (lnsTxt X) = (X, 0, -1)
  len : X.length = S.length
  few : S.length ≤ 101
  small : ∀ x ∈ X, x.1.1.length ≤ 70 ∧ x.1.2.length ≤ 60 ∧ x.2 < 4294967296
theorem shF_of {l : List En} {S : List Md} (h : Sel l S) (hl : longIdx l = false) : ShF l S (S.map (sumPair l)) := by
  have hz : (allErr l S).1 = 0 := by rw [h.all]
  have h32 : ∀ x ∈ S.map (sumPair l), x.2 < 4294967296 := fun x hx => by
    obtain ⟨m, _, rfl⟩ := List.mem_map.1 hx
    exact sumOf_32 _
  have hs := longIdx_small hl
  refine ⟨sumsL_ok hz, h.all, verify_self hz, fun k hk => verify_less hz h.nodup (by rwa [List.length_map] at hk), fun k o hk ho => ?_, h.lines, ?_, read_back (by rw [h.lines]) h32, List.length_map .., Nat.le_trans h.len hs.1, fun x hx => ?_⟩
  · rw [List.length_map] at hk
    rw [lnAt_map _ hk] at ho ⊢
    exact verify_other hz h.nodup hk ho
  · unfold linesTxt
    rw [if_pos (by rw [h.lines])]
  · refine ⟨?_, ?_, h32 x hx⟩
    all_goals
      obtain ⟨m, hm, rfl⟩ := List.mem_map.1 hx
      obtain ⟨e, he, h1⟩ := h.at_ m hm
      have h2 := longEn_small (hs.2 e he)
      rw [h1] at h2
    · exact h2.1
    · exact h2.2.1
theorem mods_lenS {w : World} {v : Value} {l : List Md} (h : ModsAt w v l) : ∃ a c, v = .slice a l.length c := by
  obtain ⟨a, n, cap, P, V, rfl, rfl, _⟩ := h
  exact ⟨a, cap, by rw [mdF_length]⟩
theorem own_baseH {w : World} {base base' e k n : Nat} {v : Value} {xs : List Value} (h : w.ownsRow base' e k v n xs) (hb : base ≤ base') : w.ownsRow base e k v n xs := by
  refine ⟨h.1, ?_⟩
  rcases h.2 with h2 | ⟨g, c, cur, h1, h2, h3⟩
  · exact .inl h2
  · exact .inr ⟨g, c, cur, h1, Nat.le_trans hb h2, h3⟩
theorem LnsAt.asX {kd : IntKind} {w : World} {a : Option Addr} {n c m : Nat} {P V : Nat → ByteArray} {S : Nat → Nat} (h : LnsAt kd w (.slice a n c) (lnF m P V S)) : LnsIn kd w a n c P V fun j => ((S j : Nat) : Int) := by
  obtain ⟨a', c', e, h1⟩ := h.as
  injection e with e1 e2 e3
  subst e1 e2 e3
  exact h1
theorem lns_fun {kd : IntKind} {w : World} {v : Value} {l : List Ln} (h : LnsAt kd w v l) : ∃ P V S, l = lnF l.length P V S := by
  obtain ⟨a, n, cap, P, V, S, rfl, rfl, _⟩ := h
  exact ⟨P, V, S, by rw [lnF_length]⟩
theorem ownL_putX {B : Nat} {w : World} {a : Option Addr} {n c k : Nat} {T : List LnB} {X : List Ln} (h : OwnL B w (.slice a n c) T) (hT : lnTs T = X) (hk : k < X.length) : ∃ g s, a = some ⟨g, 0, none⟩ ∧ B ≤ g ∧ (lnAt X k).2 = s ∧ w.cell? ⟨g, k * 3 + 2, none⟩ = some (.int .u32 (s : Nat)) ∧ w.frozen? ⟨g, k * 3 + 2, none⟩ = false ∧ ∀ o : Nat, LnsAt .u32 (w.setCell ⟨g, k * 3 + 2, none⟩ (.int .u32 (o : Nat))) (.slice a n c) (X.set k ((lnAt X k).1, o)) := by
  have hl : T.length = X.length := by rw [← hT, lnTs_length]
  obtain ⟨g, c', p, q, s, e, hB, hk', hc, hf, ho⟩ := ownL_put h (k := k) (by omega)
  injection e with e1 e2 e3
  have hat : lnAt X k = ((p.data.toList, q.data.toList), s) := by
    rw [← hT]
    unfold lnAt lnTs
    rw [List.getD_eq_getElem?_getD, List.getElem?_map, hk']
    rfl
  refine ⟨g, s, e1, hB, by rw [hat], hc.c2, hf, fun o => ?_⟩
  have h1 := lnsAt_own (ho o).out
  rw [lnTs_set, hT] at h1
  rw [hat]
  exact h1
structure ShArgs (ks : List Nat) (A : Nat → Addr) (la : Option Addr) (ln lc : Nat) (P V : Nat → ByteArray) (R : Nat → List Md) (K : Nat → List Str) (Bk : Nat → Bool) (Rv Kv : Nat → Value) (sv : Value) (roots : List Md) (w : World) : Prop where
  idx : IdxKs ks
  ten : 10 ∈ ks
  env : EnvP ks A w
  envC : EnvC A w
  l : EntsIn w la ln lc P V R K Bk Rv Kv
  s : ModsAt w sv roots
theorem longI_isH (l : List Md) (most : Nat) : longI l most = if longMods l most then 1 else 0 := rfl
set_option maxHeartbeats 4000000 in
set_option maxRecDepth 100000 in
theorem sumsHold_long (ks : List Nat) (A : Nat → Addr) (la : Option Addr) (ln lc : Nat) (P V : Nat → ByteArray) (R : Nat → List Md) (K : Nat → List Str) (Bk : Nat → Bool) (Rv Kv : Nat → Value) (sv : Value) (roots : List Md) (i o : Int) (w : World) (H : ShArgs ks A la ln lc P V R K Bk Rv Kv sv roots w)
    (hlong : longIdx (enF ln P V R K Bk) = true ∨ (longIdx (enF ln P V R K Bk) = false ∧ (longMods roots 15 = true ∨ (longMods roots 15 = false ∧ i < 0)))) :
    Calls Tryz.prog 4 #[.slice la ln lc, sv, .int .i64 i, .int .u32 o] w fun e w' => e = .returned (.bool true) ∧ Below w.heap.size w w' := by
  have hre := summed_calls ks A H.idx H.ten w H.env
  have hlx := fun (W : World) (hb : Below w.heap.size w W) => longIndex_in la ln lc P V R K Bk Rv Kv W (H.l.below hb)
  have hlm := fun (W : World) (hb : Below w.heap.size w W) => longMods_calls sv roots 15 W (H.s.below hb)
  rw [longI_isH] at hlm
  replace hre := Lib.hid hre
  replace hlx := Lib.hid hlx
  replace hlm := Lib.hid hlm
  clear H
  rcases hlong with h1 | ⟨h1, h2 | ⟨h2, h3⟩⟩
  · rw [longII_yes h1] at hlx
    clear h1
    go_enter Tryz.func4, Tryz.ntmps4
    go_wp2_with fail
    refine hre.out.mono ?_
    rintro e w1 ⟨rfl, hB⟩
    go_wp2_with fail
    refine (hlx.out _ hB).mono ?_
    rintro e w' ⟨rfl, rfl⟩
    clear hlx hre
    go_wp2_with fail
    go_ret
    exact ⟨rfl, hB⟩
  · rw [longII_no h1] at hlx
    rw [h2] at hlm
    simp only [if_true] at hlm
    clear h1 h2
    go_enter Tryz.func4, Tryz.ntmps4
    go_wp2_with fail
    refine hre.out.mono ?_
    rintro e w1 ⟨rfl, hB⟩
    go_wp2_with fail
    refine (hlx.out _ hB).mono ?_
    rintro e w' ⟨rfl, rfl⟩
    clear hlx hre
    go_wp2_with fail
    refine (hlm.out _ hB).mono ?_
    rintro e w' ⟨rfl, rfl⟩
    clear hlm
    go_wp2_with fail
    go_ret
    exact ⟨rfl, hB⟩
  · rw [longII_no h1] at hlx
    rw [h2] at hlm
    simp only [Bool.false_eq_true, if_false] at hlm
    clear h1 h2
    go_enter Tryz.func4, Tryz.ntmps4
    go_wp2_with fail
    refine hre.out.mono ?_
    rintro e w1 ⟨rfl, hB⟩
    go_wp2_with fail
    refine (hlx.out _ hB).mono ?_
    rintro e w' ⟨rfl, rfl⟩
    clear hlx hre
    go_wp2_with fail
    refine (hlm.out _ hB).mono ?_
    rintro e w' ⟨rfl, rfl⟩
    clear hlm
    go_wp2_with fail
    go_ret
    exact ⟨rfl, hB⟩
set_option maxHeartbeats 16000000 in
set_option maxRecDepth 100000 in
theorem sumsHold_main (ks : List Nat) (A : Nat → Addr) (la : Option Addr) (ln lc : Nat) (P V : Nat → ByteArray) (R : Nat → List Md) (K : Nat → List Str) (Bk : Nat → Bool) (Rv Kv : Nat → Value) (sv : Value) (roots : List Md) (i o : Nat) (w : World) (H : ShArgs ks A la ln lc P V R K Bk Rv Kv sv roots w)
    (h1 : longIdx (enF ln P V R K Bk) = false) (h2 : longMods roots 15 = false) :
    Calls Tryz.prog 4 #[.slice la ln lc, sv, .int .i64 (i : Nat), .int .u32 (o : Nat)] w fun e w' => e = .returned (.bool true) ∧ Below w.heap.size w w' := by
  have hre := summed_calls ks A H.idx H.ten w H.env
  have hlx := fun (W : World) (hb : Below w.heap.size w W) => longIndex_in la ln lc P V R K Bk Rv Kv W (H.l.below hb)
  have hlm := fun (W : World) (hb : Below w.heap.size w W) => longMods_calls sv roots 15 W (H.s.below hb)
  rw [longI_isH, h2] at hlm
  simp only [Bool.false_eq_true, if_false] at hlm
  have hsi := longIdx_short h1
  have hsm := longIdx_small h1
  have hs15 := (longMods_small h2).1
  have hi0 : ¬ ((i : Nat) : Int) < 0 := by omega
  have HH := Lib.hid H
  have how := fun (W : World) (hb : Below w.heap.size w W) => ownIndex_calls (.slice la ln lc) (enF ln P V R K Bk) W ⟨la, ln, lc, P, V, R, K, Bk, Rv, Kv, rfl, rfl, HH.out.l.below hb⟩ (by have := hsm.1; omega) (fun e he => by
    have h4 := longEn_small (hsm.2 e he)
    have h5 := longMods_small h4.2.2.1
    exact ⟨by omega, by omega⟩)
  have hom := fun (W : World) (hb : Below w.heap.size w W) => ownMods_calls sv roots W (HH.out.s.below hb) (by omega)
  have hE := fun (W : World) (hb : Below w.heap.size w W) => HH.out.env.below hb
  have hfx := fun (c : Nat) (hc : c ≤ 10) (ev : Value) (W : World) (hb : Below w.heap.size w W) (hf : FaultAt A W ev (c, ((i : Nat) : Int))) => faulted3_calls A ev (c, ((i : Nat) : Int)) W (HH.out.envC.below hb) hf hc
  have hf5 := hfx 5 (by decide)
  have hf10 := hfx 10 (by decide)
  simp only [show ((5 : Nat) : Int) = 5 from rfl] at hf5
  simp only [show ((10 : Nat) : Int) = 10 from rfl] at hf10
  rw [longII_no h1] at hlx
  have HSI := Lib.hid hsi
  have HL1 := Lib.hid h1
  have HI := Lib.hid HH.out.idx
  have HTEN := Lib.hid HH.out.ten
  have HRL := Lib.hid hs15
  replace hre := Lib.hid hre
  replace hlx := Lib.hid hlx
  replace hlm := Lib.hid hlm
  replace how := Lib.hid how
  replace hom := Lib.hid hom
  replace hE := Lib.hid hE
  replace hf5 := Lib.hid hf5
  replace hf10 := Lib.hid hf10
  clear h1 hsi hsm H h2 hs15 hfx
  go_enter Tryz.func4, Tryz.ntmps4
  go_wp2_with fail
  refine hre.out.mono ?_
  rintro e w1 ⟨rfl, hB⟩
  go_wp2_with fail
  refine (hlx.out _ hB).mono ?_
  rintro e w' ⟨rfl, rfl⟩
  clear hlx hre
  go_wp2_with fail
  refine (hlm.out _ hB).mono ?_
  rintro e w' ⟨rfl, rfl⟩
  clear hlm
  go_wp2_with fail
  clear hi0
  refine (how.out _ hB).mono ?_
  rintro e w2 ⟨⟨ov, rfl, hOE⟩, hb⟩
  replace hB := below_step hB hb
  obtain ⟨oa, on, oc, P', V', R', K', B', Rv', Kv', rfl, hOl, hO⟩ := hOE
  rw [hOl] at HSI HL1
  have HO := Lib.hid hO
  clear hO hb how hOl HH
  have HB2 := Lib.hid hB
  have hE2 := fun W (hc : Below w2.heap.size w2 W) => hE.out W (below_step HB2.out hc)
  replace hf5 := fun ev W (hc : Below w2.heap.size w2 W) hf => hf5.out ev W (below_step HB2.out hc) hf
  replace hf10 := fun ev W (hc : Below w2.heap.size w2 W) hf => hf10.out ev W (below_step HB2.out hc) hf
  obtain ⟨l, hl⟩ : ∃ l, enF on P' V' R' K' B' = l := ⟨_, rfl⟩
  have hbu := fun rv W hc (hr : ModsAt W rv roots) => mvsBuild_in ks A HI.out oa on oc P' V' R' K' B' Rv' Kv' rv roots W (hE2 W hc) (HO.out.below hc) HSI.out hr (by have := HRL.out; omega)
  have hal := fun (v : Value) (S : List Md) W hc (hv : ModsAt W v S) (hS : S.length ≤ 1000000) => sumsAll_in ks A HI.out oa on oc P' V' R' K' B' Rv' Kv' v S l hl W (hE2 W hc) (HO.out.below hc) (by rw [← hl]; exact HSI.out) hv hS
  have hvf := fun (v hv : Value) (S : List Md) (Y : List Ln) W hc (hr : ModsAt W v S) (hS : S.length ≤ 1000000) (hx : LnsAt .u32 W hv Y) (hY : Y.length ≤ 1000000) => sumsVerify_in ks A HI.out HTEN.out oa on oc P' V' R' K' B' Rv' Kv' v hv S Y l hl W (hE2 W hc) (HO.out.below hc) (by rw [← hl]; exact HSI.out) hr hS hx hY
  have htx := fun (v : Value) (Y : List Ln) W hc (hx : LnsAt .u32 W v Y) (hok : LnOk Y) => sumsText_calls ks A HI.out v Y W (hE2 W hc) hx hok
  have hrd := fun (s : ByteArray) W hc (hs : s.size ≤ 1000000) => sumsRead_calls ks A HI.out s W (hE2 W hc) hs
  simp only [hl] at hbu HL1
  unfold SumsOut at hal
  unfold ReadLnOut at hrd
  replace hbu := Lib.hid hbu
  replace hal := Lib.hid hal
  replace hvf := Lib.hid hvf
  replace htx := Lib.hid htx
  replace hrd := Lib.hid hrd
  replace hf5 := Lib.hid hf5
  replace hf10 := Lib.hid hf10
  clear hl hE2 HSI HI HTEN hE
  go_wp2_with fail
  refine (hom.out _ hB).mono ?_
  rintro e w3 ⟨⟨mv1, rfl, hm1, L1, hL1, hoL1⟩, hb⟩
  have hC := hb
  obtain ⟨a3, n3, c3, rfl⟩ := own_form hoL1
  have hb1 := hbu.out _ _ hC hm1
  replace hb1 := Lib.hid hb1
  clear hb hm1 hL1 hoL1 hom hbu
  go_wp2_with fail
  refine hb1.out.mono ?_
  rintro e w4 ⟨⟨v4, ev4, rfl, hf4, hs4⟩, hb⟩
  replace hC := below_step hC hb
  clear hb hb1
  rcases fault_form hf4 with ⟨h0, rfl⟩ | ⟨h0, ty, q, rfl⟩
  · have HF := Lib.hid (shF_of (sel_build h0) HL1.out)
    generalize buildR l roots = S at *
    generalize S.map (sumPair l) = X at *
    have HSL : Hid (S.length ≤ 1000000) := Lib.hid (by have := HF.out.few; omega)
    have HXL : Hid (X.length ≤ 1000000) := Lib.hid (by have := HF.out.few; have := HF.out.len; omega)
    have HOK : Hid (LnOk X) := Lib.hid ⟨by have := HF.out.few; have := HF.out.len; omega, fun x hx => by have := HF.out.small x hx; omega⟩
    obtain ⟨a4, c4, e4⟩ := mods_lenS hs4
    subst e4
    have HLN := Lib.hid HF.out.len
    have ha1 := hal.out _ _ _ hC hs4 HSL.out
    rw [HF.out.sums, HF.out.all] at ha1
    have HS4 := Lib.hid hs4
    have hC24 := hC.size
    have hC4 := Below.refl w4.heap.size w4
    replace ha1 := Lib.hid ha1
    clear hf4 h0 hs4 hal
    go_wp2_with fail
    refine ha1.out.mono ?_
    rintro e w5 ⟨⟨v5, ev5, T5, rfl, hO5, hT5, hf5'⟩, hb⟩
    obtain rfl : ev5 = .nilIface := by
      rcases fault_form hf5' with ⟨_, h⟩ | ⟨h, _⟩
      · exact h
      · exact absurd rfl h
    replace hC := below_step hC hb
    replace hC4 := below_step hC4 hb
    have hx5 := lnsAt_own hO5
    rw [hT5] at hx5
    obtain ⟨a5, c5, e5⟩ := lns_len hx5
    subst e5
    rw [HLN.out] at hx5 hO5
    have hvs := hvf.out _ _ _ _ _ hC (HS4.out.below hC4) HSL.out hx5 HXL.out
    rw [HF.out.self] at hvs
    rw [HLN.out]
    replace hvs := Lib.hid hvs
    clear hb hf5' ha1 hO5 hT5
    go_wp2_with fail
    refine hvs.out.mono ?_
    rintro e w6 ⟨⟨ev6, rfl, hf6⟩, hb⟩
    obtain rfl : ev6 = .nilIface := by
      rcases fault_form hf6 with ⟨_, h⟩ | ⟨h, _⟩
      · exact h
      · exact absurd rfl h
    replace hC := below_step hC hb
    replace hC4 := below_step hC4 hb
    replace hx5 := hx5.below hb
    have ht1 := htx.out _ _ _ hC hx5 HOK.out
    rw [HF.out.lines, HF.out.txt] at ht1
    obtain ⟨tx, htx2⟩ : ∃ x : ByteArray, x = ⟨(lnsTxt X).toArray⟩ := ⟨_, rfl⟩
    have htd : tx.data.toList = lnsTxt X := by rw [htx2]
    rw [← htx2] at ht1
    have HTS : Hid (tx.size ≤ 1000000) := Lib.hid (by
      rw [size_eq, htd]
      have := lnsTxt_short X HF.out.small
      have := HF.out.few
      have := HF.out.len
      omega)
    have hr1 := fun W hc => hrd.out tx W hc HTS.out
    rw [htd, HF.out.read] at hr1
    simp only at hr1
    replace ht1 := Lib.hid ht1
    replace hr1 := Lib.hid hr1
    clear hb hf6 hvs htx hrd htx2 htd
    go_wp2_with fail
    refine ht1.out.mono ?_
    rintro e w7 ⟨⟨ev7, rfl, hf7⟩, hb⟩
    obtain rfl : ev7 = .nilIface := by
      rcases fault_form hf7 with ⟨_, h⟩ | ⟨h, _⟩
      · exact h
      · exact absurd rfl h
    replace hC := below_step hC hb
    replace hC4 := below_step hC4 hb
    replace hx5 := hx5.below hb
    clear hb hf7 ht1
    go_wp2_with fail
    refine (hr1.out _ hC).mono ?_
    rintro e w8 ⟨⟨v8, ev8, T8, rfl, hO8, hT8, hf8⟩, hb⟩
    obtain rfl : ev8 = .nilIface := by
      rcases fault_form hf8 with ⟨_, h⟩ | ⟨h, _⟩
      · exact h
      · exact absurd rfl h
    have hO8b : OwnL w4.heap.size w8 v8 T8 := ⟨own_baseH hO8 hC4.size⟩
    replace hC := below_step hC hb
    replace hC4 := below_step hC4 hb
    replace hx5 := hx5.below hb
    have hx8 := lnsAt_own hO8
    rw [hT8] at hx8
    obtain ⟨a8, c8, e8⟩ := lns_len hx8
    subst e8
    rw [HLN.out] at hx8 hO8b ⊢
    have HX8 := Lib.hid hx8
    have HX5 := Lib.hid hx5
    have HO8 := Lib.hid hO8b
    have HT8 := Lib.hid hT8
    obtain ⟨PX, VX, SX, hX⟩ := lns_fun hx5
    have HI8 := Lib.hid ((hX ▸ hx8).asX)
    have HI5 := Lib.hid ((hX ▸ hx5).asX)
    have HC24 : Hid (w2.heap.size ≤ w4.heap.size) := Lib.hid hC24
    have HC8 := Lib.hid hC
    have HC48 := Lib.hid hC4
    have hg := Tryz.ln_guard
    clear hb hf8 hr1 hO8 hT8 hO8b hx8 hx5 hX hC hC4 hC24
    go_wp2_with fail
    go_loopw [16] (fun i wr => ∃ k : Nat, k ≤ S.length ∧ i = .int .i64 k ∧ Below w8.heap.size w8 wr) (fun i _ => S.length - (intOf i).toNat)
    case atStart => exact ⟨0, Nat.zero_le _, rfl, Below.refl _ _⟩
    case round =>
      obtain ⟨k, hk, rfl, hBr⟩ := hrel
      by_cases hlt : k < S.length
      · have hkn : (k : Int) < (S.length : Int) := by omega
        obtain ⟨b1, o1, ea, d0, d1, d2⟩ := (HI5.out.below hBr).at_ k hlt
        obtain ⟨b2, o2, eb, e0, e1, e2⟩ := (HI8.out.below hBr).at_ k hlt
        subst ea eb
        have hq := ln_neq (PX k) (VX k) (SX k : Nat)
        have hnb : S.length ≤ 1000000 := HSL.out
        go_wp2_with fail
        have kqd0 := fun d os => cell_patch (d := d) (os := os) d0
        have kqd1 := fun d os => cell_patch (d := d) (os := os) d1
        have kqd2 := fun d os => cell_patch (d := d) (os := os) d2
        have kqe0 := fun d os => cell_patch (d := d) (os := os) e0
        have kqe1 := fun d os => cell_patch (d := d) (os := os) e1
        have kqe2 := fun d os => cell_patch (d := d) (os := os) e2
        refine wp_region_quiet_patch (by kernel_rfl) (by kernel_rfl) ?_
        repeat (go_big_quiet_step (fail))
        refine wpQuiet_nil ?_
        intro _ hw'
        obtain ⟨⟨dq, osq⟩, hw''⟩ := hw'
        subst hw''
        clear kqd0 kqd1 kqd2 kqe0 kqe1 kqe2
        have hb := below_patch wr dq osq
        replace hBr := below_step hBr hb
        clear hb
        generalize patch wr dq osq = w9 at hBr ⊢
        clear d0 d1 d2 e0 e1 e2
        go_wp2_with fail
        go_roundw
        case rel => exact ⟨k + 1, by omega, by go_num, hBr⟩
        case measure => simp [intOf]; omega
      · obtain rfl : k = S.length := by omega
        have hkn : ¬ (S.length : Int) < (S.length : Int) := by omega
        have hC := below_step HC8.out hBr
        have hC4 := below_step HC48.out hBr
        by_cases hge : S.length ≤ i
        · have hge' : (S.length : Int) ≤ (i : Int) := by omega
          clear hge hlt hk
          go_wp2_with fail
          go_ret
          exact ⟨rfl, below_step HB2.out hC⟩
        · have hge' : ¬ (S.length : Int) ≤ (i : Int) := by omega
          have hin : i < S.length := by omega
          have hx5 := HX5.out.below hBr
          obtain ⟨b5, o5, e5, _⟩ := (HI5.out.below hBr).at_ i hin
          subst e5
          have hnb : S.length ≤ 1000000 := HSL.out
          have hcap : S.length ≤ c5 := HI5.out.le
          have hwk := wrap_nat (i + 1) (by omega)
          have hkn : (i : Int) < (S.length : Int) := by omega
          have hk1 : i ≤ c5 := by omega
          have hk2 : i + 1 ≤ c5 := by omega
          have hk3 : (i : Int) ≤ (c5 : Int) := by omega
          have hk4 : (i : Int) + 1 ≤ (c5 : Int) := by omega
          have hk5 : (i : Int) + 1 ≤ (S.length : Int) := by omega
          have hk6 : (S.length : Int) ≤ (c5 : Int) := by omega
          have hk7 : ((i : Int) + 1).toNat = i + 1 := by omega
          have hk8 : (0 : Int) ≤ (i : Int) + 1 := by omega
          clear hge hlt hk
          by_cases hc1 : c5 = i + 1
          · subst hc1
            have hdr : ∀ W, Below wr.heap.size wr W → LnsAt .u32 W (.slice (some ⟨b5, o5, none⟩) 0 0) (X.drop (i + 1)) := fun W hW => by
              rw [List.drop_eq_nil_of_le (by have := HLN.out; omega)]
              exact lns_none _ _ _
            obtain ⟨o9, w9, hap9, ⟨L9, hL9, ho9⟩, hg9⟩ := app_lns wr wr.heap.size (Nat.le_refl _) (.slice none 0 0) (.slice (some ⟨b5, o5, none⟩) i (i + 1)) [] (X.take i) (World.ownsRow_nil _ _ _ _) (hx5.take (by omega)) (by simp) (by have := HXL.out; rw [List.length_take]; omega)
            have hb9 : Below wr.heap.size wr w9 := (Below.refl _ _).grown hg9 (Nat.le_refl _) (fun q hq => by cases hq)
            obtain ⟨o10, w10, hap10, ⟨L10, hL10, ho10⟩, hg10⟩ := app_lns w9 wr.heap.size hb9.size o9 _ L9 _ ho9 (hdr w9 hb9) (by have := HXL.out; have := congrArg List.length hL9; rw [lnTs_length, List.length_append, List.length_take] at this; simp [lnTs] at this; omega) (by have := HXL.out; rw [List.length_drop]; omega)
            have hb10 : Below wr.heap.size wr w10 := hb9.grown hg10 hb9.size (fun q hq => (ho9.lt q hq).1)
            have hx10 := lnsAt_own ho10
            rw [show lnTs L10 = X.take i ++ X.drop (i + 1) from by rw [hL10, hL9]; rfl] at hx10
            obtain ⟨a9, m9, c9, rfl⟩ := own_form ho9
            obtain ⟨a10, m10, c10, rfl⟩ := own_form ho10
            have HAP9 := Lib.hid hap9
            have HAP10 := Lib.hid hap10
            replace hC := below_step hC hb10
            replace hC4 := below_step hC4 hb10
            replace hBr := below_step hBr hb10
            have hvl := hvf.out _ _ _ _ _ hC (HS4.out.below hC4) HSL.out hx10 (by have := HXL.out; rw [List.length_append, List.length_take, List.length_drop]; omega)
            rw [HF.out.less i (by rw [HLN.out]; exact hin)] at hvl
            replace hvl := Lib.hid hvl
            clear hap9 hap10 hL9 hL10 ho9 ho10 hg9 hg10 hb9 hb10 hdr hx5 hx10
            replace hC := Lib.hid hC
            replace hC4 := Lib.hid hC4
            replace hBr := Lib.hid hBr
            go_wp2_with (at_builtin; first | (have hap := HAP9.out; refine wpList_append_run rfl _ _ 39 rfl _ _ rfl rfl _ _ hap ?_; clear hap HAP9) | (refine wpList_append_run rfl _ _ 39 rfl _ _ rfl rfl _ _ HAP10.out ?_; clear HAP10))
            replace hC := hC.out
            replace hC4 := hC4.out
            replace hBr := hBr.out
            refine hvl.out.mono ?_
            rintro e w11 ⟨⟨ev11, rfl, hf11⟩, hb⟩
            replace hC := below_step hC hb
            replace hC4 := below_step hC4 hb
            replace hBr := below_step hBr hb
            have hfa := hf5.out _ _ hC hf11
            replace hfa := Lib.hid hfa
            clear hb hf11 hvl
            go_wp2_with fail
            refine hfa.out.mono ?_
            rintro e w12 ⟨rfl, hb⟩
            replace hC := below_step hC hb
            replace hC4 := below_step hC4 hb
            replace hBr := below_step hBr hb
            obtain ⟨g, s, e8, hg4, hs8, c0, cz, hput⟩ := ownL_putX (HO8.out.below hBr) HT8.out (k := i) (by rw [HLN.out]; exact hin)
            subst e8
            have HG := Lib.hid (And.intro hg4 hs8)
            have HPUT := Lib.hid hput
            clear hb hfa hg4 hs8 hput
            by_cases hso : s = o
            · have hq : (((s : Nat) : Int) == ((o : Nat) : Int)) = true := by rw [hso]; exact beq_self_eq_true _
              clear hso
              go_wp2_with fail
              go_ret
              exact ⟨rfl, below_step HB2.out hC⟩
            · have hq : (((s : Nat) : Int) == ((o : Nat) : Int)) = false := beq_eq_false_iff_ne.2 (by omega)
              have hC5 := hC.setCell (p := ⟨g, i * 3 + 2, none⟩) (Nat.le_trans HC24.out HG.out.1) (.int .u32 ((o : Nat) : Int))
              have hC45 := hC4.setCell (p := ⟨g, i * 3 + 2, none⟩) HG.out.1 (.int .u32 ((o : Nat) : Int))
              have hvo := hvf.out _ _ _ _ _ hC5 (HS4.out.below hC45) HSL.out (HPUT.out o) (by rw [List.length_set]; exact HXL.out)
              rw [HF.out.other i o (by rw [HLN.out]; exact hin) (by rw [HG.out.2]; exact hso)] at hvo
              replace hvo := Lib.hid hvo
              clear hso hC hC4
              go_wp2_with fail
              refine hvo.out.mono ?_
              rintro e w13 ⟨⟨ev13, rfl, hf13⟩, hb⟩
              replace hC5 := below_step hC5 hb
              have hfa := hf10.out _ _ hC5 hf13
              replace hfa := Lib.hid hfa
              clear hb hf13 hvo hC45
              go_wp2_with fail
              refine hfa.out.mono ?_
              rintro e w14 ⟨rfl, hb⟩
              go_wp2_with fail
              go_ret
              exact ⟨rfl, below_step HB2.out (below_step hC5 hb)⟩
          · have hdr : ∀ W, Below wr.heap.size wr W → LnsAt .u32 W (.slice (some ⟨b5, o5 + (i + 1) * 3, none⟩) (S.length - (i + 1)) (c5 - (i + 1))) (X.drop (i + 1)) := fun W hW =>
              (hx5.below hW).drop (by omega)
            obtain ⟨o9, w9, hap9, ⟨L9, hL9, ho9⟩, hg9⟩ := app_lns wr wr.heap.size (Nat.le_refl _) (.slice none 0 0) (.slice (some ⟨b5, o5, none⟩) i c5) [] (X.take i) (World.ownsRow_nil _ _ _ _) (hx5.take (by omega)) (by simp) (by have := HXL.out; rw [List.length_take]; omega)
            have hb9 : Below wr.heap.size wr w9 := (Below.refl _ _).grown hg9 (Nat.le_refl _) (fun q hq => by cases hq)
            obtain ⟨o10, w10, hap10, ⟨L10, hL10, ho10⟩, hg10⟩ := app_lns w9 wr.heap.size hb9.size o9 _ L9 _ ho9 (hdr w9 hb9) (by have := HXL.out; have := congrArg List.length hL9; rw [lnTs_length, List.length_append, List.length_take] at this; simp [lnTs] at this; omega) (by have := HXL.out; rw [List.length_drop]; omega)
            have hb10 : Below wr.heap.size wr w10 := hb9.grown hg10 hb9.size (fun q hq => (ho9.lt q hq).1)
            have hx10 := lnsAt_own ho10
            rw [show lnTs L10 = X.take i ++ X.drop (i + 1) from by rw [hL10, hL9]; rfl] at hx10
            obtain ⟨a9, m9, c9, rfl⟩ := own_form ho9
            obtain ⟨a10, m10, c10, rfl⟩ := own_form ho10
            have HAP9 := Lib.hid hap9
            have HAP10 := Lib.hid hap10
            replace hC := below_step hC hb10
            replace hC4 := below_step hC4 hb10
            replace hBr := below_step hBr hb10
            have hvl := hvf.out _ _ _ _ _ hC (HS4.out.below hC4) HSL.out hx10 (by have := HXL.out; rw [List.length_append, List.length_take, List.length_drop]; omega)
            rw [HF.out.less i (by rw [HLN.out]; exact hin)] at hvl
            replace hvl := Lib.hid hvl
            clear hap9 hap10 hL9 hL10 ho9 ho10 hg9 hg10 hb9 hb10 hdr hx5 hx10
            replace hC := Lib.hid hC
            replace hC4 := Lib.hid hC4
            replace hBr := Lib.hid hBr
            go_wp2_with (at_builtin; first | (have hap := HAP9.out; refine wpList_append_run rfl _ _ 39 rfl _ _ rfl rfl _ _ hap ?_; clear hap HAP9) | (refine wpList_append_run rfl _ _ 39 rfl _ _ rfl rfl _ _ HAP10.out ?_; clear HAP10))
            replace hC := hC.out
            replace hC4 := hC4.out
            replace hBr := hBr.out
            refine hvl.out.mono ?_
            rintro e w11 ⟨⟨ev11, rfl, hf11⟩, hb⟩
            replace hC := below_step hC hb
            replace hC4 := below_step hC4 hb
            replace hBr := below_step hBr hb
            have hfa := hf5.out _ _ hC hf11
            replace hfa := Lib.hid hfa
            clear hb hf11 hvl
            go_wp2_with fail
            refine hfa.out.mono ?_
            rintro e w12 ⟨rfl, hb⟩
            replace hC := below_step hC hb
            replace hC4 := below_step hC4 hb
            replace hBr := below_step hBr hb
            obtain ⟨g, s, e8, hg4, hs8, c0, cz, hput⟩ := ownL_putX (HO8.out.below hBr) HT8.out (k := i) (by rw [HLN.out]; exact hin)
            subst e8
            have HG := Lib.hid (And.intro hg4 hs8)
            have HPUT := Lib.hid hput
            clear hb hfa hg4 hs8 hput
            by_cases hso : s = o
            · have hq : (((s : Nat) : Int) == ((o : Nat) : Int)) = true := by rw [hso]; exact beq_self_eq_true _
              clear hso
              go_wp2_with fail
              go_ret
              exact ⟨rfl, below_step HB2.out hC⟩
            · have hq : (((s : Nat) : Int) == ((o : Nat) : Int)) = false := beq_eq_false_iff_ne.2 (by omega)
              have hC5 := hC.setCell (p := ⟨g, i * 3 + 2, none⟩) (Nat.le_trans HC24.out HG.out.1) (.int .u32 ((o : Nat) : Int))
              have hC45 := hC4.setCell (p := ⟨g, i * 3 + 2, none⟩) HG.out.1 (.int .u32 ((o : Nat) : Int))
              have hvo := hvf.out _ _ _ _ _ hC5 (HS4.out.below hC45) HSL.out (HPUT.out o) (by rw [List.length_set]; exact HXL.out)
              rw [HF.out.other i o (by rw [HLN.out]; exact hin) (by rw [HG.out.2]; exact hso)] at hvo
              replace hvo := Lib.hid hvo
              clear hso hC hC4
              go_wp2_with fail
              refine hvo.out.mono ?_
              rintro e w13 ⟨⟨ev13, rfl, hf13⟩, hb⟩
              replace hC5 := below_step hC5 hb
              have hfa := hf10.out _ _ hC5 hf13
              replace hfa := Lib.hid hfa
              clear hb hf13 hvo hC45
              go_wp2_with fail
              refine hfa.out.mono ?_
              rintro e w14 ⟨rfl, hb⟩
              go_wp2_with fail
              go_ret
              exact ⟨rfl, below_step HB2.out (below_step hC5 hb)⟩
  · clear hf4 h0 hs4
    go_wp2_with fail
    go_ret
    exact ⟨rfl, below_step hB hC⟩
set_option maxHeartbeats 4000000 in
theorem sumsHold_calls (ks : List Nat) (A : Nat → Addr) (hks : IdxKs ks) (h10 : 10 ∈ ks) (lv sv : Value) (l : List En) (roots : List Md) (i o : Int) (w : World) (hE : EnvP ks A w) (hC : EnvC A w) (hl : EntsAt w lv l) (hs : ModsAt w sv roots) (wo : (Lit.int .u32 o).wf = true) :
    Calls Tryz.prog 4 #[lv, sv, .int .i64 i, .int .u32 o] w fun e w' => e = .returned (.bool true) ∧ Below w.heap.size w w' := by
  obtain ⟨la, ln, lc, P, V, R, K, Bk, Rv, Kv, rfl, rfl, hin⟩ := hl
  have H : ShArgs ks A la ln lc P V R K Bk Rv Kv sv roots w := ⟨hks, h10, hE, hC, hin, hs⟩
  obtain ⟨n, rfl, hn⟩ := wf32u wo
  cases h1 : longIdx (enF ln P V R K Bk)
  · cases h2 : longMods roots 15
    · by_cases h3 : i < 0
      · exact sumsHold_long ks A la ln lc P V R K Bk Rv Kv sv roots i n w H (.inr ⟨h1, .inr ⟨h2, h3⟩⟩)
      · obtain ⟨k, rfl⟩ : ∃ k : Nat, i = k := ⟨i.toNat, by omega⟩
        exact sumsHold_main ks A la ln lc P V R K Bk Rv Kv sv roots k n w H h1 h2
    · exact sumsHold_long ks A la ln lc P V R K Bk Rv Kv sv roots i n w H (.inr ⟨h1, .inl h2⟩)
  · exact sumsHold_long ks A la ln lc P V R K Bk Rv Kv sv roots i n w H (.inl h1)
end Go.Proofs.Pw
