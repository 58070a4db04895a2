/- Pw: walks and plain laws, joined: Box DropS PkgWhoL. Conditions: at each theorem. -/
import Derived.Deep.RegionHeld2
import Derived.Test.YtkfnhchlfojomaaGreatDoorPfa
import Derived.Test.YtkfnhchlfojomaaGreatDoorPfb
import Derived.Test.YtkfnhchlfojomaaGreatDoorPfc
import Derived.Test.YtkfnhchlfojomaaGreatDoorPfd
import Derived.Test.YtkfnhchlfojomaaGreatDoorPfe
import Derived.Test.YtkfnhchlfojomaaGreatDoorPff
import Derived.Test.YtkfnhchlfojomaaGreatDoorPfg
import Derived.Test.YtkfnhchlfojomaaGreatDoorPfh
import Derived.Test.YtkfnhchlfojomaaGreatDoorPfi
import Derived.Test.YtkfnhchlfojomaaGreatDoorPfj
import Derived.Test.YtkfnhchlfojomaaGreatDoorPfk
import Derived.Test.YtkfnhchlfojomaaGreatDoorPfl
import Derived.Test.YtkfnhchlfojomaaGreatDoorPfm
import Derived.Test.YtkfnhchlfojomaaGreatDoorPfn
import Derived.Test.YtkfnhchlfojomaaGreatDoorPfo
import Derived.Test.YtkfnhchlfojomaaGreatDoorPfp
import Derived.Test.YtkfnhchlfojomaaGreatDoorPfq
import Derived.Test.YtkfnhchlfojomaaGreatDoorPfr
import Derived.Test.YtkfnhchlfojomaaGreatDoorPfs
import Derived.Test.YtkfnhchlfojomaaGreatDoorPft
import Derived.Test.YtkfnhchlfojomaaGreatDoorPfu
import Derived.Test.YtkfnhchlfojomaaGreatDoorPfv
import Derived.Test.YtkfnhchlfojomaaGreatDoorPfw
import Derived.Test.YtkfnhchlfojomaaGreatDoorPfx
import Derived.Test.YtkfnhchlfojomaaGreatDoorPfy
import Derived.Test.YtkfnhchlfojomaaGreatDoorPfz
import Derived.Test.YtkfnhchlfojomaaGreatDoorPfza
import Derived.Test.YtkfnhchlfojomaaGreatDoorPfzb
import Derived.Test.YtkfnhchlfojomaaGreatDoorPfzc
import Derived.Test.YtkfnhchlfojomaaGreatDoorPfze
import Derived.Test.YtkfnhchlfojomaaGreatDoorPka
import Derived.Test.YtkfnhchlfojomaaGreatDoorPkb
import Derived.Test.YtkfnhchlfojomaaGreatDoorPkc
import Derived.Test.YtkfnhchlfojomaaGreatDoorPkd
import Derived.Test.YtkfnhchlfojomaaGreatDoorPke
import Derived.Test.YtkfnhchlfojomaaGreatDoorPkf
import Derived.Test.YtkfnhchlfojomaaGreatDoorPkg
import Derived.Test.YtkfnhchlfojomaaGreatDoorPkh

namespace Go.Proofs.Pw
open Go.RowKit
open Go.Lib hiding intOf
theorem Box2.sto {w : World} {b : Nat} {u0 u1 : Value} (h : Box2 w b u0 u1) (v0 v1 : Value) : Box2 ((w.setCell ⟨b, 0, none⟩ v0).setCell ⟨b, 1, none⟩ v1) b v0 v1 := ⟨by rw [set_off _ (by decide)]; exact set_same _ h.c0, set_same _ (by rw [set_off _ (by decide)]; exact h.c1), fun j => by simp [h.fr j]⟩
theorem below_sto2 {B : Nat} {w W : World} (h : Below B w W) {b : Nat} (hb : B ≤ b) (u0 u1 : Value) : Below B w ((W.setCell ⟨b, 0, none⟩ u0).setCell ⟨b, 1, none⟩ u1) := (h.setCell (p := ⟨b, 0, none⟩) hb u0).setCell (p := ⟨b, 1, none⟩) hb u1
end Go.Proofs.Pw

namespace Go.Proofs.Pw
open Go.RowKit
open Go.Lib hiding intOf
theorem any_mdT {n : Nat} {P V : Nat → ByteArray} {m : Md} {q : Nat} (hq : q < n) : ((mdF n P V).take (q + 1)).any (fun x => decide (x = m)) = (((mdF n P V).take q).any (fun x => decide (x = m)) || decide (((P q).data.toList, (V q).data.toList) = m)) := by
  rw [mdF_take_succ n P V q hq, List.any_append]
  simp
end Go.Proofs.Pw

namespace Go.Proofs.Pw
open Go.RowKit Go.Sort
open Go.Lib hiding intOf
theorem StrsAt.cellsW {w : World} {x : Value} {l : List Str} (h : StrsAt w x l) : ∃ a n c L, x = .slice a n c ∧ l = lstF n L ∧ ∀ W, Below w.heap.size w W → ∀ j, j < n → ∃ b o, a = some ⟨b, o, none⟩ ∧ W.cell? ⟨b, o + j, none⟩ = some (.string (L j)) := by
  obtain ⟨a, n, c, L, e1, e2, _, _, h5⟩ := h
  exact ⟨a, n, c, L, e1, e2, fun W hW j hj => let ⟨b, o, e, c0⟩ := h5 j hj; ⟨b, o, e, Below.cell_some hW c0⟩⟩
theorem ModsAt.cellsT {w : World} {x : Value} {l : List Md} (h : ModsAt w x l) : ∃ a n c P V, x = .slice a n c ∧ l = mdF n P V ∧ ∀ W, Below w.heap.size w W → ∀ j, j < n → ∃ b o, a = some ⟨b, o, none⟩ ∧ W.cell? ⟨b, o + j * 2, none⟩ = some (.string (P j)) ∧ W.cell? ⟨b, o + j * 2 + 1, none⟩ = some (.string (V j)) := by
  obtain ⟨a, n, c, P, V, e1, e2, _, _, h5⟩ := h
  exact ⟨a, n, c, P, V, e1, e2, fun W hW j hj => let ⟨b, o, e, c0, c1⟩ := h5 j hj; ⟨b, o, e, Below.cell_some hW c0, Below.cell_some hW c1⟩⟩
theorem modsAt_one (w : World) (p v : ByteArray) : ModsAt (w.alloc (.cells #[.string p, .string v] 29)) (.slice (some ⟨w.heap.size, 0, none⟩) 1 1) [(p.data.toList, v.data.toList)] := by
  obtain ⟨h0, h1, _⟩ := box2_alloc w (.string p) (.string v) 29
  refine ⟨_, 1, 1, fun _ => p, fun _ => v, rfl, rfl, Nat.le_refl _, by decide, fun j hj => ⟨w.heap.size, 0, rfl, ?_⟩⟩
  obtain rfl : j = 0 := by omega
  exact ⟨h0, h1⟩
theorem allErr_one {l : List En} {m : Md} (h0 : (idxErr l).1 = 0) (h : ∃ e ∈ l, e.md = m) : allErr l [m] = (0, -1) := by
  have h1 : rootsErr l [m] = (0, -1) := by
    refine firstE_none (firstE_zero ?_)
    exact rootsErr_zero.2 fun x hx => by
      obtain rfl := List.mem_singleton.1 hx
      exact h
  unfold allErr
  rw [h1]
  unfold orE
  rw [if_neg (by simp [h0])]
theorem allK_one {l : List En} {m : Md} (p : Str) (h0 : (idxErr l).1 = 0) (h : ∃ e ∈ l, e.md = m) : decide (p ∈ allK l [m]) = selHas l p m := by
  unfold allK
  rw [allErr_one h0 h, if_pos rfl]
  unfold selHas
  rw [hasK_in, Bool.eq_iff_iff, decide_eq_true_iff, decide_eq_true_iff, pathsL_mem]
  unfold allP
  simp
theorem allK_oneLen {l : List En} {m : Md} (hs : ShortI l) (h : ∃ e ∈ l, e.md = m) : (allK l [m]).length ≤ 1000000 := by
  unfold allK
  split
  · refine Nat.le_trans (insFold_lenP _) ?_
    unfold allP packsP
    simp only [List.flatMap_cons, List.flatMap_nil, List.append_nil, List.length_map]
    exact (hs.packs _ (entOf_md h).2).1
  · simp
theorem whoL_in {l : List En} {p : Str} {q : Str} (hq : q ∈ pathsL (l.map (·.md.1))) : decide ((q, latestL l q) ∈ whoL l p) = selHas l p (q, latestL l q) := by
  unfold whoL
  rw [Bool.eq_iff_iff, decide_eq_true_iff, List.mem_filter]
  constructor
  · exact fun h => h.2
  · exact fun h => ⟨List.mem_map.2 ⟨q, hq, rfl⟩, h⟩
structure PwArgs (ks : List Nat) (A : Nat → Addr) (la : Option Addr) (ln lc : Nat) (P V : Nat → ByteArray) (R : Nat → List Md) (K : Nat → List Str) (Bk : Nat → Bool) (Rv Kv : Nat → Value) (w : World) : Prop where
  idx : IdxKs ks
  env : EnvP ks A w
  l : EntsIn w la ln lc P V R K Bk Rv Kv
set_option maxHeartbeats 4000000 in
set_option maxRecDepth 100000 in
theorem pkgWhoL_long (ks : List Nat) (A : Nat → Addr) (la : Option Addr) (ln lc : Nat) (P V : Nat → ByteArray) (R : Nat → List Md) (K : Nat → List Str) (Bk : Nat → Bool) (Rv Kv : Nat → Value) (p : ByteArray) (w : World) (H : PwArgs ks A la ln lc P V R K Bk Rv Kv w)
    (hlong : longIdx (enF ln P V R K Bk) = true ∨ (longIdx (enF ln P V R K Bk) = false ∧ (30 < ln ∨ (ln ≤ 30 ∧ 100 < p.size)))) :
    Calls Tryz.prog 8 #[.slice la ln lc, .string p] w fun e w' => e = .returned (.bool true) ∧ Below w.heap.size w w' := by
  have hre := packed_calls ks A H.idx w H.env
  have hlx := fun (W : World) (hb : Below w.heap.size w W) => longIndex_in la ln lc P V R K Bk Rv Kv W (H.l.below hb)
  replace hre := Lib.hid hre
  replace hlx := Lib.hid hlx
  clear H
  rcases hlong with h1 | ⟨h1, h2 | ⟨h2, h3⟩⟩
  · rw [longII_yes h1] at hlx
    clear h1
    go_enter Tryz.func8, Tryz.ntmps8
    go_wp2_with fail
    refine hre.out.mono ?_
    rintro e w1 ⟨rfl, hB⟩
    go_wp2_with fail
    refine (hlx.out _ hB).mono ?_
    rintro e w' ⟨rfl, rfl⟩
    clear hlx hre
    go_wp2_with fail
    go_ret
    exact ⟨rfl, hB⟩
  · rw [longII_no h1] at hlx
    have h2' : (30 : Int) < (ln : Int) := by omega
    clear h1 h2
    go_enter Tryz.func8, Tryz.ntmps8
    go_wp2_with fail
    refine hre.out.mono ?_
    rintro e w1 ⟨rfl, hB⟩
    go_wp2_with fail
    refine (hlx.out _ hB).mono ?_
    rintro e w' ⟨rfl, rfl⟩
    clear hlx hre
    go_wp2_with fail
    go_ret
    exact ⟨rfl, hB⟩
  · rw [longII_no h1] at hlx
    have h2' : ¬ (30 : Int) < (ln : Int) := by omega
    have h3' : (100 : Int) < (p.size : Int) := by omega
    clear h1 h2 h3
    go_enter Tryz.func8, Tryz.ntmps8
    go_wp2_with fail
    refine hre.out.mono ?_
    rintro e w1 ⟨rfl, hB⟩
    go_wp2_with fail
    refine (hlx.out _ hB).mono ?_
    rintro e w' ⟨rfl, rfl⟩
    clear hlx hre
    go_wp2_with fail
    go_ret
    exact ⟨rfl, hB⟩
set_option maxHeartbeats 16000000 in
set_option maxRecDepth 100000 in
theorem pkgWhoL_main (ks : List Nat) (A : Nat → Addr) (la : Option Addr) (ln lc : Nat) (P V : Nat → ByteArray) (R : Nat → List Md) (K : Nat → List Str) (Bk : Nat → Bool) (Rv Kv : Nat → Value) (p : ByteArray) (w : World) (H : PwArgs ks A la ln lc P V R K Bk Rv Kv w)
    (h1 : longIdx (enF ln P V R K Bk) = false) (h2 : ln ≤ 30) (h3 : p.size ≤ 100) :
    Calls Tryz.prog 8 #[.slice la ln lc, .string p] w fun e w' => e = .returned (.bool true) ∧ Below w.heap.size w w' := by
  have hre := packed_calls ks A H.idx w H.env
  have hlx := fun (W : World) (hb : Below w.heap.size w W) => longIndex_in la ln lc P V R K Bk Rv Kv W (H.l.below hb)
  have hsi := longIdx_short h1
  have hsm := longIdx_small h1
  have h2' : ¬ (30 : Int) < (ln : Int) := by omega
  have h3' : ¬ (100 : Int) < (p.size : Int) := by omega
  have HH := Lib.hid H
  have how := fun (W : World) (hb : Below w.heap.size w W) => ownIndex_calls (.slice la ln lc) (enF ln P V R K Bk) W ⟨la, ln, lc, P, V, R, K, Bk, Rv, Kv, rfl, rfl, HH.out.l.below hb⟩ (by have := hsm.1; omega) (fun e he => by
    have h4 := longEn_small (hsm.2 e he)
    have h5 := longMods_small h4.2.2.1
    exact ⟨by omega, by omega⟩)
  have hE := fun (W : World) (hb : Below w.heap.size w W) => HH.out.env.below hb
  rw [longII_no h1] at hlx
  have HSI := Lib.hid hsi
  have HI := Lib.hid HH.out.idx
  replace hre := Lib.hid hre
  replace hlx := Lib.hid hlx
  replace how := Lib.hid how
  replace hE := Lib.hid hE
  clear h1 hsi hsm H h3
  go_enter Tryz.func8, Tryz.ntmps8
  go_wp2_with fail
  refine hre.out.mono ?_
  rintro e w1 ⟨rfl, hB⟩
  go_wp2_with fail
  refine (hlx.out _ hB).mono ?_
  rintro e w' ⟨rfl, rfl⟩
  clear hlx hre
  go_wp2_with fail
  clear h2' h3'
  refine (how.out _ hB).mono ?_
  rintro e w2 ⟨⟨ov, rfl, hOE⟩, hb⟩
  replace hB := below_step hB hb
  obtain ⟨oa, on, oc, P', V', R', K', B', Rv', Kv', rfl, hOl, hO⟩ := hOE
  obtain rfl : ln = on := by have := congrArg List.length hOl; rwa [enF_length, enF_length] at this
  rw [hOl] at HSI
  have HO := Lib.hid hO
  clear hO hb how hOl HH
  have hE2 := fun W (hc : Below w2.heap.size w2 W) => hE.out W (below_step hB hc)
  obtain ⟨l, hl⟩ : ∃ l, enF ln P' V' R' K' B' = l := ⟨_, rfl⟩
  have hwh := fun W hc => pkgWho_in ks A HI.out oa ln oc P' V' R' K' B' Rv' Kv' p l hl W (hE2 W hc) (HO.out.below hc) (by rw [← hl]; exact HSI.out)
  have hpa := fun W hc => idxPaths_in oa ln oc P' V' R' K' B' Rv' Kv' W (HO.out.below hc) HSI.out
  have hla := fun (s : ByteArray) W hc => idxLatest_in ks A oa ln oc P' V' R' K' B' Rv' Kv' s W (hE2 W hc) (HO.out.below hc) HSI.out
  have hal := fun (v : Value) (m : Md) W hc (hv : ModsAt W v [m]) => pkgAll_in ks A HI.out oa ln oc P' V' R' K' B' Rv' Kv' v [m] l hl W (hE2 W hc) (HO.out.below hc) (by rw [← hl]; exact HSI.out) hv (by simp)
  have HLN : Hid (l.length = ln) := Lib.hid (by rw [← hl, enF_length])
  have HAK : Hid (∀ m : Md, (∃ e ∈ l, e.md = m) → (allK l [m]).length ≤ 1000000) := Lib.hid (fun m hm => allK_oneLen (by rw [← hl]; exact HSI.out) hm)
  simp only [hl] at hwh hpa hla hal HSI
  have HOM : Hid (whoK l p.data.toList = if (idxErr l).1 = 0 then (whoL l p.data.toList).reverse else []) := Lib.hid rfl
  replace hwh := Lib.hid hwh
  replace hpa := Lib.hid hpa
  replace hla := Lib.hid hla
  replace hal := Lib.hid hal
  clear hl hE2
  go_wp2_with fail
  refine (hwh.out _ (Below.refl _ _)).mono ?_
  rintro e w3 ⟨⟨v3, ev3, rfl, hs3, hf3⟩, hb⟩
  have hC := hb
  clear hb hwh
  rcases fault_form hf3 with ⟨h0, rfl⟩ | ⟨h0, ty, q, rfl⟩
  · have HR := Lib.hid (rightI_of h0)
    have H0 := Lib.hid h0
    rw [HOM.out, if_pos h0] at hs3
    obtain ⟨a3, m3, c3, P3, V3, rfl, e3, hc3⟩ := hs3.cellsT
    have HE3 := Lib.hid e3
    have HDN : Hid (∀ j, j + 1 < m3 → (P3 (j + 1)).size < (P3 j).size) := Lib.hid (fun j hj => by
      have h1 := whoL_down (p := p.data.toList) HR.out
      rw [e3] at h1
      unfold Rises at h1
      have h2 := List.pairwise_iff_getElem.1 h1 j (j + 1) (by rw [mdF_length]; omega) (by rw [mdF_length]; omega) (by omega)
      unfold lenDown at h2
      simp [mdF] at h2
      have h3 : ((P3 (j + 1)).size : Int) - (P3 j).size < 0 := by simpa using h2
      omega)
    have HLT : Hid (∀ j, j < m3 → latestL l (P3 j).data.toList = (V3 j).data.toList) := Lib.hid (fun j hj => by
      have h1 : ((P3 j).data.toList, (V3 j).data.toList) ∈ (whoL l p.data.toList).reverse := by rw [e3]; exact List.mem_of_getElem? (mdF_get m3 P3 V3 j hj)
      exact (whoL_mem HR.out (List.mem_reverse.1 h1)).1.symm)
    have hm3 : m3 ≤ 5 := by
      have h1 := whoL_len (p := p.data.toList) HR.out
      rw [← List.length_reverse, e3, mdF_length] at h1
      exact h1
    have h45 : ((V3 0).size = (V3 0).size) := rfl
    replace hc3 := Lib.hid hc3
    clear hs3 e3 hf3 h0 h45
    go_wp2_with fail
    go_loopw [9] (fun i wr => ∃ k : Nat, k ≤ m3 ∧ i = .int .i64 k ∧ Below w3.heap.size w3 wr) (fun i _ => m3 - (intOf i).toNat)
    case atStart => exact ⟨0, Nat.zero_le _, rfl, Below.refl _ _⟩
    case round =>
      obtain ⟨k, hk, rfl, hBr⟩ := hrel
      have hCr := below_step hC hBr
      by_cases hlt : k < m3
      · have hkn : (k : Int) < (m3 : Int) := by omega
        obtain ⟨b3, o3, ea, d0, d1⟩ := hc3.out wr hBr k hlt
        have hlk := hla.out (P3 k)
        rw [HLT.out k hlt, show (⟨(V3 k).data.toList.toArray⟩ : ByteArray) = V3 k from bytes_eq.1 rfl] at hlk
        have kC := Lib.hid (fun d os => below_step hCr (below_patch wr d os))
        by_cases h0 : k = 0
        · subst ea
          replace hlk := Lib.hid hlk
          go_wp2_with fail
          have hk0 : decide ((0 : Int) < (k : Int)) = false := decide_eq_false (by omega)
          have hk2 : decide (0 < k) = false := decide_eq_false (by omega)
          clear h0
          have kqd0 := fun d os => cell_patch (d := d) (os := os) d0
          have kqd1 := fun d os => cell_patch (d := d) (os := os) d1
          refine wp_region_quiet_patch (by kernel_rfl) (by kernel_rfl) ?_
          repeat (go_big_quiet_step ((go_at_call 45; exact Calls.patch_of (hlk.out _ (kC.out _ _)))))
          refine wpQuiet_nil ?_
          intro _ hw'
          obtain ⟨⟨dq, osq⟩, hw''⟩ := hw'
          subst hw''
          clear kqd0 kqd1
          have hb := below_patch wr dq osq
          replace hBr := below_step hBr hb
          clear hb
          generalize patch wr dq osq = wq1 at hBr ⊢
          clear d0 d1 hlk kC
          go_wp2_with fail
          go_roundw
          case rel => exact ⟨k + 1, by omega, by go_num, hBr⟩
          case measure => simp [intOf]; omega
        · obtain ⟨m, rfl⟩ : ∃ m, k = m + 1 := ⟨k - 1, by omega⟩
          have hk1 : ((m + 1 : Nat) : Int) - 1 = (m : Int) := by omega
          have hkw := wrap_nat m (by omega)
          have hkn2 : (m : Int) < (m3 : Int) := by omega
          obtain ⟨b4, o4, e1, c0, _⟩ := hc3.out wr hBr m (by omega)
          subst ea
          injection e1 with e1
          injection e1 with e1 e2
          subst e1 e2
          replace hlk := Lib.hid hlk
          clear h0
          go_wp2_with fail
          have hk0 : decide ((0 : Int) < ((m + 1 : Nat) : Int)) = true := decide_eq_true (by omega)
          have hdy : decide ((P3 m).size < (P3 (m + 1)).size) = false := decide_eq_false (by have := HDN.out m hlt; omega)
          have hdz : decide (((P3 m).size : Int) < ((P3 (m + 1)).size : Int)) = false := decide_eq_false (by have := HDN.out m hlt; omega)
          have kqd0 := fun d os => cell_patch (d := d) (os := os) d0
          have kqd1 := fun d os => cell_patch (d := d) (os := os) d1
          have kqc0 := fun d os => cell_patch (d := d) (os := os) c0
          refine wp_region_quiet_patch (by kernel_rfl) (by kernel_rfl) ?_
          repeat (go_big_quiet_step ((go_at_call 45; exact Calls.patch_of (hlk.out _ (kC.out _ _)))))
          refine wpQuiet_nil ?_
          intro _ hw'
          obtain ⟨⟨dq, osq⟩, hw''⟩ := hw'
          subst hw''
          clear kqd0 kqd1 kqc0
          have hb := below_patch wr dq osq
          replace hBr := below_step hBr hb
          clear hb
          generalize patch wr dq osq = wq1 at hBr ⊢
          clear d0 d1 c0 hlk kC
          go_wp2_with fail
          go_roundw
          case rel => exact ⟨m + 1 + 1, by omega, by go_num, hBr⟩
          case measure => simp [intOf]; omega
      · have hkn : ¬ (k : Int) < (m3 : Int) := by omega
        clear hlt hk HDN HLT
        go_wp2_with fail
        refine (hpa.out _ hCr).mono ?_
        rintro e w5 ⟨⟨v5, rfl, hs5⟩, hb⟩
        have hB3 := below_step hBr hb
        have hC5 := below_step hCr hb
        obtain ⟨a5, m5, c5, L5, rfl, e5, hc5⟩ := hs5.cellsW
        have HE5 := Lib.hid e5
        have hm5 : m5 ≤ 30 := by
          have h3 := insFold_lenP (l.map (·.md.1))
          rw [e5, lstF_length, List.length_map, HLN.out] at h3
          omega
        replace hc5 := Lib.hid hc5
        clear hs5 e5 hb hpa hBr hCr hkn hC
        go_wp2_with fail
        go_loopw [11, 12, 13, 14, 15, 16] (fun i _ _ _ _ _ wr => ∃ k : Nat, k ≤ m5 ∧ i = .int .i64 k ∧ Below w5.heap.size w5 wr) (fun i _ _ _ _ _ _ => m5 - (intOf i).toNat)
        case atStart => exact ⟨0, Nat.zero_le _, rfl, Below.refl _ _⟩
        case round =>
          obtain ⟨k, hk, rfl, hBr⟩ := hrel
          have hCr := below_step hC5 hBr
          by_cases hlt : k < m5
          · have hkn : (k : Int) < (m5 : Int) := by omega
            obtain ⟨b1, o1, ea, c00⟩ := hc5.out w5 (Below.refl _ _) k hlt
            have c0 := Below.cell_some hBr c00
            subst ea
            have hmem : (L5 k).data.toList ∈ pathsL (l.map (·.md.1)) := by rw [HE5.out]; exact lstF_mem'.2 ⟨k, hlt, rfl⟩
            obtain ⟨e0, he0, h1⟩ := List.mem_map.1 ((pathsL_mem _ _).1 hmem)
            have hlat := latest_in HR.out he0 rfl
            rw [h1] at hlat
            have hXX := whoL_in (p := p.data.toList) hmem
            obtain ⟨lb, hlb⟩ : ∃ y : ByteArray, y = ⟨(latestL l (L5 k).data.toList).toArray⟩ := ⟨_, rfl⟩
            have hlb2 : lb.data.toList = latestL l (L5 k).data.toList := by rw [hlb]
            have hl1 := hla.out (L5 k)
            rw [← hlb] at hl1
            rw [← hlb2] at hlat hXX
            have hXK := allK_one p.data.toList H0.out hlat
            have hXE := allErr_one H0.out hlat
            have hXL := HAK.out _ hlat
            have hal1 := fun v W hc hv => hal.out v ((L5 k).data.toList, lb.data.toList) W hc hv
            rw [hXE] at hal1
            generalize L5 k = pb at *
            obtain ⟨X, hX⟩ : ∃ X, selHas l p.data.toList (pb.data.toList, lb.data.toList) = X := ⟨_, rfl⟩
            rw [hX] at hXX hXK
            have HXX : Hid (((mdF m3 P3 V3).any fun m => decide (m = (pb.data.toList, lb.data.toList))) = X) := Lib.hid (by
              rw [← hXX, ← HE3.out, Bool.eq_iff_iff, List.any_eq_true, decide_eq_true_iff]
              simp)
            have HXK := Lib.hid hXK
            have HXL := Lib.hid hXL
            have HC00 := Lib.hid c00
            have hbW := hBr.drew
            have HSZ := Lib.hid hBr.size
            replace hl1 := Lib.hid hl1
            replace hal1 := Lib.hid hal1
            clear c00 hmem he0 h1 hlat hXX hlb hlb2 hXK hXE hXL hX
            go_wp2_with fail
            clear c0
            have hbA := (hBr.alloc hBr.size (.cells #[.string ⟨#[]⟩, .string ⟨#[]⟩] 29)).drew
            have hzA : Box2 (wr.alloc (.cells #[.string ⟨#[]⟩, .string ⟨#[]⟩] 29)).drew wr.heap.size (.string ⟨#[]⟩) (.string ⟨#[]⟩) := ⟨(box2_alloc wr (.string ⟨#[]⟩) (.string ⟨#[]⟩) 29).c0, (box2_alloc wr (.string ⟨#[]⟩) (.string ⟨#[]⟩) 29).c1, (box2_alloc wr (.string ⟨#[]⟩) (.string ⟨#[]⟩) 29).fr⟩
            go_region_held2 (fun W => W.cell? ⟨b1, o1 + k, none⟩ = some (.string pb)) (first
              | with_reducible exact Below.cell_some hbW HC00.out
              | with_reducible exact Below.cell_some (Below.alloc hbW hbW.size _) HC00.out
              | with_reducible exact Below.cell_some hbA HC00.out
              | with_reducible exact Below.cell_some (below_sto2 hbW HSZ.out _ _) HC00.out) (first
              | (go_at_call 45; refine (hl1.out _ (below_step hC5 hbW)).mono ?_; rintro e w7 ⟨rfl, hb7⟩; replace hbW := below_step hbW hb7)
              | (go_at_call 45; refine (hl1.out _ (below_step hC5 hbA)).mono ?_; rintro e w7 ⟨rfl, hb7⟩; replace hbW := below_step hbA hb7; have hcn := hzA.below hb7; have hc0 := hcn.c0; have hc1 := hcn.c1; have hfn := hcn.fr))
            all_goals
              first
                | (fail_if_success (have hq := hcn.c0)
                   have hyy := box2_alloc w7 (.string pb) (.string lb) 29
                   have hB8 := below_step hbW (below_alloc w7 (.cells #[.string pb, .string lb] 29))
                   clear hbW hb7 hbA hzA HSZ
                   generalize w7.alloc (.cells #[.string pb, .string lb] 29) = w8 at *
                   generalize w7.heap.size = bx at *
                   skip)
                | (have hyy := hcn.sto (.string pb) (.string lb)
                   have hB8 := below_sto2 hbW HSZ.out (.string pb) (.string lb)
                   clear hbW hb7 hbA hzA hcn hc0 hc1 hfn HSZ
                   generalize (w7.setCell ⟨wr.heap.size, 0, none⟩ (.string pb)).setCell ⟨wr.heap.size, 1, none⟩ (.string lb) = w8 at *
                   generalize wr.heap.size = bx at *
                   skip)
              have hyy2 := hyy.below (below_alloc w8 (.cells #[.string pb, .string lb] 29))
              have hB9 := below_step hB8 (below_alloc w8 (.cells #[.string pb, .string lb] 29))
              have hca := hal1.out _ _ (below_step hC5 hB9) (modsAt_one w8 pb lb)
              have HYY := Lib.hid hyy2
              obtain ⟨y0, y1, _⟩ := hyy
              generalize hwq : wr = wq at *
              replace hca := Lib.hid hca
              clear hwq hyy2 hB8 hBr hCr
              go_wp2_with fail
              clear y0 y1
              generalize w8.alloc (.cells #[.string pb, .string lb] 29) = w9 at *
              generalize w8.heap.size = b9 at *
              refine hca.out.mono ?_
              rintro e w10 ⟨⟨v10, ev10, rfl, hs10, hf10⟩, hb⟩
              obtain rfl : ev10 = .nilIface := by
                rcases fault_form hf10 with ⟨_, h⟩ | ⟨h, _⟩
                · exact h
                · exact absurd rfl h
              obtain ⟨a10, m10, c10, _, e10, -⟩ := id hs10
              subst e10
              have hB10 := below_step hB9 hb
              have HY := Lib.hid (HYY.out.below hb)
              have HS10 := Lib.hid hs10
              clear hb hf10 hca hB9 HYY hs10
              go_wp2_with fail
              go_loopw [15, 16] (fun s i wq => ∃ (q : Nat) (u : Bool), q ≤ m3 ∧ i = .int .i64 q ∧ s = .bool u ∧ Hid (u = (((mdF m3 P3 V3).take q).any fun m => decide (m = (pb.data.toList, lb.data.toList)))) ∧ Below w10.heap.size w10 wq) (fun _ i _ => m3 - (intOf i).toNat)
              case atStart => exact ⟨0, false, Nat.zero_le _, rfl, rfl, Lib.hid (by simp), Below.refl _ _⟩
              case round =>
                obtain ⟨q, u, hq, rfl, rfl, hT, hBq⟩ := hrel
                by_cases hq2 : q < m3
                · have hqn : (q : Int) < (m3 : Int) := by omega
                  obtain ⟨bq, oq, eq, d0, d1⟩ := hc3.out wr (below_step hB3 (below_step hB10 hBq)) q hq2
                  have z0 := Below.cell_some hBq HY.out.c0
                  have z1 := Below.cell_some hBq HY.out.c1
                  have hA := Lib.hid (any_mdT (P := P3) (V := V3) (m := (pb.data.toList, lb.data.toList)) hq2)
                  subst eq
                  cases u with
                  | true =>
                    have hN : Hid (true = (((mdF m3 P3 V3).take (q + 1)).any fun m => decide (m = (pb.data.toList, lb.data.toList)))) := Lib.hid (by rw [hA.out, ← hT.out]; rfl)
                    clear d0 d1 z0 z1
                    go_wp2_with fail
                    refine wp_region_quiet_patch (by kernel_rfl) (by kernel_rfl) ?_
                    repeat (go_big_quiet_step (fail))
                    refine wpQuiet_nil ?_
                    intro _ hw'
                    obtain ⟨⟨dq, osq⟩, hw''⟩ := hw'
                    subst hw''
                    have hb := below_patch wr dq osq
                    replace hBq := below_step hBq hb
                    clear hb
                    generalize patch wr dq osq = wq1 at hBq ⊢
                    go_wp2_with fail
                    go_roundw
                    case rel => exact ⟨q + 1, true, by omega, by go_num, rfl, hN, hBq⟩
                    case measure => simp [intOf]; omega
                  | false =>
                    have hg := Tryz.md_guard
                    have he := md_eql (P3 q) (V3 q) pb lb
                    obtain ⟨D, hD⟩ : ∃ D, decide (P3 q = pb ∧ V3 q = lb) = D := ⟨_, rfl⟩
                    have hN : Hid (D = (((mdF m3 P3 V3).take (q + 1)).any fun m => decide (m = (pb.data.toList, lb.data.toList)))) := Lib.hid (by
                      rw [hA.out, ← hT.out, Bool.false_or, ← hD, Bool.eq_iff_iff, decide_eq_true_iff, decide_eq_true_iff]
                      exact bytes_pair.symm)
                    rw [hD] at he
                    clear hD
                    go_wp2_with fail
                    have kqd0 := fun d os => cell_patch (d := d) (os := os) d0
                    have kqd1 := fun d os => cell_patch (d := d) (os := os) d1
                    have kqz0 := fun d os => cell_patch (d := d) (os := os) z0
                    have kqz1 := fun d os => cell_patch (d := d) (os := os) z1
                    refine wp_region_quiet_patch (by kernel_rfl) (by kernel_rfl) ?_
                    repeat (go_big_quiet_step (fail))
                    refine wpQuiet_nil ?_
                    intro _ hw'
                    obtain ⟨⟨dq, osq⟩, hw''⟩ := hw'
                    subst hw''
                    clear kqd0 kqd1 kqz0 kqz1
                    have hb := below_patch wr dq osq
                    replace hBq := below_step hBq hb
                    clear hb
                    generalize patch wr dq osq = wq1 at hBq ⊢
                    clear d0 d1 z0 z1
                    go_wp2_with fail
                    go_roundw
                    case rel => exact ⟨q + 1, D, by omega, by go_num, rfl, hN, hBq⟩
                    case measure => simp [intOf]; omega
                · have hqn : ¬ (q : Int) < (m3 : Int) := by omega
                  obtain rfl : u = X := by rw [hT.out, List.take_of_length_le (by rw [mdF_length]; omega)]; exact HXX.out
                  have hit := inTexts_calls p _ _ wr (HS10.out.below hBq) HXL.out
                  rw [HXK.out] at hit
                  replace hit := Lib.hid hit
                  clear hT hq2 hq HXX HXK
                  go_wp2_with fail
                  refine hit.out.mono ?_
                  rintro e w11 ⟨rfl, hb⟩
                  have hBf := below_step hB10 (below_step hBq hb)
                  clear hb hit
                  cases u
                  · go_wp2_with fail
                    go_roundw
                    case rel => exact ⟨k + 1, by omega, by go_num, hBf⟩
                    case measure => simp [intOf]; omega
                  · go_wp2_with fail
                    go_roundw
                    case rel => exact ⟨k + 1, by omega, by go_num, hBf⟩
                    case measure => simp [intOf]; omega
          · have hkn : ¬ (k : Int) < (m5 : Int) := by omega
            clear hlt hk
            go_wp2_with fail
            go_ret
            exact ⟨rfl, below_step hB hCr⟩
  · have hw0 : whoK l p.data.toList = [] := by rw [HOM.out, if_neg h0]
    rw [hw0] at hs3
    obtain ⟨a3, m3, c3, P3, V3, rfl, e3, hc3⟩ := hs3.cellsT
    obtain rfl : m3 = 0 := by have := congrArg List.length e3; rw [mdF_length] at this; exact this.symm
    clear hs3 e3 hc3 hf3 h0 hw0
    go_wp2_with fail
    go_ret
    exact ⟨by simp, below_step hB hC⟩
set_option maxHeartbeats 4000000 in
theorem pkgWhoL_calls (ks : List Nat) (A : Nat → Addr) (hks : IdxKs ks) (lv : Value) (l : List En) (p : ByteArray) (w : World) (hE : EnvP ks A w) (hl : EntsAt w lv l) :
    Calls Tryz.prog 8 #[lv, .string p] w fun e w' => e = .returned (.bool true) ∧ Below w.heap.size w w' := by
  obtain ⟨la, ln, lc, P, V, R, K, Bk, Rv, Kv, rfl, rfl, hin⟩ := hl
  have H : PwArgs ks A la ln lc P V R K Bk Rv Kv w := ⟨hks, hE, hin⟩
  cases h1 : longIdx (enF ln P V R K Bk)
  · by_cases h2 : ln ≤ 30
    · by_cases h3 : p.size ≤ 100
      · exact pkgWhoL_main ks A la ln lc P V R K Bk Rv Kv p w H h1 h2 h3
      · exact pkgWhoL_long ks A la ln lc P V R K Bk Rv Kv p w H (.inr ⟨h1, .inr ⟨h2, by omega⟩⟩)
    · exact pkgWhoL_long ks A la ln lc P V R K Bk Rv Kv p w H (.inr ⟨h1, .inl (by omega)⟩)
  · exact pkgWhoL_long ks A la ln lc P V R K Bk Rv Kv p w H (.inl h1)
end Go.Proofs.Pw
