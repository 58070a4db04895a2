/- Ge: walks and plain laws, joined: File2 Mem2 File3. Conditions: at each theorem. -/
import Derived.Test.YtmnojbbcaboagaaGreatDoorGeh
import Derived.Test.YtmnojbbcaboagaaGreatDoorGeb
import Derived.Deep.Upon
import Derived.Stop.IfaceNil

namespace Go.Proofs.Pw
open Go.RowKit
open Go.Lib hiding intOf
def FileKs (ks : List Nat) : Prop := 3 ∈ ks ∧ 4 ∈ ks ∧ 5 ∈ ks ∧ 7 ∈ ks ∧ 8 ∈ ks ∧ 9 ∈ ks
def Short (l : List Md) : Prop := l.length ≤ 1000000 ∧ ∀ m ∈ l, m.1.length ≤ 1000000 ∧ m.2.length ≤ 1000000
theorem short_F {n : Nat} {P V : Nat → ByteArray} (h : Short (mdF n P V)) : n ≤ 1000000 ∧ ∀ j, j < n → (P j).size ≤ 1000000 ∧ (V j).size ≤ 1000000 := by
  refine ⟨by have := h.1; rwa [mdF_length] at this, fun j hj => ?_⟩
  have := h.2 _ (List.mem_of_getElem? (mdF_get n P V j hj))
  rw [size_eq, size_eq]
  exact this
theorem Tryz.enters_fck1 : ∀ args w, (callFunc 43 args).run Tryz.prog w = .ok (.enter 43 args) w := Go.Proofs.enters_of Tryz.func43 (by kernel_rfl) rfl
theorem Tryz.enters_fck2 : ∀ args w, (callFunc 45 args).run Tryz.prog w = .ok (.enter 45 args) w := Go.Proofs.enters_of Tryz.func45 (by kernel_rfl) rfl
theorem Tryz.enters_fck3 : ∀ args w, (callFunc 47 args).run Tryz.prog w = .ok (.enter 47 args) w := Go.Proofs.enters_of Tryz.func47 (by kernel_rfl) rfl
set_option maxHeartbeats 2000000 in
set_option maxRecDepth 100000 in
theorem fileCheck_calls (ks : List Nat) (A : Nat → Addr) (hks : FileKs ks) (path : ByteArray) (rv xv : Value) (reqs excl : List Md) (w : World) (hE : EnvP ks A w) (hr : ModsAt w rv reqs) (hx : ModsAt w xv excl) (hp : path.size ≤ 1000000) (hsr : Short reqs) (hsx : Short excl) :
    Calls Tryz.prog 19 #[.agg #[.string path, rv, xv]] w fun e w' => (∃ v, e = .returned v ∧ FaultAt A w' v (fileErr ⟨path.data.toList, reqs, excl⟩)) ∧ Below w.heap.size w w' := by
  obtain ⟨a, n, cap, P, V, rfl, rfl, hnc, hcap, hc⟩ := hr
  obtain ⟨a2, m, cap2, Q, U, rfl, rfl, hmc, hcap2, hc2⟩ := hx
  obtain ⟨hn, hPV⟩ := short_F hsr
  obtain ⟨hm, hQU⟩ := short_F hsx
  obtain ⟨k3, k4, k5, k7, k8, k9⟩ := hks
  have hB := below_alloc w (.cells #[.string path, .slice a n cap, .slice a2 m cap2] 25)
  have hz := box3_alloc w (.string path) (.slice a n cap) (.slice a2 m cap2) 25
  have hpa := fun W hW => path_calls ks A k4 path W hW (by omega)
  have hfe : fileErr ⟨path.data.toList, mdF n P V, mdF m Q U⟩ = if pathErr path.data.toList ≠ 0 then (pathErr path.data.toList, -1) else if 20 < n ∨ 20 < m then (7, -1) else orE (firstE (reqE path.data.toList (mdF n P V)) n) (orE (firstE (excE (mdF m Q U)) m) (firstE (claE (mdF n P V) (mdF m Q U)) n)) := by
    unfold fileErr
    simp only [mdF_length]
  have ht1 : ∀ W, Below w.heap.size w W → Box3 W w.heap.size (.string path) (.slice a n cap) (.slice a2 m cap2) → EnvP ks A W → ∀ i : Nat, i < n → Calls Tryz.prog 43 (#[.int .i64 i] ++ #[.pointer (some ⟨w.heap.size, 0, none⟩)]) W fun e' w'' => e' = .returned (errV A (reqE path.data.toList (mdF n P V) i)) ∧ Below W.heap.size W w'' :=
    fun W hb hz hE i hi => fileCheck1_calls ks A k4 k3 k8 w.heap.size path a n cap P V (.slice a2 m cap2) i W hE hi hz (fun j hj => let ⟨b, o, e, h1, h2⟩ := hc j hj; ⟨b, o, e, Below.cell_some hb h1, Below.cell_some hb h2⟩) hn hPV
  have ht2 : ∀ W, Below w.heap.size w W → Box3 W w.heap.size (.string path) (.slice a n cap) (.slice a2 m cap2) → EnvP ks A W → ∀ i : Nat, i < m → Calls Tryz.prog 45 (#[.int .i64 i] ++ #[.pointer (some ⟨w.heap.size, 0, none⟩)]) W fun e' w'' => e' = .returned (errV A (excE (mdF m Q U) i)) ∧ Below W.heap.size W w'' :=
    fun W hb hz hE i hi => fileCheck2_calls ks A k4 k8 w.heap.size (.string path) (.slice a n cap) a2 m cap2 Q U i W hE hi hz (fun j hj => let ⟨b, o, e, h1, h2⟩ := hc2 j hj; ⟨b, o, e, Below.cell_some hb h1, Below.cell_some hb h2⟩) hm hQU
  have ht3 : ∀ W, Below w.heap.size w W → Box3 W w.heap.size (.string path) (.slice a n cap) (.slice a2 m cap2) → EnvP ks A W → ∀ i : Nat, i < n → Calls Tryz.prog 47 (#[.int .i64 i] ++ #[.pointer (some ⟨w.heap.size, 0, none⟩)]) W fun e' w'' => e' = .returned (errV A (claE (mdF n P V) (mdF m Q U) i)) ∧ Below W.heap.size W w'' :=
    fun W hb hz hE i hi => fileCheck3_calls ks A k9 w.heap.size (.string path) a n cap P V a2 m cap2 Q U i W hE hi hz (fun j hj => let ⟨b, o, e, h1, h2⟩ := hc j hj; ⟨b, o, e, Below.cell_some hb h1, Below.cell_some hb h2⟩) hn (fun j hj => let ⟨b, o, e, h1, h2⟩ := hc2 j hj; ⟨b, o, e, Below.cell_some hb h1, Below.cell_some hb h2⟩) hm
  have he1 := fun W (hb : Below w.heap.size w W) (hz : Box3 W w.heap.size (.string path) (.slice a n cap) (.slice a2 m cap2)) (hE : EnvP ks A W) => each_calls 43 #[.pointer (some ⟨w.heap.size, 0, none⟩)] Tryz.enters_fck1 A (reqE path.data.toList (mdF n P V)) a n cap W.heap.size W hn (Nat.le_refl _) (fun W' hb' i hi => ht1 W' (below_step hb hb') (hz.below hb') (hE.below hb') i hi)
  have he2 := fun W (hb : Below w.heap.size w W) (hz : Box3 W w.heap.size (.string path) (.slice a n cap) (.slice a2 m cap2)) (hE : EnvP ks A W) => each_calls 45 #[.pointer (some ⟨w.heap.size, 0, none⟩)] Tryz.enters_fck2 A (excE (mdF m Q U)) a2 m cap2 W.heap.size W hm (Nat.le_refl _) (fun W' hb' i hi => ht2 W' (below_step hb hb') (hz.below hb') (hE.below hb') i hi)
  have he3 := fun W (hb : Below w.heap.size w W) (hz : Box3 W w.heap.size (.string path) (.slice a n cap) (.slice a2 m cap2)) (hE : EnvP ks A W) => each_calls 47 #[.pointer (some ⟨w.heap.size, 0, none⟩)] Tryz.enters_fck3 A (claE (mdF n P V) (mdF m Q U)) a n cap W.heap.size W hn (Nat.le_refl _) (fun W' hb' i hi => ht3 W' (below_step hb hb') (hz.below hb') (hE.below hb') i hi)
  generalize firstE (reqE path.data.toList (mdF n P V)) n = r1 at he1 hfe
  generalize firstE (excE (mdF m Q U)) m = r2 at he2 hfe
  generalize firstE (claE (mdF n P V) (mdF m Q U)) n = r3 at he3 hfe
  replace hE := hE.below hB
  have HFE := Lib.hid hfe
  replace he1 := Lib.hid he1
  replace he2 := Lib.hid he2
  replace he3 := Lib.hid he3
  clear ht1 ht2 ht3 hfe hc hc2 hPV hQU hsr hsx
  by_cases h0 : pathErr path.data.toList = 0
  · rw [h0, errV_zero] at hpa
    have H0 := Lib.hid h0
    by_cases hbig : 20 < n ∨ 20 < m
    · have HF : Hid (fileErr ⟨path.data.toList, mdF n P V, mdF m Q U⟩ = (7, -1)) := Lib.hid (by rw [HFE.out, if_neg (by simp [h0]), if_pos hbig])
      have HR : Hid (∀ W, FaultAt A W (errV A 7) (7, -1)) := Lib.hid (fun W => .inr (.inl ⟨by decide, rfl, rfl⟩))
      rw [errV_pos A (c := 7) (by decide)] at HR
      replace hpa := Lib.hid hpa
      clear h0 he1 he2 he3
      by_cases hn20 : 20 < n
      · have hn20' : (20 : Int) < (n : Int) := by omega
        clear hbig
        go_enter Tryz.func19, Tryz.ntmps19
        obtain ⟨z0, z1, z2⟩ := id hz
        go_wp2_with fail
        refine (hpa.out _ hE).mono ?_
        rintro e w1 ⟨rfl, hb⟩
        replace hB := below_step hB hb
        replace hE := hE.below hb
        replace hz := hz.below hb
        clear hb
        obtain ⟨z0, z1, z2⟩ := id hz
        have g7 := hE.errs.var 7 k7
        simp only [errG] at g7
        go_wp2_with fail
        go_ret
        rw [HF.out]
        exact ⟨⟨_, rfl, HR.out _⟩, hB⟩
      · have hn20' : ¬ (20 : Int) < (n : Int) := by omega
        have hm20' : (20 : Int) < (m : Int) := by omega
        clear hbig
        go_enter Tryz.func19, Tryz.ntmps19
        obtain ⟨z0, z1, z2⟩ := id hz
        go_wp2_with fail
        refine (hpa.out _ hE).mono ?_
        rintro e w1 ⟨rfl, hb⟩
        replace hB := below_step hB hb
        replace hE := hE.below hb
        replace hz := hz.below hb
        clear hb
        obtain ⟨z0, z1, z2⟩ := id hz
        have g7 := hE.errs.var 7 k7
        simp only [errG] at g7
        go_wp2_with fail
        go_ret
        rw [HF.out]
        exact ⟨⟨_, rfl, HR.out _⟩, hB⟩
    · have hn20' : ¬ (20 : Int) < (n : Int) := by omega
      have hm20' : ¬ (20 : Int) < (m : Int) := by omega
      have HF1 : Hid (fileErr ⟨path.data.toList, mdF n P V, mdF m Q U⟩ = orE r1 (orE r2 r3)) := Lib.hid (by rw [HFE.out, if_neg (by simp [h0]), if_neg hbig])
      replace hpa := Lib.hid hpa
      clear h0 hbig HFE
      go_enter Tryz.func19, Tryz.ntmps19
      obtain ⟨z0, z1, z2⟩ := id hz
      go_wp2_with fail
      refine (hpa.out _ hE).mono ?_
      rintro e w1 ⟨rfl, hb⟩
      replace hB := below_step hB hb
      replace hE := hE.below hb
      replace hz := hz.below hb
      clear hb
      obtain ⟨z0, z1, z2⟩ := id hz
      go_wp2_with fail
      refine (he1.out _ hB hz hE).mono ?_
      rintro e w2 ⟨⟨v, rfl, hF⟩, hb⟩
      replace hB := below_step hB hb
      replace hE := hE.below hb
      replace hz := hz.below hb
      clear hb
      obtain ⟨z0, z1, z2⟩ := id hz
      rcases hF with ⟨h1, h2, rfl⟩ | ⟨h1, h2, rfl⟩ | ⟨h1, bb, rfl, c3, c4⟩
      rotate_left
      ·
        have HF : Hid (fileErr ⟨path.data.toList, mdF n P V, mdF m Q U⟩ = r1) := Lib.hid (by rw [HF1.out]; unfold orE; rw [if_pos h1])
        have HR := Lib.hid (show FaultAt A w2 (errV A r1.1) r1 from .inr (.inl ⟨h1, h2, rfl⟩))
        rw [errV_pos A h1] at HR ⊢
        go_wp2_with fail
        go_ret
        rw [HF.out]
        exact ⟨⟨_, rfl, HR.out⟩, hB⟩
      ·
        have HF : Hid (fileErr ⟨path.data.toList, mdF n P V, mdF m Q U⟩ = r1) := Lib.hid (by rw [HF1.out]; unfold orE; rw [if_pos h1])
        have HR := Lib.hid (show FaultAt A w2 (.iface 74 (.pointer (some ⟨bb, 0, none⟩))) r1 from .inr (.inr ⟨h1, bb, rfl, c3, c4⟩))
        clear c3 c4
        go_wp2_with fail
        go_ret
        rw [HF.out]
        exact ⟨⟨_, rfl, HR.out⟩, hB⟩
      have HF2 : Hid (fileErr ⟨path.data.toList, mdF n P V, mdF m Q U⟩ = orE r2 r3) := Lib.hid (by rw [HF1.out]; unfold orE; rw [if_neg (by simp [h1])])
      clear h1 h2 HF1 he1
      go_wp2_with fail
      refine (he2.out _ hB hz hE).mono ?_
      rintro e w2 ⟨⟨v, rfl, hF⟩, hb⟩
      replace hB := below_step hB hb
      replace hE := hE.below hb
      replace hz := hz.below hb
      clear hb
      obtain ⟨z0, z1, z2⟩ := id hz
      rcases hF with ⟨h1, h2, rfl⟩ | ⟨h1, h2, rfl⟩ | ⟨h1, bb, rfl, c3, c4⟩
      rotate_left
      ·
        have HF : Hid (fileErr ⟨path.data.toList, mdF n P V, mdF m Q U⟩ = r2) := Lib.hid (by rw [HF2.out]; unfold orE; rw [if_pos h1])
        have HR := Lib.hid (show FaultAt A w2 (errV A r2.1) r2 from .inr (.inl ⟨h1, h2, rfl⟩))
        rw [errV_pos A h1] at HR ⊢
        go_wp2_with fail
        go_ret
        rw [HF.out]
        exact ⟨⟨_, rfl, HR.out⟩, hB⟩
      ·
        have HF : Hid (fileErr ⟨path.data.toList, mdF n P V, mdF m Q U⟩ = r2) := Lib.hid (by rw [HF2.out]; unfold orE; rw [if_pos h1])
        have HR := Lib.hid (show FaultAt A w2 (.iface 74 (.pointer (some ⟨bb, 0, none⟩))) r2 from .inr (.inr ⟨h1, bb, rfl, c3, c4⟩))
        clear c3 c4
        go_wp2_with fail
        go_ret
        rw [HF.out]
        exact ⟨⟨_, rfl, HR.out⟩, hB⟩
      have HF3 : Hid (fileErr ⟨path.data.toList, mdF n P V, mdF m Q U⟩ = r3) := Lib.hid (by rw [HF2.out]; unfold orE; rw [if_neg (by simp [h1])])
      clear h1 h2 HF2 he2
      go_wp2_with fail
      refine (he3.out _ hB hz hE).mono ?_
      rintro e w3 ⟨⟨v, rfl, hF⟩, hb⟩
      have HX := Lib.hid hF
      clear hF
      go_wp2_with fail
      go_ret
      rw [HF3.out]
      exact ⟨⟨_, rfl, HX.out⟩, below_step hB hb⟩
  · have HF : Hid (fileErr ⟨path.data.toList, mdF n P V, mdF m Q U⟩ = (pathErr path.data.toList, -1)) := Lib.hid (by rw [HFE.out, if_pos h0])
    have HR : Hid (∀ W, FaultAt A W (errV A (pathErr path.data.toList)) (pathErr path.data.toList, -1)) := Lib.hid (fun W => .inr (.inl ⟨h0, rfl, rfl⟩))
    rw [errV_pos A h0] at HR hpa
    replace hpa := Lib.hid hpa
    clear h0 he1 he2 he3
    go_enter Tryz.func19, Tryz.ntmps19
    obtain ⟨z0, z1, z2⟩ := id hz
    go_wp2_with fail
    refine (hpa.out _ hE).mono ?_
    rintro e w1 ⟨rfl, hb⟩
    replace hB := below_step hB hb
    replace hE := hE.below hb
    replace hz := hz.below hb
    clear hb
    go_wp2_with fail
    go_ret
    rw [HF.out]
    exact ⟨⟨_, rfl, HR.out _⟩, hB⟩
end Go.Proofs.Pw

namespace Go.Proofs.Pw
open Go.RowKit
open Go.Lib hiding intOf
theorem mdF_ext {n : Nat} {P V Q U : Nat → ByteArray} : mdF n P V = mdF n Q U ↔ ∀ j, j < n → P j = Q j ∧ V j = U j := by
  simp [mdF, ByteArray.ext_iff]
set_option maxRecDepth 100000 in
theorem sameMods_calls (v u : Value) (l m : List Md) (w : World) (h : ModsAt w v l) (g : ModsAt w u m) :
    Calls Tryz.prog 14 #[v, u] w fun e w' => e = .returned (.bool (decide (l = m))) ∧ Below w.heap.size w w' := by
  obtain ⟨a, n, cap, P, V, rfl, rfl, hn, hcap, hc⟩ := h
  obtain ⟨a', n', cap', Q, U, rfl, rfl, hn', hcap', hc'⟩ := g
  have hg := Tryz.md_guard
  have hq := md_neq
  by_cases hnn : n = n'
  · subst hnn
    replace hc := Lib.hid hc
    replace hc' := Lib.hid hc'
    go_enter Tryz.func14, Tryz.ntmps14
    go_wp2_with fail
    go_loopw [5] (fun i wr => ∃ k : Nat, k ≤ n ∧ i = .int .i64 k ∧ Below w.heap.size w wr ∧ Hid (∀ j, j < k → P j = Q j ∧ V j = U j)) (fun i _ => n - (intOf i).toNat)
    case atStart => exact ⟨0, by omega, rfl, Below.refl _ _, Lib.hid (fun j hj => absurd hj (Nat.not_lt_zero _))⟩
    case round =>
      obtain ⟨k, hk, rfl, hb, HA⟩ := hrel
      by_cases hlt : k < n
      · obtain ⟨b1, o1, rfl, d1, d2⟩ := hc.out k hlt
        obtain ⟨b2, o2, rfl, d3, d4⟩ := hc'.out k hlt
        replace d1 := Below.cell_some hb d1
        replace d2 := Below.cell_some hb d2
        replace d3 := Below.cell_some hb d3
        replace d4 := Below.cell_some hb d4
        by_cases he : P k = Q k ∧ V k = U k
        · have HE := Lib.hid he
          have hd := decide_eq_true he
          clear he
          go_wp2_with fail
          go_region
          all_goals
            go_wp2_with fail
            go_roundw
            case rel =>
              refine ⟨k + 1, by omega, by go_num, hb.drew, Lib.hid (fun j hj => ?_)⟩
              by_cases e : j = k
              · subst e; exact HE.out
              · exact HA.out j (by omega)
            case measure => simp [intOf]; omega
        · have HF : Hid (decide (mdF n P V = mdF n Q U) = false) := Lib.hid (decide_eq_false (fun e => he (mdF_ext.1 e k hlt)))
          have hd := decide_eq_false he
          clear he
          go_wp2_with fail
          go_region
          all_goals
            go_wp2_with fail
            go_ret
            rw [HF.out]
            exact ⟨rfl, hb.drew⟩
      · obtain rfl : k = n := by omega
        have HF : Hid (decide (mdF k P V = mdF k Q U) = true) := Lib.hid (decide_eq_true (mdF_ext.2 HA.out))
        go_wp2_with fail
        go_ret
        rw [HF.out]
        exact ⟨rfl, hb⟩
  · have HF : Hid (decide (mdF n P V = mdF n' Q U) = false) := Lib.hid (decide_eq_false (fun e => hnn (by have := congrArg List.length e; rwa [mdF_length, mdF_length] at this)))
    have hnn2 : ((n : Int) == (n' : Int)) = false := beq_eq_false_iff_ne.2 (by omega)
    clear hc hc' hnn hg hq
    go_enter Tryz.func14, Tryz.ntmps14
    go_wp2_with fail
    go_ret
    rw [HF.out]
    exact ⟨rfl, Below.refl _ _⟩
def longMods (l : List Md) (most : Nat) : Bool := decide (most < l.length) || l.any fun m => decide (70 < m.1.length) || decide (60 < m.2.length)
def longI (l : List Md) (most : Nat) : Int := if longMods l most then 1 else 0
theorem longI_yes {l : List Md} {most : Nat} (h : longMods l most = true) : longI l most = 1 := by unfold longI; rw [h]; rfl
theorem longI_no {l : List Md} {most : Nat} (h : longMods l most = false) : longI l most = 0 := by unfold longI; rw [h]; rfl
set_option maxRecDepth 100000 in
theorem longMods_calls (v : Value) (l : List Md) (most : Nat) (w : World) (h : ModsAt w v l) :
    Calls Tryz.prog 7 #[v, .int .i64 (most : Nat)] w fun e w' => e = .returned (.int .i64 (longI l most)) ∧ w = w' := by
  obtain ⟨a, n, cap, P, V, rfl, rfl, hn, hcap, hc⟩ := h
  replace hc := Lib.hid hc
  by_cases hm : most < n
  · have hm' : (most : Int) < (n : Int) := by omega
    have HF : Hid (longI (mdF n P V) most = 1) := Lib.hid (longI_yes (by unfold longMods; rw [mdF_length, decide_eq_true hm]; rfl))
    clear hm
    go_enter Tryz.func7, Tryz.ntmps7
    go_wp2_with fail
    go_ret
    rw [HF.out]
    exact ⟨rfl, rfl⟩
  · have hm' : ¬ (most : Int) < (n : Int) := by omega
    have HL : Hid (longMods (mdF n P V) most = (mdF n P V).any fun m => decide (70 < m.1.length) || decide (60 < m.2.length)) := Lib.hid (by unfold longMods; rw [mdF_length, decide_eq_false hm, Bool.false_or])
    clear hm
    go_enter Tryz.func7, Tryz.ntmps7
    go_wp2_with fail
    go_loop [5] (fun i => ∃ k : Nat, k ≤ n ∧ i = .int .i64 k ∧ Hid (((mdF n P V).take k).any (fun m => decide (70 < m.1.length) || decide (60 < m.2.length)) = false)) (fun i => n - (intOf i).toNat)
    case atStart => exact ⟨0, Nat.zero_le _, rfl, Lib.hid rfl⟩
    case round =>
      obtain ⟨k, hk, rfl, HA⟩ := hrel
      by_cases hlt : k < n
      · obtain ⟨b, o, rfl, d1, d2⟩ := hc.out k hlt
        have HT := Lib.hid (mdF_take_succ n P V k hlt)
        have hbad : 70 < (P k).size ∨ 60 < (V k).size → longMods (mdF n P V) most = true := fun h => by
          rw [HL.out, List.any_eq_true]
          refine ⟨_, List.mem_of_getElem? (mdF_get n P V k hlt), ?_⟩
          rw [size_eq, size_eq] at h
          simpa using h
        replace hbad := Lib.hid hbad
        by_cases h1 : 70 < (P k).size
        · have h1' : (70 : Int) < ((P k).size : Int) := by omega
          go_wp2_with fail
          go_ret
          rw [longI_yes (hbad.out (.inl h1))]
          exact ⟨rfl, rfl⟩
        · have h1' : ¬ (70 : Int) < ((P k).size : Int) := by omega
          by_cases h2 : 60 < (V k).size
          · have h2' : (60 : Int) < ((V k).size : Int) := by omega
            go_wp2_with fail
            go_ret
            rw [longI_yes (hbad.out (.inr h2))]
            exact ⟨rfl, rfl⟩
          · have h2' : ¬ (60 : Int) < ((V k).size : Int) := by omega
            have HN : Hid (((mdF n P V).take (k + 1)).any (fun m => decide (70 < m.1.length) || decide (60 < m.2.length)) = false) := Lib.hid (by
              rw [HT.out, List.any_append, HA.out]
              rw [size_eq] at h1 h2
              simp only [List.any_cons, List.any_nil, Bool.or_false, Bool.false_or, Bool.or_eq_false_iff, decide_eq_false_iff_not]
              exact ⟨h1, h2⟩)
            go_wp2_with fail
            go_round
            case rel => exact ⟨k + 1, by omega, by go_num, HN⟩
            case measure => simp [intOf]; omega
      · obtain rfl : k = n := by omega
        have HF : Hid (longI (mdF k P V) most = 0) := Lib.hid (longI_no (by rw [HL.out, ← HA.out, mdF_take_all]))
        go_wp2_with fail
        go_ret
        rw [HF.out]
        exact ⟨rfl, rfl⟩
end Go.Proofs.Pw

namespace Go.Proofs.Pw
open Go.RowKit
open Go.Lib hiding intOf
theorem asF_nil (w : World) : (Instr.typeAssert .nilIface 33 74 true).run Tryz.prog w = .ok (.tuple #[.pointer none, .bool false]) w := by
  have z := Tryz.zeroValue74 w
  simp [Instr.typeAssert, run_underlying Tryz.underlying74, z]
theorem asF_other (v : Value) (w : World) : (Instr.typeAssert (.iface 328 v) 33 74 true).run Tryz.prog w = .ok (.tuple #[.pointer none, .bool false]) w := by
  have z := Tryz.zeroValue74 w
  simp [Instr.typeAssert, run_underlying Tryz.underlying74, z]
theorem asF_same (v : Value) (w : World) : (Instr.typeAssert (.iface 74 v) 33 74 true).run Tryz.prog w = .ok (.tuple #[v, .bool true]) w := by
  simp [Instr.typeAssert, run_underlying Tryz.underlying74]
set_option maxRecDepth 100000 in
theorem bare_calls (A : Nat → Addr) (v : Value) (r : Nat × Int) (w : World) (h : FaultAt A w v r) :
    Calls Tryz.prog 30 #[v] w fun e w' => e = .returned (errV A r.1) ∧ Below w.heap.size w w' := by
  rcases h with ⟨h1, h2, rfl⟩ | ⟨h1, h2, rfl⟩ | ⟨h1, b, rfl, c3, c4⟩
  · rw [h1, errV_zero]
    clear h1 h2
    have ha := asF_nil
    go_enter Tryz.func30, Tryz.ntmps30
    go_wp2_with fail
    go_ret
    exact ⟨rfl, Below.refl _ _⟩
  · rw [errV_pos A h1]
    clear h1 h2
    have ha := asF_other
    go_enter Tryz.func30, Tryz.ntmps30
    go_wp2_with fail
    go_ret
    exact ⟨rfl, Below.refl _ _⟩
  · rw [errV_pos A h1] at c4 ⊢
    clear h1
    have ha := asF_same
    go_enter Tryz.func30, Tryz.ntmps30
    go_wp2_with fail
    go_ret
    exact ⟨rfl, Below.refl _ _⟩
def mdVs (l : List (ByteArray × ByteArray)) : List Value := l.flatMap fun m => [.string m.1, .string m.2]
def mdTs (l : List (ByteArray × ByteArray)) : List Md := l.map fun m => (m.1.data.toList, m.2.data.toList)
theorem mdVs_length (l) : (mdVs l).length = l.length * 2 := by
  induction l with
  | nil => rfl
  | cons a r ih =>
    show (([.string a.1, .string a.2] : List Value) ++ mdVs r).length = _
    rw [List.length_append, ih]; simp; omega
theorem mdTs_length (l) : (mdTs l).length = l.length := List.length_map ..
theorem mdVs_append (a b) : mdVs (a ++ b) = mdVs a ++ mdVs b := List.flatMap_append ..
theorem mdVs_one {l} : ∀ u ∈ mdVs l, u.oneCell' = true := by
  intro u hu
  simp only [mdVs, List.mem_flatMap] at hu
  obtain ⟨m, _, hu⟩ := hu
  simp at hu
  rcases hu with rfl | rfl <;> rfl
theorem mdVs_get : ∀ {l : List (ByteArray × ByteArray)} {j : Nat} {m : ByteArray × ByteArray}, l[j]? = some m → (mdVs l)[j * 2]? = some (.string m.1) ∧ (mdVs l)[j * 2 + 1]? = some (.string m.2)
  | [], j, m, h => by simp at h
  | a :: r, 0, m, h => by
    simp at h; subst h
    exact ⟨rfl, rfl⟩
  | a :: r, j + 1, m, h => by
    have := mdVs_get (l := r) (j := j) (m := m) (by simpa using h)
    have e : mdVs (a :: r) = .string a.1 :: .string a.2 :: mdVs r := rfl
    rw [e, show (j + 1) * 2 = j * 2 + 1 + 1 by omega, List.getElem?_cons_succ, List.getElem?_cons_succ, List.getElem?_cons_succ, List.getElem?_cons_succ]
    exact this
theorem modsAt_own {w : World} {base e : Nat} {v : Value} {l : List (ByteArray × ByteArray)} (h : w.ownsRow base e 2 v l.length (mdVs l)) : ModsAt w v (mdTs l) := by
  rcases h.2 with ⟨rfl, h0⟩ | ⟨g, cap, cur, rfl, hb, hg, hn, hm, hs, ht⟩
  · have : l = [] := List.eq_nil_of_length_eq_zero h0
    subst this
    exact ModsAt.nil w
  · refine ⟨_, l.length, cap, fun j => (l.getD j (ByteArray.empty, ByteArray.empty)).1, fun j => (l.getD j (ByteArray.empty, ByteArray.empty)).2, rfl, ?_, hn, by unfold maxLen at hm; exact hm, fun j hj => ⟨g, 0, rfl, ?_⟩⟩
    · apply List.ext_getElem?
      intro i
      by_cases hi : i < l.length
      · rw [mdF_get _ _ _ i hi]
        simp [mdTs, List.getD_eq_getElem?_getD, List.getElem?_eq_getElem hi]
      · rw [List.getElem?_eq_none (by rw [mdTs_length]; omega), List.getElem?_eq_none (by rw [mdF_length]; omega)]
    · have hget := mdVs_get (l := l) (j := j) (m := l.getD j (ByteArray.empty, ByteArray.empty)) (by rw [List.getD_eq_getElem?_getD, List.getElem?_eq_getElem hj]; rfl)
      rw [← ht] at hget
      rw [List.getElem?_take, if_pos (by omega), List.getElem?_take, if_pos (by omega)] at hget
      rw [Nat.zero_add]
      exact ⟨by rw [cell_of_row w g _ cur e (0, 0) hg]; simpa using hget.1, by rw [cell_of_row w g _ cur e (0, 0) hg]; simpa using hget.2⟩
def mdL (n : Nat) (P V : Nat → ByteArray) : List (ByteArray × ByteArray) := (List.range n).map fun j => (P j, V j)
theorem mdL_length (n P V) : (mdL n P V).length = n := by simp [mdL]
theorem mdL_ts (n P V) : mdTs (mdL n P V) = mdF n P V := by simp [mdL, mdTs, mdF]
theorem Tryz.infoMod : (Tryz.prog.info? 47).map (fun i => (i.zero, i.size, i.bytes)) = some (some (.agg #[.string ⟨#[]⟩, .string ⟨#[]⟩]), 2, 32) := by kernel_rfl
theorem mods_cells {w : World} {b o n : Nat} {P V : Nat → ByteArray} (hc : ∀ j, j < n → w.cell? ⟨b, o + j * 2, none⟩ = some (.string (P j)) ∧ w.cell? ⟨b, o + j * 2 + 1, none⟩ = some (.string (V j))) :
    ∀ j u, (mdVs (mdL n P V))[j]? = some u → w.cell? ((⟨b, o, none⟩ : Addr).add j) = some u := by
  intro j u hu
  have hj : j < n * 2 := by
    have := (List.getElem?_eq_some_iff.1 hu).1
    rwa [mdVs_length, mdL_length] at this
  have hk : j / 2 < n := by omega
  have hg := mdVs_get (l := mdL n P V) (j := j / 2) (m := (P (j / 2), V (j / 2))) (by simp [mdL, hk])
  rw [show (⟨b, o, none⟩ : Addr).add j = ⟨b, o + j, none⟩ from by unfold Addr.add; split <;> simp_all]
  rcases Nat.mod_two_eq_zero_or_one j with h | h
  · rw [show j = j / 2 * 2 by omega] at hu ⊢
    rw [hg.1] at hu
    cases hu
    exact (hc _ hk).1
  · rw [show j = j / 2 * 2 + 1 by omega] at hu ⊢
    rw [hg.2] at hu
    cases hu
    rw [← Nat.add_assoc]
    exact (hc _ hk).2
set_option maxHeartbeats 1000000 in
theorem ownMods_calls (v : Value) (l : List Md) (w : World) (h : ModsAt w v l) (hl : l.length ≤ 1000000) :
    Calls Tryz.prog 11 #[v] w fun e w' => (∃ v', e = .returned v' ∧ ModsAt w' v' l ∧ ∃ L, l = mdTs L ∧ w'.ownsRow w.heap.size 47 2 v' L.length (mdVs L)) ∧ Below w.heap.size w w' := by
  obtain ⟨i0, hi, hz0, hz1, hz2⟩ := info_parts Tryz.infoMod
  obtain ⟨a, n, cap, P, V, rfl, rfl, hnc, hcap, hc⟩ := h
  rw [mdF_length] at hl
  cases a with
  | none =>
    have hn0 : n = 0 := by
      rcases Nat.eq_zero_or_pos n with h | h
      · exact h
      · obtain ⟨b, o, e, _⟩ := hc 0 h
        cases e
    subst hn0
    clear hc
    have happ := fun W ty => run_append_nothing (P := Tryz.prog) W 23 23 ty 47 i0 Tryz.underlying23 hi none 0 0 (Nat.le_refl _) (.slice none 0 cap) (Src.ofNil W Tryz.underlying23 cap)
    go_enter Tryz.func11, Tryz.ntmps11
    go_wp2_with fail
    go_ret
    exact ⟨⟨_, rfl, ModsAt.nil w, [], rfl, World.ownsRow_nil _ _ _ _⟩, Below.refl _ _⟩
  | some a =>
    have hc2 : ∃ news, news.length = n * 2 ∧ (∀ j u, news[j]? = some u → w.cell? (a.add j) = some u) ∧ news = mdVs (mdL n P V) := by
      refine ⟨_, by rw [mdVs_length, mdL_length], ?_, rfl⟩
      rcases Nat.eq_zero_or_pos n with h | h
      · subst h
        intro j u hu
        simp [mdL, mdVs] at hu
      · obtain ⟨b, o, e, _⟩ := hc 0 h
        injection e with e
        subst e
        exact mods_cells (fun j hj => by
          obtain ⟨b', o', e, h1, h2⟩ := hc j hj
          injection e with e
          injection e with e1 e2 _
          subst e1 e2
          exact ⟨h1, h2⟩)
    obtain ⟨news, hn1, hn2, hn3⟩ := hc2
    have HN := Lib.hid hn3
    clear hc hn3
    go_enter Tryz.func11, Tryz.ntmps11
    go_wp2_with (at_builtin; refine wpList_append_own _ rfl _ _ 23 rfl w.heap.size 47 i0 (.agg #[.string ⟨#[]⟩, .string ⟨#[]⟩]) 2 32 Tryz.underlying23 hi hz0 hz1 hz2 rfl (by decide) _ _ _ rfl (World.ownsRow_nil _ _ _ _) a n cap news rfl hn1 hn2 (by rw [HN.out]; exact mdVs_one) (by unfold maxLen; omega) (by omega) (Nat.le_refl _) ?_; intro v' w1 hown1 hgrow1 _)
    go_ret
    have ho : w1.ownsRow w.heap.size 47 2 v' (mdL n P V).length (mdVs (mdL n P V)) := by
      rw [mdL_length, ← HN.out]
      simpa using hown1
    refine ⟨⟨v', rfl, by rw [← mdL_ts]; exact modsAt_own ho, mdL n P V, (mdL_ts n P V).symm, ho⟩, (Below.refl _ _).grown hgrow1 (Nat.le_refl _) (fun k h => by cases h)⟩
structure Box3f (w : World) (b : Nat) (v0 v1 v2 : Value) : Prop where
  c0 : w.cell? ⟨b, 0, none⟩ = some v0
  c1 : w.cell? ⟨b, 1, none⟩ = some v1
  c2 : w.cell? ⟨b, 2, none⟩ = some v2
  fz : ∀ i, w.frozen? ⟨b, i, none⟩ = false
theorem Box3f.below {w w' : World} {b : Nat} {v0 v1 v2 : Value} (h : Box3f w b v0 v1 v2) (hb : Below w.heap.size w w') : Box3f w' b v0 v1 v2 :=
  ⟨Below.cell_some hb h.c0, Below.cell_some hb h.c1, Below.cell_some hb h.c2, fun i => (hb.frozen (p := ⟨b, i, none⟩) (show b < w.heap.size from lt_of_cell h.c0)).trans (h.fz i)⟩
theorem box3f_alloc (w : World) (v0 v1 v2 : Value) (t : TypeId) : Box3f (w.alloc (.cells #[v0, v1, v2] t)) w.heap.size v0 v1 v2 := ⟨by simp, by simp, by simp, fun i => by simp⟩
theorem set_same {w : World} {b k : Nat} {u : Value} (v : Value) (h : w.cell? ⟨b, k, none⟩ = some u) : (w.setCell ⟨b, k, none⟩ v).cell? ⟨b, k, none⟩ = some v := World.cell?_setCell_same _ _ _ h
theorem set_off {w : World} {b k j : Nat} (v : Value) (h : j ≠ k) : (w.setCell ⟨b, k, none⟩ v).cell? ⟨b, j, none⟩ = w.cell? ⟨b, j, none⟩ := World.cell?_setCell_other _ _ _ _ (by intro e; injection e with _ e _; exact h e.symm)
theorem set_blk {w : World} {b c k j : Nat} (v : Value) (h : c ≠ b) : (w.setCell ⟨b, k, none⟩ v).cell? ⟨c, j, none⟩ = w.cell? ⟨c, j, none⟩ := World.cell?_setCell_other _ _ _ _ (by intro e; injection e with e _ _; exact h e.symm)
theorem Box3f.set1 {w : World} {b : Nat} {v0 v1 v2 : Value} (h : Box3f w b v0 v1 v2) (v : Value) : Box3f (w.setCell ⟨b, 1, none⟩ v) b v0 v v2 :=
  ⟨by rw [set_off v (by decide)]; exact h.c0, set_same v h.c1, by rw [set_off v (by decide)]; exact h.c2, fun i => by simp [h.fz i]⟩
theorem Box3f.set2 {w : World} {b : Nat} {v0 v1 v2 : Value} (h : Box3f w b v0 v1 v2) (v : Value) : Box3f (w.setCell ⟨b, 2, none⟩ v) b v0 v1 v :=
  ⟨by rw [set_off v (by decide)]; exact h.c0, by rw [set_off v (by decide)]; exact h.c1, set_same v h.c2, fun i => by simp [h.fz i]⟩
theorem Box3f.other {w : World} {b c k : Nat} {v0 v1 v2 : Value} (h : Box3f w b v0 v1 v2) (hc : b ≠ c) (v : Value) : Box3f (w.setCell ⟨c, k, none⟩ v) b v0 v1 v2 :=
  ⟨by rw [set_blk v hc]; exact h.c0, by rw [set_blk v hc]; exact h.c1, by rw [set_blk v hc]; exact h.c2, fun i => by simp [h.fz i]⟩
theorem ModsAt.other {w : World} {v : Value} {l : List Md} {c k : Nat} (h : ModsAt w v l) (hc : ∀ q n m, v = .slice (some q) n m → q.block ≠ c) (u : Value) : ModsAt (w.setCell ⟨c, k, none⟩ u) v l := by
  obtain ⟨a, n, cap, P, V, rfl, h2, h3, h4, h5⟩ := h
  refine ⟨a, n, cap, P, V, rfl, h2, h3, h4, fun j hj => ?_⟩
  obtain ⟨b, o, rfl, e1, e2⟩ := h5 j hj
  have hb : b ≠ c := hc _ _ _ rfl
  exact ⟨b, o, rfl, by rw [set_blk u hb]; exact e1, by rw [set_blk u hb]; exact e2⟩
set_option maxHeartbeats 1000000 in
set_option maxRecDepth 100000 in
theorem sameFile_calls (p q : ByteArray) (r1 x1 r2 x2 : Value) (R1 X1 R2 X2 : List Md) (w : World) (hr1 : ModsAt w r1 R1) (hx1 : ModsAt w x1 X1) (hr2 : ModsAt w r2 R2) (hx2 : ModsAt w x2 X2) :
    Calls Tryz.prog 21 #[.agg #[.string p, r1, x1], .agg #[.string q, r2, x2]] w fun e w' => e = .returned (.bool (decide (p = q) && (decide (R1 = R2) && decide (X1 = X2)))) ∧ Below w.heap.size w w' := by
  have hb1 := below_alloc w (.cells #[.string p, r1, x1] 25)
  have hb2 := below_alloc (w.alloc (.cells #[.string p, r1, x1] 25)) (.cells #[.string q, r2, x2] 25)
  have hB := below_step hb1 hb2
  have hz := (box3_alloc w (.string p) r1 x1 25).below hb2
  have hy := box3_alloc (w.alloc (.cells #[.string p, r1, x1] 25)) (.string q) r2 x2 25
  simp only [World.size_alloc] at hy
  have hs1 := fun W hb => sameMods_calls r1 r2 R1 R2 W (hr1.below hb) (hr2.below hb)
  have hs2 := fun W hb => sameMods_calls x1 x2 X1 X2 W (hx1.below hb) (hx2.below hb)
  obtain ⟨a1, n1, c1, _, _, rfl, _⟩ := id hr1
  obtain ⟨a2, n2, c2, _, _, rfl, _⟩ := id hr2
  obtain ⟨a3, n3, c3, _, _, rfl, _⟩ := id hx1
  obtain ⟨a4, n4, c4, _, _, rfl, _⟩ := id hx2
  generalize decide (R1 = R2) = Y1 at hs1 ⊢
  generalize decide (X1 = X2) = Y2 at hs2 ⊢
  replace hs1 := Lib.hid hs1
  replace hs2 := Lib.hid hs2
  clear hb1 hb2 hr1 hr2 hx1 hx2
  obtain ⟨z0, z1, z2⟩ := id hz
  obtain ⟨y0, y1, y2⟩ := id hy
  by_cases hpq : p = q
  · subst hpq
    rw [decide_eq_true rfl]
    cases Y1 with
    | false =>
      go_enter Tryz.func21, Tryz.ntmps21
      go_wp2_with fail
      refine (hs1.out _ hB).mono ?_
      rintro e w1 ⟨rfl, hb⟩
      replace hB := below_step hB hb
      clear hb
      go_wp2_with fail
      go_ret
      exact ⟨rfl, hB⟩
    | true =>
      go_enter Tryz.func21, Tryz.ntmps21
      go_wp2_with fail
      refine (hs1.out _ hB).mono ?_
      rintro e w1 ⟨rfl, hb⟩
      replace hB := below_step hB hb
      replace z2 := Below.cell_some hb z2
      replace y2 := Below.cell_some hb y2
      clear hb
      go_wp2_with fail
      refine (hs2.out _ hB).mono ?_
      rintro e w1 ⟨rfl, hb⟩
      replace hB := below_step hB hb
      clear hb
      go_wp2_with fail
      go_ret
      exact ⟨rfl, hB⟩
  · rw [decide_eq_false hpq]
    have e1 : (p.toList == q.toList) = false := by rw [toList_data, toList_data]; exact beq_eq_false_iff_ne.2 (fun e => hpq (bytes_eq.1 e))
    have e2 : p.toList ≠ q.toList := by rw [toList_data, toList_data]; exact fun e => hpq (bytes_eq.1 e)
    go_enter Tryz.func21, Tryz.ntmps21
    go_wp2_with fail
    go_ret
    exact ⟨rfl, hB⟩
theorem own_ge {w : World} {base e k n : Nat} {v : Value} {xs : List Value} (h : w.ownsRow base e k v n xs) : ∀ q n m, v = .slice (some q) n m → base ≤ q.block := by
  rintro q n m rfl
  exact (h.lt q.block rfl).1
set_option maxHeartbeats 1000000 in
set_option maxRecDepth 100000 in
theorem ownFile_calls (p : ByteArray) (rv xv : Value) (R X : List Md) (w : World) (hr : ModsAt w rv R) (hx : ModsAt w xv X) (hR : R.length ≤ 1000000) (hX : X.length ≤ 1000000) :
    Calls Tryz.prog 13 #[.agg #[.string p, rv, xv]] w fun e w' => (∃ v1 v2, e = .returned (.agg #[.string p, v1, v2]) ∧ ModsAt w' v1 R ∧ ModsAt w' v2 X) ∧ Below w.heap.size w w' := by
  have hb1 := below_alloc w (.cells #[.string p, rv, xv] 25)
  have hb2 := below_alloc (w.alloc (.cells #[.string p, rv, xv] 25)) (.cells #[.string ⟨#[]⟩, .slice none 0 0, .slice none 0 0] 25)
  have hB := below_step hb1 hb2
  have hz := (box3f_alloc w (.string p) rv xv 25).below hb2
  have hy := box3f_alloc (w.alloc (.cells #[.string p, rv, xv] 25)) (.string ⟨#[]⟩) (.slice none 0 0) (.slice none 0 0) 25
  simp only [World.size_alloc] at hy
  have ho1 := fun W hb => ownMods_calls rv R W (hr.below hb) hR
  have ho2 := fun W (h : ModsAt W xv X) => ownMods_calls xv X W h hX
  obtain ⟨a1, n1, c1, _, _, rfl, _⟩ := id hr
  obtain ⟨a3, n3, c3, _, _, rfl, _⟩ := id hx
  replace ho1 := Lib.hid ho1
  replace ho2 := Lib.hid ho2
  clear hb1 hb2 hr
  obtain ⟨z0, z1, z2, zf⟩ := id hz
  go_enter Tryz.func13, Tryz.ntmps13
  go_wp2_with fail
  refine (ho1.out _ hB).mono ?_
  rintro e w1 ⟨⟨v1, rfl, hm1, L1, _, hw1⟩, hb⟩
  obtain ⟨a5, n5, c5, _, _, rfl, _⟩ := id hm1
  replace hB := below_step hB hb
  replace hz := hz.below hb
  replace hy := hy.below hb
  have hs1 := hz.set1 (.slice a5 n5 c5)
  have hym := hy.other (c := w.heap.size) (k := 1) (by omega) (.slice a5 n5 c5)
  have hBs := hB.setCell (p := ⟨w.heap.size, 1, none⟩) (Nat.le_refl _) (.slice a5 n5 c5)
  have hge1 : ∀ q n m, Value.slice a5 n5 c5 = .slice (some q) n m → q.block ≠ w.heap.size ∧ q.block ≠ w.heap.size + 1 := fun q n m e => by
    have := own_ge hw1 q n m e
    simp only [World.size_alloc] at this
    omega
  have hm1s := hm1.other (c := w.heap.size) (k := 1) (fun q n m e => (hge1 q n m e).1) (.slice a5 n5 c5)
  have hxs := hx.below hBs
  obtain ⟨z0, z1, z2, zf⟩ := id hz
  have hw1z' := hb.size
  have hsz : (w1.setCell ⟨w.heap.size, 1, none⟩ (.slice a5 n5 c5)).heap.size = w1.heap.size := by simp
  go_wp2_with fail
  generalize w1.setCell ⟨w.heap.size, 1, none⟩ (.slice a5 n5 c5) = w2 at hs1 hym hBs hm1s hxs hsz ⊢
  clear z0 z1 z2 zf hz hy hm1 hb hB
  obtain ⟨z0, z1, z2, zf⟩ := id hs1
  go_wp2_with fail
  refine (ho2.out _ hxs).mono ?_
  rintro e w3 ⟨⟨v2, rfl, hm2, L2, _, hw2⟩, hb⟩
  obtain ⟨a6, n6, c6, _, _, rfl, _⟩ := id hm2
  replace hBs := below_step hBs hb
  replace hs1 := hs1.below hb
  replace hym := hym.below hb
  replace hm1s := hm1s.below hb
  have hs2 := hs1.set2 (.slice a6 n6 c6)
  have hym2 := hym.other (c := w.heap.size) (k := 2) (by omega) (.slice a6 n6 c6)
  have hB3 := hBs.setCell (p := ⟨w.heap.size, 2, none⟩) (Nat.le_refl _) (.slice a6 n6 c6)
  have hm1t := hm1s.other (c := w.heap.size) (k := 2) (fun q n m e => (hge1 q n m e).1) (.slice a6 n6 c6)
  have hge2 : ∀ q n m, Value.slice a6 n6 c6 = .slice (some q) n m → q.block ≠ w.heap.size ∧ q.block ≠ w.heap.size + 1 := fun q n m e => by
    have h1 := own_ge hw2 q n m e
    have h2 := lt_of_cell hym.c0
    simp only [World.size_alloc] at hw1z'
    omega
  have hm2t := hm2.other (c := w.heap.size) (k := 2) (fun q n m e => (hge2 q n m e).1) (.slice a6 n6 c6)
  obtain ⟨z0, z1, z2, zf⟩ := id hs1
  obtain ⟨y0, y1, y2, yf⟩ := id hym
  have hfin : ∀ u0 u1 u2 : Value, ModsAt ((((w3.setCell ⟨w.heap.size, 2, none⟩ (.slice a6 n6 c6)).setCell ⟨w.heap.size + 1, 0, none⟩ u0).setCell ⟨w.heap.size + 1, 1, none⟩ u1).setCell ⟨w.heap.size + 1, 2, none⟩ u2) (.slice a5 n5 c5) R ∧ ModsAt ((((w3.setCell ⟨w.heap.size, 2, none⟩ (.slice a6 n6 c6)).setCell ⟨w.heap.size + 1, 0, none⟩ u0).setCell ⟨w.heap.size + 1, 1, none⟩ u1).setCell ⟨w.heap.size + 1, 2, none⟩ u2) (.slice a6 n6 c6) X ∧ Below w.heap.size w ((((w3.setCell ⟨w.heap.size, 2, none⟩ (.slice a6 n6 c6)).setCell ⟨w.heap.size + 1, 0, none⟩ u0).setCell ⟨w.heap.size + 1, 1, none⟩ u1).setCell ⟨w.heap.size + 1, 2, none⟩ u2) := fun u0 u1 u2 =>
    ⟨((hm1t.other (fun q n m e => (hge1 q n m e).2) u0).other (fun q n m e => (hge1 q n m e).2) u1).other (fun q n m e => (hge1 q n m e).2) u2,
     ((hm2t.other (fun q n m e => (hge2 q n m e).2) u0).other (fun q n m e => (hge2 q n m e).2) u1).other (fun q n m e => (hge2 q n m e).2) u2,
     ((hB3.setCell (p := ⟨w.heap.size + 1, 0, none⟩) (Nat.le_succ _) u0).setCell (p := ⟨w.heap.size + 1, 1, none⟩) (Nat.le_succ _) u1).setCell (p := ⟨w.heap.size + 1, 2, none⟩) (Nat.le_succ _) u2⟩
  replace hfin := Lib.hid hfin
  clear hm1t hm2t hge1 hge2 hym2 hs2 hB3 hxs hw2 hm2 hym hs1 hw1
  go_wp2_with fail
  refine bodyPost_ret (v := .agg #[.string p, .slice a5 n5 c5, .slice a6 n6 c6]) (by simp [results, Tryz.results13, go_sem, *]) rfl ?_
  exact ⟨⟨_, _, rfl, (hfin.out _ _ _).1, (hfin.out _ _ _).2.1⟩, (hfin.out _ _ _).2.2⟩
end Go.Proofs.Pw
