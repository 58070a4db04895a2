/- file.Check. Conditions: texts of at most 1000000 bytes, lists of at most 1000000. -/
import Derived.Test.YtfkimddlgopgbaaGreatDoorFile
namespace Go.Proofs.Pw
open Go.RowKit
open Go.Lib hiding intOf

/-- which sentinels package file asks for -/
def FileKs (ks : List Nat) : Prop := 3 ∈ ks ∧ 4 ∈ ks ∧ 5 ∈ ks ∧ 7 ∈ ks ∧ 8 ∈ ks ∧ 9 ∈ ks
/-- a list of modules whose texts are short -/
def Short (l : List Md) : Prop := l.length ≤ 1000000 ∧ ∀ m ∈ l, m.1.length ≤ 1000000 ∧ m.2.length ≤ 1000000
theorem short_F {n : Nat} {P V : Nat → ByteArray} (h : Short (mdF n P V)) : n ≤ 1000000 ∧ ∀ j, j < n → (P j).size ≤ 1000000 ∧ (V j).size ≤ 1000000 := by
  refine ⟨by have := h.1; rwa [mdF_length] at this, fun j hj => ?_⟩
  have := h.2 _ (List.mem_of_getElem? (mdF_get n P V j hj))
  rw [size_eq, size_eq]
  exact this
theorem Tryz.enters_fck1 : ∀ args w, (callFunc 40 args).run Tryz.prog w = .ok (.enter 40 args) w := Go.Proofs.enters_of Tryz.func40 (by kernel_rfl) rfl
theorem Tryz.enters_fck2 : ∀ args w, (callFunc 42 args).run Tryz.prog w = .ok (.enter 42 args) w := Go.Proofs.enters_of Tryz.func42 (by kernel_rfl) rfl
theorem Tryz.enters_fck3 : ∀ args w, (callFunc 44 args).run Tryz.prog w = .ok (.enter 44 args) w := Go.Proofs.enters_of Tryz.func44 (by kernel_rfl) rfl


set_option maxHeartbeats 2000000 in
set_option maxRecDepth 100000 in
theorem fileCheck_calls (ks : List Nat) (A : Nat → Addr) (hks : FileKs ks) (path : ByteArray) (rv xv : Value) (reqs excl : List Md) (w : World) (hE : EnvP ks A w) (hr : ModsAt w rv reqs) (hx : ModsAt w xv excl) (hp : path.size ≤ 1000000) (hsr : Short reqs) (hsx : Short excl) :
    Calls Tryz.prog 11 #[.agg #[.string path, rv, xv]] w fun e w' => (∃ v, e = .returned v ∧ FaultAt A w' v (fileErr ⟨path.data.toList, reqs, excl⟩)) ∧ Below w.heap.size w w' := by
  obtain ⟨a, n, cap, P, V, rfl, rfl, hnc, hcap, hc⟩ := hr
  obtain ⟨a2, m, cap2, Q, U, rfl, rfl, hmc, hcap2, hc2⟩ := hx
  obtain ⟨hn, hPV⟩ := short_F hsr
  obtain ⟨hm, hQU⟩ := short_F hsx
  obtain ⟨k3, k4, k5, k7, k8, k9⟩ := hks
  have hB := below_alloc w (.cells #[.string path, .slice a n cap, .slice a2 m cap2] 24)
  have hz := box3_alloc w (.string path) (.slice a n cap) (.slice a2 m cap2) 24
  have hpa := fun W hW => path_calls ks A k4 path W hW (by omega)
  have hfe : fileErr ⟨path.data.toList, mdF n P V, mdF m Q U⟩ = if pathErr path.data.toList ≠ 0 then (pathErr path.data.toList, -1) else if 20 < n ∨ 20 < m then (7, -1) else orE (firstE (reqE path.data.toList (mdF n P V)) n) (orE (firstE (excE (mdF m Q U)) m) (firstE (claE (mdF n P V) (mdF m Q U)) n)) := by
    unfold fileErr
    simp only [mdF_length]
  have ht1 : ∀ W, Below w.heap.size w W → Box3 W w.heap.size (.string path) (.slice a n cap) (.slice a2 m cap2) → EnvP ks A W → ∀ i : Nat, i < n → Calls Tryz.prog 40 (#[.int .i64 i] ++ #[.pointer (some ⟨w.heap.size, 0, none⟩)]) W fun e' w'' => e' = .returned (errV A (reqE path.data.toList (mdF n P V) i)) ∧ Below W.heap.size W w'' :=
    fun W hb hz hE i hi => fileCheck1_calls ks A k4 k3 k8 w.heap.size path a n cap P V (.slice a2 m cap2) i W hE hi hz (fun j hj => let ⟨b, o, e, h1, h2⟩ := hc j hj; ⟨b, o, e, Below.cell_some hb h1, Below.cell_some hb h2⟩) hn hPV
  have ht2 : ∀ W, Below w.heap.size w W → Box3 W w.heap.size (.string path) (.slice a n cap) (.slice a2 m cap2) → EnvP ks A W → ∀ i : Nat, i < m → Calls Tryz.prog 42 (#[.int .i64 i] ++ #[.pointer (some ⟨w.heap.size, 0, none⟩)]) W fun e' w'' => e' = .returned (errV A (excE (mdF m Q U) i)) ∧ Below W.heap.size W w'' :=
    fun W hb hz hE i hi => fileCheck2_calls ks A k4 k8 w.heap.size (.string path) (.slice a n cap) a2 m cap2 Q U i W hE hi hz (fun j hj => let ⟨b, o, e, h1, h2⟩ := hc2 j hj; ⟨b, o, e, Below.cell_some hb h1, Below.cell_some hb h2⟩) hm hQU
  have ht3 : ∀ W, Below w.heap.size w W → Box3 W w.heap.size (.string path) (.slice a n cap) (.slice a2 m cap2) → EnvP ks A W → ∀ i : Nat, i < n → Calls Tryz.prog 44 (#[.int .i64 i] ++ #[.pointer (some ⟨w.heap.size, 0, none⟩)]) W fun e' w'' => e' = .returned (errV A (claE (mdF n P V) (mdF m Q U) i)) ∧ Below W.heap.size W w'' :=
    fun W hb hz hE i hi => fileCheck3_calls ks A k9 w.heap.size (.string path) a n cap P V a2 m cap2 Q U i W hE hi hz (fun j hj => let ⟨b, o, e, h1, h2⟩ := hc j hj; ⟨b, o, e, Below.cell_some hb h1, Below.cell_some hb h2⟩) hn (fun j hj => let ⟨b, o, e, h1, h2⟩ := hc2 j hj; ⟨b, o, e, Below.cell_some hb h1, Below.cell_some hb h2⟩) hm
  have he1 := fun W (hb : Below w.heap.size w W) (hz : Box3 W w.heap.size (.string path) (.slice a n cap) (.slice a2 m cap2)) (hE : EnvP ks A W) => each_calls 40 #[.pointer (some ⟨w.heap.size, 0, none⟩)] Tryz.enters_fck1 A (reqE path.data.toList (mdF n P V)) a n cap W.heap.size W hn (Nat.le_refl _) (fun W' hb' i hi => ht1 W' (below_step hb hb') (hz.below hb') (hE.below hb') i hi)
  have he2 := fun W (hb : Below w.heap.size w W) (hz : Box3 W w.heap.size (.string path) (.slice a n cap) (.slice a2 m cap2)) (hE : EnvP ks A W) => each_calls 42 #[.pointer (some ⟨w.heap.size, 0, none⟩)] Tryz.enters_fck2 A (excE (mdF m Q U)) a2 m cap2 W.heap.size W hm (Nat.le_refl _) (fun W' hb' i hi => ht2 W' (below_step hb hb') (hz.below hb') (hE.below hb') i hi)
  have he3 := fun W (hb : Below w.heap.size w W) (hz : Box3 W w.heap.size (.string path) (.slice a n cap) (.slice a2 m cap2)) (hE : EnvP ks A W) => each_calls 44 #[.pointer (some ⟨w.heap.size, 0, none⟩)] Tryz.enters_fck3 A (claE (mdF n P V) (mdF m Q U)) a n cap W.heap.size W hn (Nat.le_refl _) (fun W' hb' i hi => ht3 W' (below_step hb hb') (hz.below hb') (hE.below hb') i hi)
  generalize firstE (reqE path.data.toList (mdF n P V)) n = r1 at he1 hfe
  generalize firstE (excE (mdF m Q U)) m = r2 at he2 hfe
  generalize firstE (claE (mdF n P V) (mdF m Q U)) n = r3 at he3 hfe
  replace hE := hE.below hB
  have HFE := Lib.hid hfe
  replace he1 := Lib.hid he1
  replace he2 := Lib.hid he2
  replace he3 := Lib.hid he3
  clear ht1 ht2 ht3 hfe hc hc2 hPV hQU hsr hsx
  by_cases h0 : pathErr path.data.toList = 0
  · rw [h0, errV_zero] at hpa
    have H0 := Lib.hid h0
    by_cases hbig : 20 < n ∨ 20 < m
    · have HF : Hid (fileErr ⟨path.data.toList, mdF n P V, mdF m Q U⟩ = (7, -1)) := Lib.hid (by rw [HFE.out, if_neg (by simp [h0]), if_pos hbig])
      have HR : Hid (∀ W, FaultAt A W (errV A 7) (7, -1)) := Lib.hid (fun W => .inr (.inl ⟨by decide, rfl, rfl⟩))
      rw [errV_pos A (c := 7) (by decide)] at HR
      replace hpa := Lib.hid hpa
      clear h0 he1 he2 he3
      by_cases hn20 : 20 < n
      · have hn20' : (20 : Int) < (n : Int) := by omega
        clear hbig
        go_enter Tryz.func11, Tryz.ntmps11
        obtain ⟨z0, z1, z2⟩ := id hz
        go_wp2_with fail
        refine (hpa.out _ hE).mono ?_
        rintro e w1 ⟨rfl, hb⟩
        replace hB := below_step hB hb
        replace hE := hE.below hb
        replace hz := hz.below hb
        clear hb
        obtain ⟨z0, z1, z2⟩ := id hz
        have g7 := hE.errs.var 7 k7
        simp only [errG] at g7
        go_wp2_with fail
        go_ret
        rw [HF.out]
        exact ⟨⟨_, rfl, HR.out _⟩, hB⟩
      · have hn20' : ¬ (20 : Int) < (n : Int) := by omega
        have hm20' : (20 : Int) < (m : Int) := by omega
        clear hbig
        go_enter Tryz.func11, Tryz.ntmps11
        obtain ⟨z0, z1, z2⟩ := id hz
        go_wp2_with fail
        refine (hpa.out _ hE).mono ?_
        rintro e w1 ⟨rfl, hb⟩
        replace hB := below_step hB hb
        replace hE := hE.below hb
        replace hz := hz.below hb
        clear hb
        obtain ⟨z0, z1, z2⟩ := id hz
        have g7 := hE.errs.var 7 k7
        simp only [errG] at g7
        go_wp2_with fail
        go_ret
        rw [HF.out]
        exact ⟨⟨_, rfl, HR.out _⟩, hB⟩
    · have hn20' : ¬ (20 : Int) < (n : Int) := by omega
      have hm20' : ¬ (20 : Int) < (m : Int) := by omega
      have HF1 : Hid (fileErr ⟨path.data.toList, mdF n P V, mdF m Q U⟩ = orE r1 (orE r2 r3)) := Lib.hid (by rw [HFE.out, if_neg (by simp [h0]), if_neg hbig])
      replace hpa := Lib.hid hpa
      clear h0 hbig HFE
      go_enter Tryz.func11, Tryz.ntmps11
      obtain ⟨z0, z1, z2⟩ := id hz
      go_wp2_with fail
      refine (hpa.out _ hE).mono ?_
      rintro e w1 ⟨rfl, hb⟩
      replace hB := below_step hB hb
      replace hE := hE.below hb
      replace hz := hz.below hb
      clear hb
      obtain ⟨z0, z1, z2⟩ := id hz
      go_wp2_with fail
      refine (he1.out _ hB hz hE).mono ?_
      rintro e w2 ⟨⟨v, rfl, hF⟩, hb⟩
      replace hB := below_step hB hb
      replace hE := hE.below hb
      replace hz := hz.below hb
      clear hb
      obtain ⟨z0, z1, z2⟩ := id hz
      rcases hF with ⟨h1, h2, rfl⟩ | ⟨h1, h2, rfl⟩ | ⟨h1, bb, rfl, c3, c4⟩
      rotate_left
      ·
        have HF : Hid (fileErr ⟨path.data.toList, mdF n P V, mdF m Q U⟩ = r1) := Lib.hid (by rw [HF1.out]; unfold orE; rw [if_pos h1])
        have HR := Lib.hid (show FaultAt A w2 (errV A r1.1) r1 from .inr (.inl ⟨h1, h2, rfl⟩))
        rw [errV_pos A h1] at HR ⊢
        go_wp2_with fail
        go_ret
        rw [HF.out]
        exact ⟨⟨_, rfl, HR.out⟩, hB⟩
      ·
        have HF : Hid (fileErr ⟨path.data.toList, mdF n P V, mdF m Q U⟩ = r1) := Lib.hid (by rw [HF1.out]; unfold orE; rw [if_pos h1])
        have HR := Lib.hid (show FaultAt A w2 (.iface 89 (.pointer (some ⟨bb, 0, none⟩))) r1 from .inr (.inr ⟨h1, bb, rfl, c3, c4⟩))
        clear c3 c4
        go_wp2_with fail
        go_ret
        rw [HF.out]
        exact ⟨⟨_, rfl, HR.out⟩, hB⟩
      have HF2 : Hid (fileErr ⟨path.data.toList, mdF n P V, mdF m Q U⟩ = orE r2 r3) := Lib.hid (by rw [HF1.out]; unfold orE; rw [if_neg (by simp [h1])])
      clear h1 h2 HF1 he1
      go_wp2_with fail
      refine (he2.out _ hB hz hE).mono ?_
      rintro e w2 ⟨⟨v, rfl, hF⟩, hb⟩
      replace hB := below_step hB hb
      replace hE := hE.below hb
      replace hz := hz.below hb
      clear hb
      obtain ⟨z0, z1, z2⟩ := id hz
      rcases hF with ⟨h1, h2, rfl⟩ | ⟨h1, h2, rfl⟩ | ⟨h1, bb, rfl, c3, c4⟩
      rotate_left
      ·
        have HF : Hid (fileErr ⟨path.data.toList, mdF n P V, mdF m Q U⟩ = r2) := Lib.hid (by rw [HF2.out]; unfold orE; rw [if_pos h1])
        have HR := Lib.hid (show FaultAt A w2 (errV A r2.1) r2 from .inr (.inl ⟨h1, h2, rfl⟩))
        rw [errV_pos A h1] at HR ⊢
        go_wp2_with fail
        go_ret
        rw [HF.out]
        exact ⟨⟨_, rfl, HR.out⟩, hB⟩
      ·
        have HF : Hid (fileErr ⟨path.data.toList, mdF n P V, mdF m Q U⟩ = r2) := Lib.hid (by rw [HF2.out]; unfold orE; rw [if_pos h1])
        have HR := Lib.hid (show FaultAt A w2 (.iface 89 (.pointer (some ⟨bb, 0, none⟩))) r2 from .inr (.inr ⟨h1, bb, rfl, c3, c4⟩))
        clear c3 c4
        go_wp2_with fail
        go_ret
        rw [HF.out]
        exact ⟨⟨_, rfl, HR.out⟩, hB⟩
      have HF3 : Hid (fileErr ⟨path.data.toList, mdF n P V, mdF m Q U⟩ = r3) := Lib.hid (by rw [HF2.out]; unfold orE; rw [if_neg (by simp [h1])])
      clear h1 h2 HF2 he2
      go_wp2_with fail
      refine (he3.out _ hB hz hE).mono ?_
      rintro e w3 ⟨⟨v, rfl, hF⟩, hb⟩
      have HX := Lib.hid hF
      clear hF
      go_wp2_with fail
      go_ret
      rw [HF3.out]
      exact ⟨⟨_, rfl, HX.out⟩, below_step hB hb⟩
  · have HF : Hid (fileErr ⟨path.data.toList, mdF n P V, mdF m Q U⟩ = (pathErr path.data.toList, -1)) := Lib.hid (by rw [HFE.out, if_pos h0])
    have HR : Hid (∀ W, FaultAt A W (errV A (pathErr path.data.toList)) (pathErr path.data.toList, -1)) := Lib.hid (fun W => .inr (.inl ⟨h0, rfl, rfl⟩))
    rw [errV_pos A h0] at HR hpa
    replace hpa := Lib.hid hpa
    clear h0 he1 he2 he3
    go_enter Tryz.func11, Tryz.ntmps11
    obtain ⟨z0, z1, z2⟩ := id hz
    go_wp2_with fail
    refine (hpa.out _ hE).mono ?_
    rintro e w1 ⟨rfl, hb⟩
    replace hB := below_step hB hb
    replace hE := hE.below hb
    replace hz := hz.below hb
    clear hb
    go_wp2_with fail
    go_ret
    rw [HF.out]
    exact ⟨⟨_, rfl, HR.out _⟩, hB⟩
end Go.Proofs.Pw
