/- Ge: walks and plain laws, joined: File. Conditions: at each theorem. -/
import Derived.Test.YtmnojbbcaboagaaGreatDoorGeb
import Derived.Test.YtmnojbbcaboagaaGreatDoorGeg
import Derived.Shelf.Abstract

namespace Go.Proofs.Pw
open Go.RowKit
open Go.Lib hiding intOf
def FaultAt (A : Nat → Addr) (w : World) (v : Value) (r : Nat × Int) : Prop :=
  (r.1 = 0 ∧ r.2 = -1 ∧ v = .nilIface) ∨ (r.1 ≠ 0 ∧ r.2 = -1 ∧ v = errV A r.1) ∨
  (r.1 ≠ 0 ∧ ∃ b : Nat, v = .iface 74 (.pointer (some ⟨b, 0, none⟩)) ∧ w.cell? ⟨b, 0, none⟩ = some (.int .i64 r.2) ∧ w.cell? ⟨b, 1, none⟩ = some (errV A r.1))
theorem FaultAt.below {A : Nat → Addr} {w w' : World} {v : Value} {r : Nat × Int} (h : FaultAt A w v r) (hb : Below w.heap.size w w') : FaultAt A w' v r := by
  rcases h with h | h | ⟨h, b, h1, h2, h3⟩
  · exact .inl h
  · exact .inr (.inl h)
  · exact .inr (.inr ⟨h, b, h1, Below.cell_some hb h2, Below.cell_some hb h3⟩)
structure Box3 (w : World) (b : Nat) (v0 v1 v2 : Value) : Prop where
  c0 : w.cell? ⟨b, 0, none⟩ = some v0
  c1 : w.cell? ⟨b, 1, none⟩ = some v1
  c2 : w.cell? ⟨b, 2, none⟩ = some v2
theorem Box3.below {w w' : World} {b : Nat} {v0 v1 v2 : Value} (h : Box3 w b v0 v1 v2) (hb : Below w.heap.size w w') : Box3 w' b v0 v1 v2 :=
  ⟨Below.cell_some hb h.c0, Below.cell_some hb h.c1, Below.cell_some hb h.c2⟩
theorem box3_alloc (w : World) (v0 v1 v2 : Value) (t : TypeId) : Box3 (w.alloc (.cells #[v0, v1, v2] t)) w.heap.size v0 v1 v2 := ⟨by simp, by simp, by simp⟩
def EachT (g : Nat) (lb : Array Value) (A : Nat → Addr) (e : Nat → Nat) (n base : Nat) (w : World) : Prop :=
  ∀ W, Below base w W → ∀ i : Nat, i < n → Calls Tryz.prog g (#[.int .i64 i] ++ lb) W fun e' w'' => e' = .returned (errV A (e i)) ∧ Below W.heap.size W w''
set_option maxHeartbeats 400000 in
theorem each_calls (g : Nat) (lb : Array Value) (eg : ∀ args w, (callFunc g args).run Tryz.prog w = .ok (.enter g args) w) (A : Nat → Addr) (e : Nat → Nat) (a : Option Addr) (n cap base : Nat) (w : World) (hn : n ≤ 1000000) (hbase : base ≤ w.heap.size) (hT : EachT g lb A e n base w) :
    Calls Tryz.prog 42 #[.slice a n cap, .func (.func g) #[] lb] w fun e' w' => (∃ v, e' = .returned v ∧ FaultAt A w' v (firstE e n)) ∧ Below w.heap.size w w' := by
  replace hT := Lib.hid hT
  go_enter Tryz.func42, Tryz.ntmps42
  go_wp2_with fail
  go_loopw [9] (fun i wr => ∃ k : Nat, k ≤ n ∧ i = .int .i64 k ∧ Below w.heap.size w wr ∧ Hid (∀ j, j < k → e j = 0)) (fun i _ => n - (intOf i).toNat)
  case atStart => exact ⟨0, Nat.zero_le _, rfl, Below.refl _ _, Lib.hid (fun j hj => absurd hj (Nat.not_lt_zero _))⟩
  case round =>
    obtain ⟨k, hk, rfl, hB, HA⟩ := hrel
    by_cases hlt : k < n
    · have hcall := hT.out wr (hB.mono hbase) k hlt
      by_cases h0 : e k = 0
      · have HN : Hid (∀ j, j < k + 1 → e j = 0) := Lib.hid (fun j hj => by
          by_cases e' : j = k
          · subst e'; exact h0
          · exact HA.out j (by omega))
        rw [h0, errV_zero] at hcall
        clear h0
        go_wp2_with (go_at_fn g; refine hcall.mono ?_; rintro e' w' ⟨rfl, hb2⟩)
        go_roundw
        case rel => exact ⟨k + 1, by omega, by go_num, below_step hB hb2, HN⟩
        case measure => simp [intOf]; omega
      · have HF := Lib.hid (firstE_hit h0 HA.out hlt)
        have H0 := Lib.hid h0
        rw [errV_pos A h0] at hcall
        clear h0
        go_wp2_with (go_at_fn g; refine hcall.mono ?_; rintro e' w' ⟨rfl, hb2⟩)
        go_ret
        rw [HF.out]
        refine ⟨⟨_, rfl, .inr (.inr ⟨H0.out, w'.heap.size, rfl, by simp, ?_⟩)⟩, (below_step hB hb2).alloc (below_step hB hb2).size _⟩
        rw [errV_pos A H0.out]
        simp
    · obtain rfl : k = n := by omega
      have HF := Lib.hid (firstE_none HA.out)
      go_wp2_with fail
      go_ret
      rw [HF.out]
      exact ⟨⟨_, rfl, .inl ⟨rfl, rfl, rfl⟩⟩, hB⟩
theorem wrap_nat (k : Nat) (h : k ≤ 1000000000) : IntKind.i64.wrap (k : Int) = (k : Int) := by
  simp [IntKind.wrap, IntKind.bits, IntKind.signed]; omega
theorem leq_eq (x y : ByteArray) : (Op.bytesLess x.toList y.toList || x.toList == y.toList) = decide (compareBytes x.data.toList y.data.toList ≤ 0) := by
  rw [toList_data, toList_data, bytesLess_iff]
  generalize x.data.toList = a
  generalize y.data.toList = b
  by_cases h : compareBytes a b < 0
  · rw [decide_eq_true h, decide_eq_true (by omega)]; rfl
  · rw [decide_eq_false h, Bool.false_or]
    by_cases e : a = b
    · subst e
      rw [compareBytes_ord.self]; simp
    · rw [beq_eq_false_iff_ne.2 e]
      have : compareBytes a b ≠ 0 := fun h0 => e (compareBytes_zero h0)
      rw [decide_eq_false (by omega)]
set_option maxHeartbeats 2000000 in
set_option maxRecDepth 100000 in
theorem fileCheck1_calls (ks : List Nat) (A : Nat → Addr) (h4 : 4 ∈ ks) (h3 : 3 ∈ ks) (h8 : 8 ∈ ks) (b : Nat) (path : ByteArray) (a : Option Addr) (n cap : Nat) (P V : Nat → ByteArray) (xv : Value) (i : Nat) (w : World) (hE : EnvP ks A w) (hi : i < n)
    (hx : Box3 w b (.string path) (.slice a n cap) xv) (hc : ∀ j, j < n → ∃ b o, a = some ⟨b, o, none⟩ ∧ w.cell? ⟨b, o + j * 2, none⟩ = some (.string (P j)) ∧ w.cell? ⟨b, o + j * 2 + 1, none⟩ = some (.string (V j))) (hn : n ≤ 1000000)
    (hP : ∀ j, j < n → (P j).size ≤ 1000000 ∧ (V j).size ≤ 1000000) :
    Calls Tryz.prog 43 #[.int .i64 i, .pointer (some ⟨b, 0, none⟩)] w fun e w' => e = .returned (errV A (reqE path.data.toList (mdF n P V) i)) ∧ Below w.heap.size w w' := by
  have hR : reqE path.data.toList (mdF n P V) i = if modErr (P i).data.toList (V i).data.toList ≠ 0 then modErr (P i).data.toList (V i).data.toList else if (P i).data.toList = path.data.toList then 3 else if 0 < i ∧ compareBytes (P i).data.toList (mdAt (mdF n P V) (i - 1)).1 ≤ 0 then 8 else 0 := by
    unfold reqE
    rw [mdAt_mdF hi]; rfl
  obtain ⟨b1, o1, rfl, c1, c2⟩ := hc i hi
  obtain ⟨z0, z1, z2⟩ := hx
  have hck := fun W hW => modCheck_calls ks A h4 (P i) (V i) W hW (by have := (hP i hi).1; omega) (by have := (hP i hi).2; omega)
  have hb := below_alloc w (.cells #[.string (P i), .string (V i)] 47)
  obtain ⟨y0, y1, _⟩ := box2_alloc w (.string (P i)) (.string (V i)) 47
  have hB := hb
  have hE1 := hE.below hb
  have d0 := Below.cell_some hb z0
  have d1 := Below.cell_some hb z1
  have hE := hE1
  have HC : Hid (∀ j, j < n → ∃ b o, some (⟨b1, o1, none⟩ : Addr) = some ⟨b, o, none⟩ ∧ w.cell? ⟨b, o + j * 2, none⟩ = some (.string (P j)) ∧ w.cell? ⟨b, o + j * 2 + 1, none⟩ = some (.string (V j))) := Lib.hid hc
  by_cases h0 : modErr (P i).data.toList (V i).data.toList = 0
  · rw [if_neg (by simp [h0])] at hR
    rw [h0, errV_zero] at hck
    by_cases hp : (P i).data.toList = path.data.toList
    · rw [if_pos hp] at hR
      have hpb := bytes_eq.1 hp
      subst hpb
      replace hR := Lib.hid hR
      replace hck := Lib.hid hck
      clear h0 hp hc hb
      go_enter Tryz.func43, Tryz.ntmps43
      go_wp2_with fail
      refine (hck.out _ hE).mono ?_
      rintro e w1 ⟨rfl, hb⟩
      replace hB := below_step hB hb
      replace hE := hE.below hb
      replace d0 := Below.cell_some hb d0
      replace y0 := Below.cell_some hb y0
      clear hb
      have g3 := hE.errs.var 3 h3
      simp only [errG] at g3
      go_wp2_with fail
      go_ret
      rw [hR.out]
      exact ⟨rfl, hB⟩
    · rw [if_neg hp] at hR
      have hp1 : ((P i).toList == path.toList) = false := by rw [toList_data, toList_data]; exact beq_eq_false_iff_ne.2 hp
      have hp2 : (P i).toList ≠ path.toList := by rw [toList_data, toList_data]; exact hp
      have hp3 : P i ≠ path := fun e => hp (by rw [e])
      by_cases hi0 : i = 0
      · subst hi0
        rw [if_neg (by omega)] at hR
        simp only [Nat.zero_mul, Nat.add_zero] at c1 c2
        replace hR := Lib.hid hR
        replace hck := Lib.hid hck
        clear h0 hp hc hb
        go_enter Tryz.func43, Tryz.ntmps43
        go_wp2_with fail
        refine (hck.out _ hE).mono ?_
        rintro e w1 ⟨rfl, hb⟩
        replace hB := below_step hB hb
        replace hE := hE.below hb
        replace d0 := Below.cell_some hb d0
        replace y0 := Below.cell_some hb y0
        clear hb
        go_wp2_with fail
        go_region
        all_goals
          go_wp2_with fail
          go_ret
          rw [hR.out]
          exact ⟨rfl, hB.drew⟩
      · obtain ⟨k, rfl⟩ : ∃ k, i = k + 1 := ⟨i - 1, by omega⟩
        rw [Nat.add_sub_cancel, mdAt_mdF (show k < n by omega)] at hR
        have hle := leq_eq (P (k + 1)) (P k)
        have hk0 : (0 : Int) < ((k + 1 : Nat) : Int) := by omega
        have hk1 : ((k + 1 : Nat) : Int) - 1 = (k : Int) := by omega
        have hkw := wrap_nat k (by omega)
        have hkn : k < n := by omega
        have hkn2 : (k : Int) < (n : Int) := by omega
        obtain ⟨b2, o2, e1, c3, _⟩ := hc k (by omega)
        injection e1 with e1
        injection e1 with e1 e2
        subst e1 e2
        have d3 := Below.cell_some hb c3
        by_cases hc0 : compareBytes (P (k + 1)).data.toList (P k).data.toList ≤ 0
        · rw [if_pos ⟨Nat.succ_pos k, hc0⟩] at hR
          rw [decide_eq_true hc0] at hle
          replace hR := Lib.hid hR
          replace hck := Lib.hid hck
          clear h0 hp hc hb hc0 c3
          go_enter Tryz.func43, Tryz.ntmps43
          go_wp2_with fail
          refine (hck.out _ hE).mono ?_
          rintro e w1 ⟨rfl, hb⟩
          replace hB := below_step hB hb
          replace hE := hE.below hb
          replace d0 := Below.cell_some hb d0
          replace d1 := Below.cell_some hb d1
          replace d3 := Below.cell_some hb d3
          replace y0 := Below.cell_some hb y0
          clear hb
          go_wp2_with fail
          have k0 := fun d os => cell_patch (d := d) (os := os) y0
          have k1 := fun d os => cell_patch (d := d) (os := os) d1
          have k3 := fun d os => cell_patch (d := d) (os := os) d3
          clear y0 d1 d3 d0
          refine wp_region_quiet_patch (by kernel_rfl) (by kernel_rfl) ?_
          repeat (quiet_step (fail))
          refine wpQuiet_nil ?_
          intro _ hw'
          obtain ⟨⟨dq, osq⟩, hw''⟩ := hw'
          subst hw''
          have hb := below_patch w1 dq osq
          replace hB := below_step hB hb
          replace hE := hE.below hb
          clear hb
          generalize patch w1 dq osq = w2 at hB hE ⊢
          have g8 := hE.errs.var 8 h8
          simp only [errG] at g8
          go_wp2_with fail
          go_ret
          rw [hR.out]
          exact ⟨rfl, hB⟩
        · rw [if_neg (fun h => hc0 h.2)] at hR
          rw [decide_eq_false hc0] at hle
          replace hR := Lib.hid hR
          replace hck := Lib.hid hck
          clear h0 hp hc hb hc0 c3
          go_enter Tryz.func43, Tryz.ntmps43
          go_wp2_with fail
          refine (hck.out _ hE).mono ?_
          rintro e w1 ⟨rfl, hb⟩
          replace hB := below_step hB hb
          replace hE := hE.below hb
          replace d0 := Below.cell_some hb d0
          replace d1 := Below.cell_some hb d1
          replace d3 := Below.cell_some hb d3
          replace y0 := Below.cell_some hb y0
          clear hb
          go_wp2_with fail
          have k0 := fun d os => cell_patch (d := d) (os := os) y0
          have k1 := fun d os => cell_patch (d := d) (os := os) d1
          have k3 := fun d os => cell_patch (d := d) (os := os) d3
          clear y0 d1 d3 d0
          refine wp_region_quiet_patch (by kernel_rfl) (by kernel_rfl) ?_
          repeat (quiet_step (fail))
          refine wpQuiet_nil ?_
          intro _ hw'
          obtain ⟨⟨dq, osq⟩, hw''⟩ := hw'
          subst hw''
          have hb := below_patch w1 dq osq
          replace hB := below_step hB hb
          clear hb
          generalize patch w1 dq osq = w2 at hB ⊢
          go_wp2_with fail
          go_ret
          rw [hR.out]
          exact ⟨rfl, hB⟩
  · rw [if_pos h0] at hR
    rw [errV_pos A h0] at hck
    have HF : Hid (errV A (reqE path.data.toList (mdF n P V) i) = .iface 328 (.pointer (some (A (modErr (P i).data.toList (V i).data.toList))))) := Lib.hid (by rw [hR]; exact errV_pos A h0)
    replace hck := Lib.hid hck
    clear hc hb hR
    go_enter Tryz.func43, Tryz.ntmps43
    go_wp2_with fail
    refine (hck.out _ hE).mono ?_
    rintro e w1 ⟨rfl, hb⟩
    replace hB := below_step hB hb
    clear hb
    go_wp2_with fail
    go_ret
    rw [HF.out]
    exact ⟨rfl, hB⟩
set_option maxHeartbeats 2000000 in
set_option maxRecDepth 100000 in
theorem fileCheck2_calls (ks : List Nat) (A : Nat → Addr) (h4 : 4 ∈ ks) (h8 : 8 ∈ ks) (b : Nat) (pv rv : Value) (a : Option Addr) (n cap : Nat) (P V : Nat → ByteArray) (i : Nat) (w : World) (hE : EnvP ks A w) (hi : i < n)
    (hx : Box3 w b pv rv (.slice a n cap)) (hc : ∀ j, j < n → ∃ b o, a = some ⟨b, o, none⟩ ∧ w.cell? ⟨b, o + j * 2, none⟩ = some (.string (P j)) ∧ w.cell? ⟨b, o + j * 2 + 1, none⟩ = some (.string (V j))) (hn : n ≤ 1000000)
    (hP : ∀ j, j < n → (P j).size ≤ 1000000 ∧ (V j).size ≤ 1000000) :
    Calls Tryz.prog 45 #[.int .i64 i, .pointer (some ⟨b, 0, none⟩)] w fun e w' => e = .returned (errV A (excE (mdF n P V) i)) ∧ Below w.heap.size w w' := by
  have hR : excE (mdF n P V) i = if modErr (P i).data.toList (V i).data.toList ≠ 0 then modErr (P i).data.toList (V i).data.toList else if 0 < i ∧ modAhead (mdAt (mdF n P V) (i - 1)) ((P i).data.toList, (V i).data.toList) = false then 8 else 0 := by
    unfold excE
    rw [mdAt_mdF hi]; rfl
  obtain ⟨b1, o1, rfl, c1, c2⟩ := hc i hi
  obtain ⟨z0, z1, z2⟩ := hx
  have hck := fun W hW => modCheck_calls ks A h4 (P i) (V i) W hW (by have := (hP i hi).1; omega) (by have := (hP i hi).2; omega)
  have hB := Below.refl w.heap.size w
  by_cases h0 : modErr (P i).data.toList (V i).data.toList = 0
  · rw [if_neg (by simp [h0])] at hR
    rw [h0, errV_zero] at hck
    by_cases hi0 : i = 0
    · subst hi0
      rw [if_neg (by omega)] at hR
      simp only [Nat.zero_mul, Nat.add_zero] at c1 c2
      replace hR := Lib.hid hR
      replace hck := Lib.hid hck
      clear h0 hc
      go_enter Tryz.func45, Tryz.ntmps45
      go_wp2_with fail
      refine (hck.out _ hE).mono ?_
      rintro e w1 ⟨rfl, hb⟩
      replace hB := below_step hB hb
      replace hE := hE.below hb
      replace z2 := Below.cell_some hb z2
      clear hb
      go_wp2_with fail
      go_region
      all_goals
        go_wp2_with fail
        go_ret
        rw [hR.out]
        exact ⟨rfl, hB.drew⟩
    · obtain ⟨k, rfl⟩ : ∃ k, i = k + 1 := ⟨i - 1, by omega⟩
      rw [Nat.add_sub_cancel, mdAt_mdF (show k < n by omega)] at hR
      have hk0 : (0 : Int) < ((k + 1 : Nat) : Int) := by omega
      have hk1 : ((k + 1 : Nat) : Int) - 1 = (k : Int) := by omega
      have hkw := wrap_nat k (by omega)
      have hkn : k < n := by omega
      have hkn2 : (k : Int) < (n : Int) := by omega
      have hkn3 : (k : Int) + 1 < (n : Int) := by omega
      have hkn4 : ((k : Int) + 1).toNat = k + 1 := by omega
      have hkn5 : (0 : Int) ≤ (k : Int) + 1 := by omega
      have hkn6 : ¬ ((k : Int) + 1 < 0) := by omega
      obtain ⟨b2, o2, e1, c3, c4⟩ := hc k (by omega)
      injection e1 with e1
      injection e1 with e1 e2
      subst e1 e2
      have hah := fun W hW => modAhead_calls ks A (P k) (V k) (P (k + 1)) (V (k + 1)) W hW (by have := (hP k hkn).2; omega) (by have := (hP (k + 1) hi).2; omega)
      cases hX : modAhead ((P k).data.toList, (V k).data.toList) ((P (k + 1)).data.toList, (V (k + 1)).data.toList) with
      | true =>
        rw [hX] at hah
        rw [if_neg (fun h => by rw [hX] at h; cases h.2)] at hR
        replace hR := Lib.hid hR
        replace hck := Lib.hid hck
        replace hah := Lib.hid hah
        clear h0 hc hX
        go_enter Tryz.func45, Tryz.ntmps45
        go_wp2_with fail
        refine (hck.out _ hE).mono ?_
        rintro e w1 ⟨rfl, hb⟩
        replace hB := below_step hB hb
        replace hE := hE.below hb
        replace z2 := Below.cell_some hb z2
        replace c1 := Below.cell_some hb c1
        replace c2 := Below.cell_some hb c2
        replace c3 := Below.cell_some hb c3
        replace c4 := Below.cell_some hb c4
        clear hb
        go_wp2_with fail
        have k1 := fun d os => cell_patch (d := d) (os := os) c1
        have k2 := fun d os => cell_patch (d := d) (os := os) c2
        have k3 := fun d os => cell_patch (d := d) (os := os) c3
        have k4 := fun d os => cell_patch (d := d) (os := os) c4
        have k5 := fun d os => cell_patch (d := d) (os := os) z2
        have kE := Lib.hid (fun d os => hE.below (below_patch w1 d os))
        clear c1 c2 c3 c4 z2
        refine wp_region_quiet_patch (by kernel_rfl) (by kernel_rfl) ?_
        repeat (quiet_step ((go_at_call 46; with_reducible exact Calls.patch_of (hah.out _ (kE.out _ _)))))
        refine wpQuiet_nil ?_
        intro _ hw'
        obtain ⟨⟨dq, osq⟩, hw''⟩ := hw'
        subst hw''
        have hb := below_patch w1 dq osq
        replace hB := below_step hB hb
        replace hE := hE.below hb
        clear hb
        generalize patch w1 dq osq = w2 at hB hE ⊢
        go_wp2_with fail
        go_ret
        rw [hR.out]
        exact ⟨rfl, hB⟩
      | false =>
        rw [hX] at hah
        rw [if_pos ⟨Nat.succ_pos k, hX⟩] at hR
        replace hR := Lib.hid hR
        replace hck := Lib.hid hck
        replace hah := Lib.hid hah
        clear h0 hc hX
        go_enter Tryz.func45, Tryz.ntmps45
        go_wp2_with fail
        refine (hck.out _ hE).mono ?_
        rintro e w1 ⟨rfl, hb⟩
        replace hB := below_step hB hb
        replace hE := hE.below hb
        replace z2 := Below.cell_some hb z2
        replace c1 := Below.cell_some hb c1
        replace c2 := Below.cell_some hb c2
        replace c3 := Below.cell_some hb c3
        replace c4 := Below.cell_some hb c4
        clear hb
        go_wp2_with fail
        have k1 := fun d os => cell_patch (d := d) (os := os) c1
        have k2 := fun d os => cell_patch (d := d) (os := os) c2
        have k3 := fun d os => cell_patch (d := d) (os := os) c3
        have k4 := fun d os => cell_patch (d := d) (os := os) c4
        have k5 := fun d os => cell_patch (d := d) (os := os) z2
        have kE := Lib.hid (fun d os => hE.below (below_patch w1 d os))
        clear c1 c2 c3 c4 z2
        refine wp_region_quiet_patch (by kernel_rfl) (by kernel_rfl) ?_
        repeat (quiet_step ((go_at_call 46; with_reducible exact Calls.patch_of (hah.out _ (kE.out _ _)))))
        refine wpQuiet_nil ?_
        intro _ hw'
        obtain ⟨⟨dq, osq⟩, hw''⟩ := hw'
        subst hw''
        have hb := below_patch w1 dq osq
        replace hB := below_step hB hb
        replace hE := hE.below hb
        clear hb
        generalize patch w1 dq osq = w2 at hB hE ⊢
        have g8 := hE.errs.var 8 h8
        simp only [errG] at g8
        go_wp2_with fail
        go_ret
        rw [hR.out]
        exact ⟨rfl, hB⟩
  · rw [if_pos h0] at hR
    rw [errV_pos A h0] at hck
    have HF : Hid (errV A (excE (mdF n P V) i) = .iface 328 (.pointer (some (A (modErr (P i).data.toList (V i).data.toList))))) := Lib.hid (by rw [hR]; exact errV_pos A h0)
    replace hck := Lib.hid hck
    clear hc hR
    go_enter Tryz.func45, Tryz.ntmps45
    go_wp2_with fail
    refine (hck.out _ hE).mono ?_
    rintro e w1 ⟨rfl, hb⟩
    replace hB := below_step hB hb
    clear hb
    go_wp2_with fail
    go_ret
    rw [HF.out]
    exact ⟨rfl, hB⟩
theorem bytes_pair {p v q u : ByteArray} : ((p.data.toList, v.data.toList) : Md) = (q.data.toList, u.data.toList) ↔ p = q ∧ v = u :=
  ⟨fun e => ⟨bytes_eq.1 (Prod.ext_iff.1 e).1, bytes_eq.1 (Prod.ext_iff.1 e).2⟩, fun e => by rw [e.1, e.2]⟩
set_option maxHeartbeats 1000000 in
set_option maxRecDepth 100000 in
theorem indexM_calls (a : Option Addr) (n cap : Nat) (P V : Nat → ByteArray) (p q : ByteArray) (w : World) (hn : n ≤ 1000000)
    (hc : ∀ j, j < n → ∃ b o, a = some ⟨b, o, none⟩ ∧ w.cell? ⟨b, o + j * 2, none⟩ = some (.string (P j)) ∧ w.cell? ⟨b, o + j * 2 + 1, none⟩ = some (.string (V j))) :
    Calls Tryz.prog 100 #[.slice a n cap, .agg #[.string p, .string q]] w fun e w' => e = .returned (.int .i64 (findI (fun m : Md => decide (m = (p.data.toList, q.data.toList))) (mdF n P V))) ∧ Below w.heap.size w w' := by
  have hB := below_alloc w (.cells #[.string p, .string q] 47)
  have hz := box2_alloc w (.string p) (.string q) 47
  have hg := Tryz.md_guard
  have hql := md_eql
  replace hc := Lib.hid hc
  replace hB := Lib.hid hB
  go_enter Tryz.func100, Tryz.ntmps100
  go_wp2_with fail
  generalize hw1 : w.alloc (.cells #[.string p, .string q] 47) = w1 at hB hz ⊢
  go_loopw [8] (fun i wr => ∃ k : Nat, k ≤ n ∧ i = .int .i64 k ∧ Below w1.heap.size w1 wr ∧ Hid (∀ j, j < k → ¬ (P j = p ∧ V j = q))) (fun i _ => n - (intOf i).toNat)
  case atStart => exact ⟨0, Nat.zero_le _, rfl, Below.refl _ _, Lib.hid (fun j hj => absurd hj (Nat.not_lt_zero _))⟩
  case round =>
    obtain ⟨k, hk, rfl, hb, HA⟩ := hrel
    have hBw := below_step hB.out hb
    by_cases hlt : k < n
    · obtain ⟨b1, o1, rfl, c1, c2⟩ := hc.out k hlt
      replace c1 := Below.cell_some hBw c1
      replace c2 := Below.cell_some hBw c2
      obtain ⟨z0, z1, _⟩ := hz.below hb
      by_cases he : p = P k ∧ q = V k
      · have HF : Hid (findI (fun m : Md => decide (m = (p.data.toList, q.data.toList))) (mdF n P V) = k) := Lib.hid (findI_hit (mdF_get n P V k hlt) (by rw [he.1, he.2]; simp) (fun j y hj hy => by
          rw [mdF_get n P V j (by omega)] at hy
          cases hy
          exact decide_eq_false (fun e => HA.out j hj (bytes_pair.1 e))))
        have hd := decide_eq_true he
        clear he
        go_wp2_with fail
        go_region
        all_goals
          go_wp2_with fail
          go_ret
          rw [HF.out]
          exact ⟨rfl, hBw.drew⟩
      · have HN : Hid (∀ j, j < k + 1 → ¬ (P j = p ∧ V j = q)) := Lib.hid (fun j hj => by
          by_cases e : j = k
          · subst e; exact fun h => he ⟨h.1.symm, h.2.symm⟩
          · exact HA.out j (by omega))
        have hd := decide_eq_false he
        clear he
        go_wp2_with fail
        go_region
        all_goals
          go_wp2_with fail
          go_roundw
          case rel => exact ⟨k + 1, by omega, by go_num, hb.drew, HN⟩
          case measure => simp [intOf]; omega
    · obtain rfl : k = n := by omega
      have HF : Hid (findI (fun m : Md => decide (m = (p.data.toList, q.data.toList))) (mdF k P V) = -1) := Lib.hid (findI_none (fun j y hy => by
        have hj : j < k := by have := (List.getElem?_eq_some_iff.1 hy).1; rwa [mdF_length] at this
        rw [mdF_get k P V j hj] at hy
        cases hy
        exact decide_eq_false (fun e => HA.out j hj (bytes_pair.1 e))))
      go_wp2_with fail
      go_ret
      rw [HF.out]
      exact ⟨rfl, hBw⟩
theorem containsM_calls (a : Option Addr) (n cap : Nat) (P V : Nat → ByteArray) (p q : ByteArray) (w : World) (hn : n ≤ 1000000)
    (hc : ∀ j, j < n → ∃ b o, a = some ⟨b, o, none⟩ ∧ w.cell? ⟨b, o + j * 2, none⟩ = some (.string (P j)) ∧ w.cell? ⟨b, o + j * 2 + 1, none⟩ = some (.string (V j))) :
    Calls Tryz.prog 48 #[.slice a n cap, .agg #[.string p, .string q]] w fun e w' => e = .returned (.bool (decide ((p.data.toList, q.data.toList) ∈ mdF n P V))) ∧ Below w.heap.size w w' := by
  have hB := below_alloc w (.cells #[.string p, .string q] 47)
  have hi := indexM_calls a n cap P V p q (w.alloc (.cells #[.string p, .string q] 47)) hn (fun j hj => let ⟨b, o, e, h1, h2⟩ := hc j hj; ⟨b, o, e, Below.cell_some hB h1, Below.cell_some hB h2⟩)
  have hd : decide ((p.data.toList, q.data.toList) ∈ mdF n P V) = decide (0 ≤ findI (fun m : Md => decide (m = (p.data.toList, q.data.toList))) (mdF n P V)) := by
    rw [decide_eq_decide]
    constructor
    · intro h
      obtain ⟨k, hk⟩ := List.getElem?_of_mem h
      rcases Int.lt_or_le (findI (fun m : Md => decide (m = (p.data.toList, q.data.toList))) (mdF n P V)) 0 with h0 | h0
      · exfalso
        unfold findI at h0
        split at h0
        · omega
        · rename_i hno
          rw [List.findIdx?_eq_none_iff] at hno
          have := hno _ h
          simp at this
      · exact h0
    · intro h
      unfold findI at h
      split at h
      · rename_i k hk
        rw [List.findIdx?_eq_some_iff_getElem] at hk
        obtain ⟨hk1, hk2, _⟩ := hk
        have := of_decide_eq_true hk2
        rw [← this]
        exact List.getElem_mem hk1
      · omega
  generalize findI (fun m : Md => decide (m = (p.data.toList, q.data.toList))) (mdF n P V) = x at hi hd
  have HD := Lib.hid hd
  replace hi := Lib.hid hi
  clear hd hc
  go_enter Tryz.func48, Tryz.ntmps48
  go_wp2_with fail
  refine hi.out.mono ?_
  rintro e w1 ⟨rfl, hb⟩
  go_wp2_with fail
  go_ret
  rw [HD.out]
  exact ⟨rfl, below_step hB hb⟩
set_option maxHeartbeats 1000000 in
set_option maxRecDepth 100000 in
theorem fileCheck3_calls (ks : List Nat) (A : Nat → Addr) (h9 : 9 ∈ ks) (b : Nat) (pv : Value) (a : Option Addr) (n cap : Nat) (P V : Nat → ByteArray) (a2 : Option Addr) (m cap2 : Nat) (Q U : Nat → ByteArray) (i : Nat) (w : World) (hE : EnvP ks A w) (hi : i < n)
    (hx : Box3 w b pv (.slice a n cap) (.slice a2 m cap2)) (hc : ∀ j, j < n → ∃ b o, a = some ⟨b, o, none⟩ ∧ w.cell? ⟨b, o + j * 2, none⟩ = some (.string (P j)) ∧ w.cell? ⟨b, o + j * 2 + 1, none⟩ = some (.string (V j))) (_hn : n ≤ 1000000)
    (hc2 : ∀ j, j < m → ∃ b o, a2 = some ⟨b, o, none⟩ ∧ w.cell? ⟨b, o + j * 2, none⟩ = some (.string (Q j)) ∧ w.cell? ⟨b, o + j * 2 + 1, none⟩ = some (.string (U j))) (hm : m ≤ 1000000) :
    Calls Tryz.prog 47 #[.int .i64 i, .pointer (some ⟨b, 0, none⟩)] w fun e w' => e = .returned (errV A (claE (mdF n P V) (mdF m Q U) i)) ∧ Below w.heap.size w w' := by
  obtain ⟨b1, o1, rfl, c1, c2⟩ := hc i hi
  obtain ⟨z0, z1, z2⟩ := hx
  have hct := fun W (hb : Below w.heap.size w W) => containsM_calls a2 m cap2 Q U (P i) (V i) W hm (fun j hj => let ⟨b, o, e, h1, h2⟩ := hc2 j hj; ⟨b, o, e, Below.cell_some hb h1, Below.cell_some hb h2⟩)
  have hR : claE (mdF n P V) (mdF m Q U) i = if ((P i).data.toList, (V i).data.toList) ∈ mdF m Q U then 9 else 0 := by
    unfold claE
    rw [mdAt_mdF hi]
  have hB := Below.refl w.heap.size w
  have hk5 : (i : Int) < (n : Int) := by omega
  have k1 := fun d os => cell_patch (d := d) (os := os) c1
  have k2 := fun d os => cell_patch (d := d) (os := os) c2
  have k3 := fun d os => cell_patch (d := d) (os := os) z1
  have k4 := fun d os => cell_patch (d := d) (os := os) z2
  by_cases hin : ((P i).data.toList, (V i).data.toList) ∈ mdF m Q U
  · rw [if_pos hin] at hR
    rw [decide_eq_true hin] at hct
    replace hR := Lib.hid hR
    replace hct := Lib.hid hct
    clear hin hc hc2 c1 c2 z1 z2
    go_enter Tryz.func47, Tryz.ntmps47
    go_wp2_with fail
    refine wp_region_quiet_patch (by kernel_rfl) (by kernel_rfl) ?_
    repeat (quiet_step ((go_at_call 48; with_reducible exact Calls.patch_of (hct.out _ (below_patch _ _ _)))))
    refine wpQuiet_nil ?_
    intro _ hw'
    obtain ⟨⟨dq, osq⟩, hw''⟩ := hw'
    subst hw''
    have hb := below_patch w dq osq
    replace hB := below_step hB hb
    replace hE := hE.below hb
    clear hb
    generalize patch w dq osq = w2 at hB hE ⊢
    have g9 := hE.errs.var 9 h9
    simp only [errG] at g9
    go_wp2_with fail
    go_ret
    rw [hR.out]
    exact ⟨rfl, hB⟩
  · rw [if_neg hin] at hR
    rw [decide_eq_false hin] at hct
    replace hR := Lib.hid hR
    replace hct := Lib.hid hct
    clear hin hc hc2 c1 c2 z1 z2
    go_enter Tryz.func47, Tryz.ntmps47
    go_wp2_with fail
    refine wp_region_quiet_patch (by kernel_rfl) (by kernel_rfl) ?_
    repeat (quiet_step ((go_at_call 48; with_reducible exact Calls.patch_of (hct.out _ (below_patch _ _ _)))))
    refine wpQuiet_nil ?_
    intro _ hw'
    obtain ⟨⟨dq, osq⟩, hw''⟩ := hw'
    subst hw''
    have hb := below_patch w dq osq
    replace hB := below_step hB hb
    replace hE := hE.below hb
    clear hb
    generalize patch w dq osq = w2 at hB hE ⊢
    go_wp2_with fail
    go_ret
    rw [hR.out]
    exact ⟨rfl, hB⟩
end Go.Proofs.Pw
