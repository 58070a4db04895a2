/- Ge: walks and plain laws, joined: IdxEnt IdxCheck GrMath GrStart. Conditions: at each theorem. -/
import Derived.Test.YtmnojbbcaboagaaGreatDoorGeo
import Derived.Test.YtmnojbbcaboagaaGreatDoorGem
import Derived.Test.YtmnojbbcaboagaaGreatDoorGec

namespace Go.Proofs.Pw
open Go.RowKit
open Go.Lib hiding intOf
theorem reqsE_of (e : En) : reqsErr e = reqsE e.md.1 e.reqs := rfl
theorem packsE_of (e : En) : packsErr e = packsE e.packs := rfl
def stagesE (a : Nat) (b : Bool) (c d : Nat) : Nat := if a ≠ 0 then a else if b = true then 8 else if c ≠ 0 then c else d
theorem entErr_stages (l : List En) (i : Nat) : entErr l i = stagesE (mdErr (enAt l i).md) (decide (0 < i ∧ modAhead (enAt l (i - 1)).md (enAt l i).md = false)) (reqsErr (enAt l i)) (packsErr (enAt l i)) := by
  unfold entErr stagesE
  simp only [decide_eq_true_eq]
set_option maxHeartbeats 4000000 in
set_option maxRecDepth 100000 in
theorem idxEntry_calls (ks : List Nat) (A : Nat → Addr) (hks : IdxKs ks) (a : Option Addr) (n cap : Nat) (P V : Nat → ByteArray) (R : Nat → List Md) (K : Nat → List Str) (B : Nat → Bool) (Rv Kv : Nat → Value) (i : Nat) (w : World) (hE : EnvP ks A w) (h : EntsIn w a n cap P V R K B Rv Kv) (hs : ShortI (enF n P V R K B)) (hi : i < n) :
    Calls Tryz.prog 131 #[.slice a n cap, .int .i64 i] w fun e w' => e = .returned (errV A (entErr (enF n P V R K B) i)) ∧ Below w.heap.size w w' := by
  have hB := Below.refl w.heap.size w
  obtain ⟨hn, hp1, hv1, hsr, hk1, hk2⟩ := hs.at_ hi
  have HS0 := entErr_stages (enF n P V R K B) i
  rw [reqsE_of, packsE_of, enAt_enF hi] at HS0
  have hck := fun W hW => modCheck_calls ks A hks.2.1 (P i) (V i) W hW (by omega) (by omega)
  obtain ⟨b1, o1, ea, hcell⟩ := h.at_ i hi
  obtain ⟨a1, n1, s1, a2, n2, s2, e1, e2⟩ := h.forms hi
  have hrq := fun W (hW : EnvP ks A W) (hb : Below w.heap.size w W) => idxReqs_calls ks A hks (P i) (V i) (Rv i) a2 n2 s2 (B i) (R i) W hW ((h.reqs i hi).below hb) hsr
  have hpk := fun W (hW : EnvP ks A W) (hb : Below w.heap.size w W) => idxPacks_calls ks A hks (P i) (V i) (Kv i) a1 n1 s1 (B i) (K i) W hW ((h.packs i hi).below hb) hk1 hk2
  rw [e1, e2] at hcell
  simp only [e1] at hrq
  simp only [e2] at hpk
  have hki : (i : Int) < (n : Int) := by omega
  by_cases h0 : modErr (P i).data.toList (V i).data.toList = 0
  · rw [h0, errV_zero] at hck
    by_cases hi0 : i = 0
    · subst hi0
      rw [decide_eq_false (p := _ ∧ _) (fun h => absurd h.1 (by omega))] at HS0
      have HS := Lib.hid HS0
      clear HS0
      simp only [Nat.zero_mul, Nat.add_zero] at hcell
      subst ea
      replace hck := Lib.hid hck
      replace h0 := Lib.hid h0
      clear h hs e1 e2
      obtain ⟨c0, c1, c2, c3, c4⟩ := id hcell
      go_enter Tryz.func131, Tryz.ntmps131
      go_wp2_with fail
      refine (hck.out _ hE).mono ?_
      rintro e w1 ⟨rfl, hb⟩
      replace hB := below_step hB hb
      replace hE := hE.below hb
      replace hcell := hcell.below hb
      clear hb
      clear c0 c1 c2 c3 c4
      go_wp2_with fail
      refine wp_region_quiet_patch (by kernel_rfl) (by kernel_rfl) ?_
      repeat (go_big_quiet_step (fail))
      refine wpQuiet_nil ?_
      intro _ hw'
      obtain ⟨⟨dq, osq⟩, hw''⟩ := hw'
      subst hw''
      have hb := below_patch w1 dq osq
      replace hB := below_step hB hb
      replace hE := hE.below hb
      replace hcell := hcell.below hb
      clear hb
      generalize patch w1 dq osq = w2 at hB hE hcell ⊢
      obtain ⟨c0, c1, c2, c3, c4⟩ := id hcell
      cases hq : decide (reqsE (P 0).data.toList (R 0) = 0) with
      | true =>
        have hq := of_decide_eq_true hq
        rw [hq, errV_zero] at hrq
        have HF2 : Hid (entErr (enF n P V R K B) 0 = packsE (K 0)) := Lib.hid (by rw [HS.out]; unfold stagesE; rw [if_neg (fun h => h h0.out), if_neg (by simp), if_neg (by simp [hq])])
        replace hrq := Lib.hid hrq
        replace hpk := Lib.hid hpk
        clear hq
        go_wp2_with fail
        refine (hrq.out _ hE hB).mono ?_
        rintro e w5 ⟨rfl, hb⟩
        replace hB := below_step hB hb
        replace hE := hE.below hb
        replace hcell := hcell.below hb
        clear hb
        clear c0 c1 c2 c3 c4
        obtain ⟨c0, c1, c2, c3, c4⟩ := id hcell
        go_wp2_with fail
        refine (hpk.out _ hE hB).mono ?_
        rintro e w6 ⟨rfl, hb⟩
        have hB6 := below_step hB hb
        go_wp2_with fail
        go_ret
        rw [HF2.out]
        exact ⟨rfl, hB6⟩
      | false =>
        have hq := of_decide_eq_false hq
        have HF2 : Hid (entErr (enF n P V R K B) 0 = reqsE (P 0).data.toList (R 0)) := Lib.hid (by rw [HS.out]; unfold stagesE; rw [if_neg (fun h => h h0.out), if_neg (by simp), if_pos hq])
        have HF3 : Hid (errV A (reqsE (P 0).data.toList (R 0)) = .iface 328 (.pointer (some (A (reqsE (P 0).data.toList (R 0)))))) := Lib.hid (errV_pos A hq)
        rw [errV_pos A hq] at hrq
        replace hrq := Lib.hid hrq
        replace hpk := Lib.hid hpk
        clear hq
        go_wp2_with fail
        refine (hrq.out _ hE hB).mono ?_
        rintro e w5 ⟨rfl, hb⟩
        have hB5 := below_step hB hb
        go_wp2_with fail
        go_ret
        rw [HF2.out, HF3.out]
        exact ⟨rfl, hB5⟩
    · obtain ⟨k, rfl⟩ : ∃ k, i = k + 1 := ⟨i - 1, by omega⟩
      have hkn : k < n := by omega
      obtain ⟨_, hp2, hv2, _, _, _⟩ := hs.at_ hkn
      rw [Nat.add_sub_cancel, enAt_enF hkn] at HS0
      have hk0 : (0 : Int) < ((k + 1 : Nat) : Int) := by omega
      have hk1' : ((k + 1 : Nat) : Int) - 1 = (k : Int) := by omega
      have hkw := wrap_nat k (by omega)
      have hkw1 := wrap_nat (k + 1) (by omega)
      have hkn2 : (k : Int) < (n : Int) := by omega
      have hkn3 : (k : Int) + 1 < (n : Int) := by omega
      have hkn4 : ((k : Int) + 1).toNat = k + 1 := by omega
      have hkn5 : (0 : Int) ≤ (k : Int) + 1 := by omega
      have hkn6 : ¬ ((k : Int) + 1 < 0) := by omega
      obtain ⟨b2, o2, eb, hcell2⟩ := h.at_ k hkn
      rw [ea] at eb
      injection eb with eb
      injection eb with eb1 eb2
      subst eb1 eb2
      obtain ⟨d0, d1, d2, d3, d4⟩ := hcell2
      subst ea
      have hah := fun W hW => modAhead_calls ks A (P k) (V k) (P (k + 1)) (V (k + 1)) W hW (by omega) (by omega)
      cases hX : modAhead ((P k).data.toList, (V k).data.toList) ((P (k + 1)).data.toList, (V (k + 1)).data.toList) with
      | true =>
        rw [hX] at hah
        rw [decide_eq_false (p := _ ∧ _) (fun h => by rw [hX] at h; cases h.2)] at HS0
        have HS := Lib.hid HS0
        clear HS0
        replace hck := Lib.hid hck
        replace hah := Lib.hid hah
        replace h0 := Lib.hid h0
        clear h hs e1 e2 hX d2 d3 d4
        obtain ⟨c0, c1, c2, c3, c4⟩ := id hcell
        go_enter Tryz.func131, Tryz.ntmps131
        go_wp2_with fail
        refine (hck.out _ hE).mono ?_
        rintro e w1 ⟨rfl, hb⟩
        replace hB := below_step hB hb
        replace hE := hE.below hb
        replace hcell := hcell.below hb
        replace c0 := Below.cell_some hb c0
        replace c1 := Below.cell_some hb c1
        replace d0 := Below.cell_some hb d0
        replace d1 := Below.cell_some hb d1
        clear hb
        go_wp2_with fail
        have kE := Lib.hid (fun d os => hE.below (below_patch w1 d os))
        have kqc0 := fun d os => cell_patch (d := d) (os := os) c0
        have kqc1 := fun d os => cell_patch (d := d) (os := os) c1
        have kqd0 := fun d os => cell_patch (d := d) (os := os) d0
        have kqd1 := fun d os => cell_patch (d := d) (os := os) d1
        refine wp_region_quiet_patch (by kernel_rfl) (by kernel_rfl) ?_
        repeat (go_big_quiet_step ((go_at_call 46; with_reducible exact Calls.patch_of (hah.out _ (kE.out _ _)))))
        refine wpQuiet_nil ?_
        intro _ hw'
        obtain ⟨⟨dq, osq⟩, hw''⟩ := hw'
        subst hw''
        clear kqc0 kqc1 kqd0 kqd1
        have hb := below_patch w1 dq osq
        replace hB := below_step hB hb
        replace hE := hE.below hb
        replace hcell := hcell.below hb
        clear hb
        generalize patch w1 dq osq = w2 at hB hE hcell ⊢
        clear c0 c1 c2 c3 c4 d0 d1
        obtain ⟨c0, c1, c2, c3, c4⟩ := id hcell
        cases hq : decide (reqsE (P (k + 1)).data.toList (R (k + 1)) = 0) with
        | true =>
          have hq := of_decide_eq_true hq
          rw [hq, errV_zero] at hrq
          have HF2 : Hid (entErr (enF n P V R K B) (k + 1) = packsE (K (k + 1))) := Lib.hid (by rw [HS.out]; unfold stagesE; rw [if_neg (fun h => h h0.out), if_neg (by simp), if_neg (by simp [hq])])
          replace hrq := Lib.hid hrq
          replace hpk := Lib.hid hpk
          clear hq
          go_wp2_with fail
          refine (hrq.out _ hE hB).mono ?_
          rintro e w5 ⟨rfl, hb⟩
          replace hB := below_step hB hb
          replace hE := hE.below hb
          replace hcell := hcell.below hb
          clear hb
          clear c0 c1 c2 c3 c4
          obtain ⟨c0, c1, c2, c3, c4⟩ := id hcell
          go_wp2_with fail
          refine (hpk.out _ hE hB).mono ?_
          rintro e w6 ⟨rfl, hb⟩
          have hB6 := below_step hB hb
          go_wp2_with fail
          go_ret
          rw [HF2.out]
          exact ⟨rfl, hB6⟩
        | false =>
          have hq := of_decide_eq_false hq
          have HF2 : Hid (entErr (enF n P V R K B) (k + 1) = reqsE (P (k + 1)).data.toList (R (k + 1))) := Lib.hid (by rw [HS.out]; unfold stagesE; rw [if_neg (fun h => h h0.out), if_neg (by simp), if_pos hq])
          have HF3 : Hid (errV A (reqsE (P (k + 1)).data.toList (R (k + 1))) = .iface 328 (.pointer (some (A (reqsE (P (k + 1)).data.toList (R (k + 1))))))) := Lib.hid (errV_pos A hq)
          rw [errV_pos A hq] at hrq
          replace hrq := Lib.hid hrq
          replace hpk := Lib.hid hpk
          clear hq
          go_wp2_with fail
          refine (hrq.out _ hE hB).mono ?_
          rintro e w5 ⟨rfl, hb⟩
          have hB5 := below_step hB hb
          go_wp2_with fail
          go_ret
          rw [HF2.out, HF3.out]
          exact ⟨rfl, hB5⟩
      | false =>
        rw [hX] at hah
        rw [decide_eq_true (p := _ ∧ _) ⟨Nat.succ_pos k, hX⟩] at HS0
        have HF : Hid (entErr (enF n P V R K B) (k + 1) = 8) := Lib.hid (by rw [HS0]; unfold stagesE; rw [if_neg (by show ¬ mdErr _ ≠ 0; simp [mdErr, h0]), if_pos rfl])
        clear HS0
        replace hck := Lib.hid hck
        replace hah := Lib.hid hah
        replace h0 := Lib.hid h0
        obtain ⟨c0, c1, c2, c3, c4⟩ := hcell
        clear h hs e1 e2 hX d2 d3 d4 c2 c3 c4 hrq hpk
        go_enter Tryz.func131, Tryz.ntmps131
        go_wp2_with fail
        refine (hck.out _ hE).mono ?_
        rintro e w1 ⟨rfl, hb⟩
        replace hB := below_step hB hb
        replace hE := hE.below hb
        replace c0 := Below.cell_some hb c0
        replace c1 := Below.cell_some hb c1
        replace d0 := Below.cell_some hb d0
        replace d1 := Below.cell_some hb d1
        clear hb
        go_wp2_with fail
        have kE := Lib.hid (fun d os => hE.below (below_patch w1 d os))
        have kqc0 := fun d os => cell_patch (d := d) (os := os) c0
        have kqc1 := fun d os => cell_patch (d := d) (os := os) c1
        have kqd0 := fun d os => cell_patch (d := d) (os := os) d0
        have kqd1 := fun d os => cell_patch (d := d) (os := os) d1
        refine wp_region_quiet_patch (by kernel_rfl) (by kernel_rfl) ?_
        repeat (go_big_quiet_step ((go_at_call 46; with_reducible exact Calls.patch_of (hah.out _ (kE.out _ _)))))
        refine wpQuiet_nil ?_
        intro _ hw'
        obtain ⟨⟨dq, osq⟩, hw''⟩ := hw'
        subst hw''
        clear kqc0 kqc1 kqd0 kqd1
        have hb := below_patch w1 dq osq
        replace hB := below_step hB hb
        replace hE := hE.below hb
        clear hb
        generalize patch w1 dq osq = w2 at hB hE ⊢
        clear c0 c1 d0 d1
        have g8 := hE.errs.var 8 hks.2.2.2.2
        simp only [errG] at g8
        go_wp2_with fail
        go_ret
        rw [HF.out]
        exact ⟨rfl, hB⟩
  · have HF : Hid (errV A (entErr (enF n P V R K B) i) = .iface 328 (.pointer (some (A (modErr (P i).data.toList (V i).data.toList))))) := Lib.hid (by
      rw [HS0]
      unfold stagesE
      rw [if_pos (by exact h0)]
      exact errV_pos A h0)
    rw [errV_pos A h0] at hck
    subst ea
    replace hck := Lib.hid hck
    obtain ⟨c0, c1, c2, c3, c4⟩ := hcell
    clear h hs e1 e2 hrq hpk HS0 c2 c3 c4
    go_enter Tryz.func131, Tryz.ntmps131
    go_wp2_with fail
    refine (hck.out _ hE).mono ?_
    rintro e w1 ⟨rfl, hb⟩
    replace hB := below_step hB hb
    clear hb
    go_wp2_with fail
    go_ret
    rw [HF.out]
    exact ⟨rfl, hB⟩
end Go.Proofs.Pw

namespace Go.Proofs.Pw
open Go.RowKit
open Go.Lib hiding intOf
theorem any_findI {α : Type} {p : α → Bool} {l : List α} : l.any p = true ↔ 0 ≤ findI p l := by
  by_cases h : findI p l < 0
  · refine iff_of_false (fun h2 => ?_) (by omega)
    obtain ⟨x, hx, h3⟩ := List.any_eq_true.1 h2
    have := findI_eq_none.1 h x hx
    rw [this] at h3; cases h3
  · refine iff_of_true ?_ (by omega)
    obtain ⟨x, hx, h3⟩ := findI_spec (show findI p l = ((findI p l).toNat : Int) by omega)
    exact List.any_eq_true.2 ⟨x, List.mem_of_getElem? hx, h3⟩
theorem containsMf_calls (g : Nat) (lb : Array Value) (eg : ∀ args w, (callFunc g args).run Tryz.prog w = .ok (.enter g args) w) (p : Md → Bool) (a : Option Addr) (n cap base : Nat) (P V : Nat → ByteArray) (w : World) (hn : n ≤ 1000000) (hbase : base ≤ w.heap.size)
    (hc : ∀ j, j < n → ∃ b o, a = some ⟨b, o, none⟩ ∧ w.cell? ⟨b, o + j * 2, none⟩ = some (.string (P j)) ∧ w.cell? ⟨b, o + j * 2 + 1, none⟩ = some (.string (V j))) (hT : TestsM g lb p n P V base w) :
    Calls Tryz.prog 69 #[.slice a n cap, .func (.func g) #[] lb] w fun e w' => e = .returned (.bool ((mdF n P V).any p)) ∧ Below w.heap.size w w' := by
  have hi := indexFuncM_calls g lb eg p a n cap base P V w hn hbase hc hT
  have hany := any_findI (p := p) (l := mdF n P V)
  generalize (mdF n P V).any p = X at hany ⊢
  generalize findI p (mdF n P V) = i at hany hi
  replace hi := Lib.hid hi
  clear hc hT
  go_enter Tryz.func69, Tryz.ntmps69
  go_wp2_with fail
  refine hi.out.mono ?_
  rintro e w1 ⟨rfl, hb⟩
  cases X with
  | true =>
    have h0 := hany.1 rfl
    clear hany
    go_wp2_with fail
    go_ret
    exact ⟨rfl, hb⟩
  | false =>
    have h0 : ¬ (0 ≤ i) := fun h => by have := hany.2 h; cases this
    clear hany
    go_wp2_with fail
    go_ret
    refine ⟨?_, hb⟩
    show Ending.returned (Value.bool (decide (0 ≤ i))) = _
    rw [decide_eq_false (by omega)]
theorem Tryz.enters_icheck1 : ∀ args w, (callFunc 132 args).run Tryz.prog w = .ok (.enter 132 args) w := Go.Proofs.enters_of Tryz.func132 (by kernel_rfl) rfl
theorem idxCheck1_calls (a : Option Addr) (n cap : Nat) (P V : Nat → ByteArray) (R : Nat → List Md) (K : Nat → List Str) (B : Nat → Bool) (Rv Kv : Nat → Value) (b : Nat) (p v : ByteArray) (w : World) (h : EntsIn w a n cap P V R K B Rv Kv) (hl : n ≤ 1000000) (z : w.cell? ⟨b, 0, none⟩ = some (.slice a n cap)) :
    Calls Tryz.prog 132 #[.agg #[.string p, .string v], .pointer (some ⟨b, 0, none⟩)] w fun e w' => e = .returned (.bool (lost (enF n P V R K B) (p.data.toList, v.data.toList))) ∧ Below w.heap.size w w' := by
  have hb := below_alloc w (.cells #[.string p, .string v] 47)
  have hz := box2_alloc w (.string p) (.string v) 47
  have z1 := Below.cell_some hb z
  have hf := idxFind_in a n cap P V R K B Rv Kv p v (w.alloc (.cells #[.string p, .string v] 47)) (h.below hb) hl
  show Calls _ _ _ _ fun e w' => e = .returned (.bool (decide (findE (enF n P V R K B) (p.data.toList, v.data.toList) < 0))) ∧ Below w.heap.size w w'
  generalize findE (enF n P V R K B) (p.data.toList, v.data.toList) = x at hf ⊢
  replace hf := Lib.hid hf
  clear h z
  obtain ⟨y0, y1, _⟩ := hz
  go_enter Tryz.func132, Tryz.ntmps132
  go_wp2_with fail
  refine hf.out.mono ?_
  rintro e w1 ⟨rfl, hb1⟩
  go_wp2_with fail
  go_ret
  exact ⟨rfl, below_step hb hb1⟩
set_option maxHeartbeats 4000000 in
set_option maxRecDepth 100000 in
theorem idxCheck_in (ks : List Nat) (A : Nat → Addr) (hks : IdxKs ks) (a : Option Addr) (n cap : Nat) (P V : Nat → ByteArray) (R : Nat → List Md) (K : Nat → List Str) (B : Nat → Bool) (Rv Kv : Nat → Value) (w : World) (hE : EnvP ks A w) (h : EntsIn w a n cap P V R K B Rv Kv) (hs : ShortI (enF n P V R K B)) :
    Calls Tryz.prog 68 #[.slice a n cap] w fun e w' => (∃ v, e = .returned v ∧ FaultAt A w' v (idxErr (enF n P V R K B))) ∧ Below w.heap.size w w' := by
  have hB := below_alloc w (.cells #[.slice a n cap] 22)
  have z1 : (w.alloc (.cells #[.slice a n cap] 22)).cell? ⟨w.heap.size, 0, none⟩ = some (.slice a n cap) := by simp
  have hn : n ≤ 1000000 := by have := hs.len; rw [enF_length] at this; exact this
  replace hE := hE.below hB
  have HE : Hid (idxErr (enF n P V R K B) = if 100 < n then (7, -1) else orE (firstE (entErr (enF n P V R K B)) n) (firstE (lostE (enF n P V R K B)) n)) := Lib.hid (by unfold idxErr; rw [enF_length])
  have H := Lib.hid h
  have HS := Lib.hid hs
  clear h hs
  by_cases h100 : 100 < n
  · have h100' : (100 : Int) < (n : Int) := by omega
    have HF : Hid (idxErr (enF n P V R K B) = (7, -1)) := Lib.hid (by rw [HE.out, if_pos h100])
    have HR : Hid (∀ W, FaultAt A W (errV A 7) (7, -1)) := Lib.hid (fun W => .inr (.inl ⟨by decide, rfl, rfl⟩))
    rw [errV_pos A (c := 7) (by decide)] at HR
    have g7 := hE.errs.var 7 hks.2.2.2.1
    simp only [errG] at g7
    go_enter Tryz.func68, Tryz.ntmps68
    go_wp2_with fail
    go_ret
    rw [HF.out]
    exact ⟨⟨_, rfl, HR.out _⟩, hB⟩
  · have h100' : ¬ (100 : Int) < (n : Int) := by omega
    have HE1 : Hid (idxErr (enF n P V R K B) = orE (firstE (entErr (enF n P V R K B)) n) (firstE (lostE (enF n P V R K B)) n)) := Lib.hid (by rw [HE.out, if_neg h100])
    clear HE h100
    go_enter Tryz.func68, Tryz.ntmps68
    go_wp2_with fail
    generalize hw1 : w.alloc (.cells #[.slice a n cap] 22) = w1 at *
    clear hw1 h100'
    go_loopw [13] (fun i wr => ∃ k : Nat, k ≤ n ∧ i = .int .i64 k ∧ Below w1.heap.size w1 wr ∧ Hid (∀ j, j < k → entErr (enF n P V R K B) j = 0)) (fun i _ => n - (intOf i).toNat)
    case atStart => exact ⟨0, Nat.zero_le _, rfl, Below.refl _ _, Lib.hid (fun j hj => absurd hj (Nat.not_lt_zero _))⟩
    case round =>
      obtain ⟨k, hk, rfl, hb, HA⟩ := hrel
      have hBr := below_step hB hb
      have d1 := Below.cell_some hb z1
      by_cases hlt : k < n
      · have hkn : (k : Int) < (n : Int) := by omega
        have hen := idxEntry_calls ks A hks a n cap P V R K B Rv Kv k wr (hE.below hb) (H.out.below hBr) HS.out hlt
        by_cases h0 : entErr (enF n P V R K B) k = 0
        · have HN : Hid (∀ j, j < k + 1 → entErr (enF n P V R K B) j = 0) := Lib.hid (fun j hj => by
            by_cases e : j = k
            · subst e; exact h0
            · exact HA.out j (by omega))
          rw [h0, errV_zero] at hen
          clear h0
          replace hen := Lib.hid hen
          go_wp2_with fail
          refine hen.out.mono ?_
          rintro e w3 ⟨rfl, hb3⟩
          go_wp2_with fail
          go_roundw
          case rel => exact ⟨k + 1, by omega, by go_num, below_step hb hb3, HN⟩
          case measure => simp [intOf]; omega
        · have HF : Hid (idxErr (enF n P V R K B) = (entErr (enF n P V R K B) k, (k : Int))) := Lib.hid (by
            rw [HE1.out]; unfold orE; rw [firstE_hit h0 HA.out hlt, if_pos h0])
          have H0 := Lib.hid h0
          rw [errV_pos A h0] at hen
          clear h0
          replace hen := Lib.hid hen
          go_wp2_with fail
          refine hen.out.mono ?_
          rintro e w3 ⟨rfl, hb3⟩
          go_wp2_with fail
          go_ret
          rw [HF.out]
          refine ⟨⟨_, rfl, .inr (.inr ⟨H0.out, w3.heap.size, rfl, by simp, ?_⟩)⟩, (below_step hBr hb3).alloc (below_step hBr hb3).size _⟩
          rw [errV_pos A H0.out]
          simp
      · obtain rfl : n = k := by omega
        have HE2 : Hid (idxErr (enF n P V R K B) = firstE (lostE (enF n P V R K B)) n) := Lib.hid (by
          rw [HE1.out]; unfold orE; rw [firstE_none HA.out, if_neg (by decide)])
        have hE5 := hE.below hb
        clear HE1 HA hlt hk z1 hE hB hb
        go_wp2_with fail
        generalize wr = w5 at *
        go_loopw [29] (fun i wr => ∃ k : Nat, k ≤ n ∧ i = .int .i64 k ∧ Below w5.heap.size w5 wr ∧ Hid (∀ j, j < k → lostE (enF n P V R K B) j = 0)) (fun i _ => n - (intOf i).toNat)
        case atStart => exact ⟨0, Nat.zero_le _, rfl, Below.refl _ _, Lib.hid (fun j hj => absurd hj (Nat.not_lt_zero _))⟩
        case round =>
          obtain ⟨k, hk, rfl, hb, HA⟩ := hrel
          have hB6 := below_step hBr hb
          replace d1 := Below.cell_some hb d1
          by_cases hlt : k < n
          · have hkn : (k : Int) < (n : Int) := by omega
            obtain ⟨b1, o1, ea, hcell⟩ := (H.out.below hB6).at_ k hlt
            obtain ⟨a1, n1, s1, a2, n2, s2, e1, e2⟩ := H.out.forms hlt
            have hM := (H.out.below hB6).reqs k hlt
            have hsR := (HS.out.at_ hlt).2.2.2.1
            rw [e1, e2] at hcell
            rw [e1] at hM
            obtain ⟨aM, nM, cM, P2, V2, e3, e4, h5, h6, h7⟩ := hM
            injection e3 with e5 e6 e7
            subst e5 e6 e7
            have hnM : n1 ≤ 1000000 := by have := hsR.1; rw [e4, mdF_length] at this; exact this
            have hba := below_alloc wr (.cells #[.string (P k), .string (V k), .slice a1 n1 s1, .slice a2 n2 s2, .bool (B k)] 62)
            have y2 : (wr.alloc (.cells #[.string (P k), .string (V k), .slice a1 n1 s1, .slice a2 n2 s2, .bool (B k)] 62)).cell? ⟨wr.heap.size, 2, none⟩ = some (.slice a1 n1 s1) := by simp
            have hB7 := below_step hB6 hba
            have hb7 := below_step hb hba
            have hcm := containsMf_calls 132 #[.pointer (some ⟨w.heap.size, 0, none⟩)] Tryz.enters_icheck1 (lost (enF n P V R K B)) a1 n1 s1 (wr.alloc (.cells #[.string (P k), .string (V k), .slice a1 n1 s1, .slice a2 n2 s2, .bool (B k)] 62)).heap.size P2 V2 (wr.alloc (.cells #[.string (P k), .string (V k), .slice a1 n1 s1, .slice a2 n2 s2, .bool (B k)] 62)) hnM (Nat.le_refl _)
              (fun j hj => let ⟨b, o, e, h1, h2⟩ := h7 j hj; ⟨b, o, e, Below.cell_some hba h1, Below.cell_some hba h2⟩)
              (fun W hW j hj => idxCheck1_calls a n cap P V R K B Rv Kv w.heap.size (P2 j) (V2 j) W ((H.out.below hB7).below hW) hn (Below.cell_some hW (Below.cell_some hba d1)))
            have hR : lostE (enF n P V R K B) k = if (mdF n1 P2 V2).any (lost (enF n P V R K B)) = true then 5 else 0 := by
              unfold lostE
              rw [enAt_enF hlt]
              show (if (R k).any _ = true then 5 else 0) = _
              rw [e4]
            have hE7 := hE5.below hb7
            subst ea
            obtain ⟨c0, c1, c2, c3, c4⟩ := hcell
            clear e1 e2 e4 h5 h6 h7 hsR hnM hB6
            cases hX : (mdF n1 P2 V2).any (lost (enF n P V R K B)) with
            | false =>
              rw [hX] at hcm
              rw [hX, if_neg (by decide)] at hR
              have HN : Hid (∀ j, j < k + 1 → lostE (enF n P V R K B) j = 0) := Lib.hid (fun j hj => by
                by_cases e : j = k
                · subst e; exact hR
                · exact HA.out j (by omega))
              clear hX hR
              replace hcm := Lib.hid hcm
              go_wp2_with fail
              refine hcm.out.mono ?_
              rintro e w8 ⟨rfl, hb8⟩
              go_wp2_with fail
              go_roundw
              case rel => exact ⟨k + 1, by omega, by go_num, below_step hb7 hb8, HN⟩
              case measure => simp [intOf]; omega
            | true =>
              rw [hX] at hcm
              rw [hX, if_pos rfl] at hR
              have HF : Hid (idxErr (enF n P V R K B) = (5, (k : Int))) := Lib.hid (by
                rw [HE2.out, firstE_hit (by rw [hR]; decide) HA.out hlt, hR])
              clear hX hR
              replace hcm := Lib.hid hcm
              go_wp2_with fail
              refine hcm.out.mono ?_
              rintro e w8 ⟨rfl, hb8⟩
              have hE8 := hE7.below hb8
              have g5 := hE8.errs.var 5 hks.2.2.1
              simp only [errG] at g5
              go_wp2_with fail
              go_ret
              rw [HF.out]
              refine ⟨⟨_, rfl, .inr (.inr ⟨(show (5 : Nat) ≠ 0 by decide), w8.heap.size, rfl, by simp, ?_⟩)⟩, (below_step hB7 hb8).alloc (below_step hB7 hb8).size _⟩
              show _ = some (errV A 5)
              rw [errV_pos A (show (5 : Nat) ≠ 0 by decide)]
              simp
          · obtain rfl : n = k := by omega
            have HF : Hid (idxErr (enF n P V R K B) = (0, -1)) := Lib.hid (by rw [HE2.out, firstE_none HA.out])
            go_wp2_with fail
            go_ret
            rw [HF.out]
            exact ⟨⟨_, rfl, .inl ⟨rfl, rfl, rfl⟩⟩, hB6⟩
end Go.Proofs.Pw

namespace Go.Proofs.Pw
open Go.Lib hiding intOf
inductive Reached (l : List En) (roots : List Md) : Md → Prop
  | root {m : Md} : m ∈ roots → Reached l roots m
  | step {e : En} {r : Md} : e ∈ l → Reached l roots e.md → r ∈ e.reqs → Reached l roots r
noncomputable def isReached (l : List En) (roots : List Md) (m : Md) : Bool := @decide (Reached l roots m) (Classical.propDecidable _)
theorem isReached_iff {l : List En} {roots : List Md} {m : Md} : isReached l roots m = true ↔ Reached l roots m := by
  unfold isReached
  exact @decide_eq_true_iff _ (Classical.propDecidable _)
noncomputable def reachL (l : List En) (roots : List Md) : List Md := (l.map (·.md)).filter (isReached l roots)
def rootE (l : List En) (roots : List Md) (i : Nat) : Nat := if findE l (mdAt roots i) < 0 then 5 else 0
def rootsErr (l : List En) (roots : List Md) : Nat × Int := firstE (rootE l roots) roots.length
def startErr (l : List En) (roots : List Md) : Nat × Int := orE (idxErr l) (rootsErr l roots)
structure RightG (l : List En) (roots : List Md) : Prop where
  idx : RightI l
  at_ : ∀ m ∈ roots, ∃ e ∈ l, e.md = m
theorem rootsErr_zero {l : List En} {roots : List Md} : (rootsErr l roots).1 = 0 ↔ ∀ m ∈ roots, ∃ e ∈ l, e.md = m := by
  constructor
  · intro h m hm
    obtain ⟨i, hi⟩ := List.getElem?_of_mem hm
    have hl := (List.getElem?_eq_some_iff.1 hi).1
    have h1 := firstE_zero h i hl
    unfold rootE at h1
    rw [mdAt_get hl] at hi
    rw [Option.some.inj hi] at h1
    by_cases h2 : findE l m < 0
    · rw [if_pos h2] at h1; cases h1
    · obtain ⟨k, _, hk, e⟩ := findE_nat h2
      exact ⟨_, enAt_mem hk, e⟩
  · intro h
    unfold rootsErr
    rw [firstE_none fun i hi => ?_]
    unfold rootE
    rw [if_neg]
    rw [findE_lt]
    obtain ⟨e, he, h1⟩ := h _ (mdAt_mem hi)
    exact fun h2 => h2 e he h1
theorem rightG_of {l : List En} {roots : List Md} (h : (startErr l roots).1 = 0) : RightG l roots := by
  unfold startErr at h
  rw [orE_zero] at h
  exact ⟨rightI_of h.1, rootsErr_zero.1 h.2⟩
theorem startErr_app {l : List En} {a b : List Md} : (startErr l (a ++ b)).1 = 0 ↔ (startErr l a).1 = 0 ∧ (startErr l b).1 = 0 := by
  unfold startErr
  rw [orE_zero, orE_zero, orE_zero, rootsErr_zero, rootsErr_zero, rootsErr_zero]
  constructor
  · rintro ⟨h1, h2⟩
    exact ⟨⟨h1, fun m hm => h2 m (by simp [hm])⟩, h1, fun m hm => h2 m (by simp [hm])⟩
  · rintro ⟨⟨h1, h2⟩, _, h3⟩
    refine ⟨h1, fun m hm => ?_⟩
    rcases List.mem_append.1 hm with h | h
    · exact h2 m h
    · exact h3 m h
theorem startErr_at {l : List En} {roots : List Md} (h : (startErr l roots).1 = 0) : startErr l roots = (0, -1) := by
  unfold startErr at h ⊢
  rw [orE_zero] at h
  unfold orE
  rw [if_neg (by simp [h.1])]
  unfold rootsErr at h ⊢
  exact firstE_none (firstE_zero h.2)
theorem reached_closed {l : List En} {roots T : List Md} (h1 : ∀ m ∈ roots, m ∈ T) (h2 : ∀ e ∈ l, e.md ∈ T → ∀ r ∈ e.reqs, r ∈ T) {m : Md} (h : Reached l roots m) : m ∈ T := by
  induction h with
  | root hm => exact h1 _ hm
  | step he _ hr ih => exact h2 _ he ih _ hr
theorem RightG.entry {l : List En} {roots : List Md} (h : RightG l roots) {m : Md} (hm : Reached l roots m) : ∃ e ∈ l, e.md = m := by
  induction hm with
  | root hm => exact h.at_ _ hm
  | step he _ hr _ => exact h.idx.all _ he _ hr
theorem RightG.mem {l : List En} {roots : List Md} (h : RightG l roots) {m : Md} : m ∈ reachL l roots ↔ Reached l roots m := by
  unfold reachL
  rw [List.mem_filter, isReached_iff]
  exact ⟨fun h => h.2, fun hm => by
    obtain ⟨e, he, h1⟩ := h.entry hm
    exact ⟨List.mem_map.2 ⟨e, he, h1⟩, hm⟩⟩
theorem reachL_rises {l : List En} (h : RightI l) (roots : List Md) : Rises modCmp (reachL l roots) := List.Pairwise.sublist List.filter_sublist h.rise
theorem RightG.is {l : List En} {roots x : List Md} (h : RightG l roots) (hx : Rises modCmp x) (hm : ∀ m, m ∈ x ↔ Reached l roots m) : x = reachL l roots :=
  rises_ext modCmp_ord hx (reachL_rises h.idx roots) fun m => by rw [hm, h.mem]
theorem reached_sub {l : List En} {a b : List Md} (h : ∀ m ∈ a, Reached l b m) {m : Md} (hm : Reached l a m) : Reached l b m := by
  induction hm with
  | root hm => exact h _ hm
  | step he _ hr ih => exact .step he ih hr
theorem reached_app {l : List En} {a b : List Md} {m : Md} : Reached l (a ++ b) m ↔ Reached l a m ∨ Reached l b m := by
  constructor
  · intro h
    induction h with
    | root hm =>
      rcases List.mem_append.1 hm with h | h
      · exact .inl (.root h)
      · exact .inr (.root h)
    | step he _ hr ih =>
      rcases ih with h | h
      · exact .inl (.step he h hr)
      · exact .inr (.step he h hr)
  · rintro (h | h)
    · exact reached_sub (fun m hm => .root (by simp [hm])) h
    · exact reached_sub (fun m hm => .root (by simp [hm])) h
theorem RightG.right {l : List En} {roots : List Md} (h : RightG l roots) {m : Md} (hm : Reached l roots m) : mdErr m = 0 := by
  obtain ⟨e, he, rfl⟩ := h.entry hm
  exact h.idx.mds e he
end Go.Proofs.Pw

namespace Go.Proofs.Pw
open Go.RowKit
open Go.Lib hiding intOf
set_option maxHeartbeats 4000000 in
set_option maxRecDepth 100000 in
theorem grStart_in (ks : List Nat) (A : Nat → Addr) (hks : IdxKs ks) (a : Option Addr) (n cap : Nat) (P V : Nat → ByteArray) (R : Nat → List Md) (K : Nat → List Str) (B : Nat → Bool) (Rv Kv : Nat → Value) (rv : Value) (roots : List Md) (w : World) (hE : EnvP ks A w) (h : EntsIn w a n cap P V R K B Rv Kv) (hs : ShortI (enF n P V R K B)) (hr : ModsAt w rv roots) (hl : roots.length ≤ 1000000) :
    Calls Tryz.prog 64 #[.slice a n cap, rv] w fun e w' => (∃ v, e = .returned v ∧ FaultAt A w' v (startErr (enF n P V R K B) roots)) ∧ Below w.heap.size w w' := by
  have hn : n ≤ 1000000 := by have := hs.len; rw [enF_length] at this; exact this
  have hck := idxCheck_in ks A hks a n cap P V R K B Rv Kv w hE h hs
  have HE : Hid (startErr (enF n P V R K B) roots = orE (idxErr (enF n P V R K B)) (firstE (rootE (enF n P V R K B) roots) roots.length)) := Lib.hid rfl
  have H := Lib.hid h
  clear h hs
  obtain ⟨ar, rn, rc, P2, V2, rfl, rfl, h5, h6, h7⟩ := hr
  rw [mdF_length] at hl HE
  replace hck := Lib.hid hck
  replace h7 := Lib.hid h7
  clear h5 h6
  go_enter Tryz.func64, Tryz.ntmps64
  go_wp2_with fail
  refine hck.out.mono ?_
  rintro e w1 ⟨⟨v, rfl, hv⟩, hB⟩
  have hE1 := hE.below hB
  clear hck hE
  rcases fault_form hv with ⟨h0, rfl⟩ | ⟨h0, ty, q, rfl⟩
  · have HE1 : Hid (startErr (enF n P V R K B) (mdF rn P2 V2) = firstE (rootE (enF n P V R K B) (mdF rn P2 V2)) rn) := Lib.hid (by rw [HE.out]; unfold orE; rw [if_neg (by simp [h0])])
    clear HE h0 hv
    go_wp2_with fail
    go_loopw [15] (fun i wr => ∃ k : Nat, k ≤ rn ∧ i = .int .i64 k ∧ Below w1.heap.size w1 wr ∧ Hid (∀ j, j < k → rootE (enF n P V R K B) (mdF rn P2 V2) j = 0)) (fun i _ => rn - (intOf i).toNat)
    case atStart => exact ⟨0, Nat.zero_le _, rfl, Below.refl _ _, Lib.hid (fun j hj => absurd hj (Nat.not_lt_zero _))⟩
    case round =>
      obtain ⟨k, hk, rfl, hb, HA⟩ := hrel
      have hBr := below_step hB hb
      by_cases hlt : k < rn
      · have hkn : (k : Int) < (rn : Int) := by omega
        obtain ⟨b1, o1, ea, c0, c1⟩ := h7.out k hlt
        replace c0 := Below.cell_some hBr c0
        replace c1 := Below.cell_some hBr c1
        have hba := below_alloc wr (.cells #[.string (P2 k), .string (V2 k)] 47)
        obtain ⟨y0, y1, _⟩ := box2_alloc wr (.string (P2 k)) (.string (V2 k)) 47
        have hB2 := below_step hBr hba
        have hb2 := below_step hb hba
        have hE2 := hE1.below hb2
        have hf := idxFind_in a n cap P V R K B Rv Kv (P2 k) (V2 k) (wr.alloc (.cells #[.string (P2 k), .string (V2 k)] 47)) (H.out.below hB2) hn
        have hR : rootE (enF n P V R K B) (mdF rn P2 V2) k = if findE (enF n P V R K B) ((P2 k).data.toList, (V2 k).data.toList) < 0 then 5 else 0 := by
          unfold rootE
          rw [mdAt_mdF hlt]
        generalize findE (enF n P V R K B) ((P2 k).data.toList, (V2 k).data.toList) = x at hf hR
        subst ea
        replace hf := Lib.hid hf
        by_cases hx : x < 0
        · rw [if_pos hx] at hR
          have HF : Hid (startErr (enF n P V R K B) (mdF rn P2 V2) = (5, (k : Int))) := Lib.hid (by rw [HE1.out, firstE_hit (by rw [hR]; decide) HA.out hlt, hR])
          clear hR hk
          go_wp2_with fail
          refine hf.out.mono ?_
          rintro e w8 ⟨rfl, hb8⟩
          have hE8 := hE2.below hb8
          have g5 := hE8.errs.var 5 hks.2.2.1
          simp only [errG] at g5
          go_wp2_with fail
          go_ret
          rw [HF.out]
          refine ⟨⟨_, rfl, .inr (.inr ⟨(show (5 : Nat) ≠ 0 by decide), w8.heap.size, rfl, by simp, ?_⟩)⟩, (below_step hB2 hb8).alloc (below_step hB2 hb8).size _⟩
          show _ = some (errV A 5)
          rw [errV_pos A (show (5 : Nat) ≠ 0 by decide)]
          simp
        · rw [if_neg hx] at hR
          have HN : Hid (∀ j, j < k + 1 → rootE (enF n P V R K B) (mdF rn P2 V2) j = 0) := Lib.hid (fun j hj => by
            by_cases e : j = k
            · subst e; exact hR
            · exact HA.out j (by omega))
          clear hR hk
          go_wp2_with fail
          refine hf.out.mono ?_
          rintro e w8 ⟨rfl, hb8⟩
          go_wp2_with fail
          go_roundw
          case rel => exact ⟨k + 1, by omega, by go_num, below_step hb2 hb8, HN⟩
          case measure => simp [intOf]; omega
      · obtain rfl : rn = k := by omega
        have HF : Hid (startErr (enF n P V R K B) (mdF rn P2 V2) = (0, -1)) := Lib.hid (by rw [HE1.out, firstE_none HA.out])
        go_wp2_with fail
        go_ret
        rw [HF.out]
        exact ⟨⟨_, rfl, .inl ⟨rfl, rfl, rfl⟩⟩, hBr⟩
  · have HF : Hid (startErr (enF n P V R K B) (mdF rn P2 V2) = idxErr (enF n P V R K B)) := Lib.hid (by rw [HE.out]; unfold orE; rw [if_pos h0])
    have HV := Lib.hid hv
    clear hv h0
    go_wp2_with fail
    go_ret
    rw [HF.out]
    exact ⟨⟨_, rfl, HV.out⟩, hB⟩
end Go.Proofs.Pw
