/- St: walks and plain laws, joined: IdxEnt IdxCheck Own GrMath GrStart MapMd GrCome GrWalkMath GrWalk. Conditions: at each theorem. -/
import Derived.Test.YtglhgbcebpeomaaGreatDoorStk
import Derived.Test.YtglhgbcebpeomaaGreatDoorStj
import Derived.Deep.AppendLies
import Derived.Deep.RegionLaw
import Derived.Test.YtglhgbcebpeomaaGreatDoorStc
import Derived.MapKept
import Derived.Carry
import Derived.DeepKeys3
import Derived.Laws.Entries
import Derived.Deep.RegionWith

namespace Go.Proofs.Pw
open Go.RowKit
open Go.Lib hiding intOf
theorem reqsE_of (e : En) : reqsErr e = reqsE e.md.1 e.reqs := rfl
theorem packsE_of (e : En) : packsErr e = packsE e.packs := rfl
def stagesE (a : Nat) (b : Bool) (c d : Nat) : Nat := if a ≠ 0 then a else if b = true then 8 else if c ≠ 0 then c else d
theorem entErr_stages (l : List En) (i : Nat) : entErr l i = stagesE (mdErr (enAt l i).md) (decide (0 < i ∧ modAhead (enAt l (i - 1)).md (enAt l i).md = false)) (reqsErr (enAt l i)) (packsErr (enAt l i)) := by
  unfold entErr stagesE
  simp only [decide_eq_true_eq]
set_option maxHeartbeats 4000000 in
set_option maxRecDepth 100000 in
theorem idxEntry_calls (ks : List Nat) (A : Nat → Addr) (hks : IdxKs ks) (a : Option Addr) (n cap : Nat) (P V : Nat → ByteArray) (R : Nat → List Md) (K : Nat → List Str) (B : Nat → Bool) (Rv Kv : Nat → Value) (i : Nat) (w : World) (hE : EnvP ks A w) (h : EntsIn w a n cap P V R K B Rv Kv) (hs : ShortI (enF n P V R K B)) (hi : i < n) :
    Calls Tryz.prog 121 #[.slice a n cap, .int .i64 i] w fun e w' => e = .returned (errV A (entErr (enF n P V R K B) i)) ∧ Below w.heap.size w w' := by
  have hB := Below.refl w.heap.size w
  obtain ⟨hn, hp1, hv1, hsr, hk1, hk2⟩ := hs.at_ hi
  have HS0 := entErr_stages (enF n P V R K B) i
  rw [reqsE_of, packsE_of, enAt_enF hi] at HS0
  have hck := fun W hW => modCheck_calls ks A hks.2.1 (P i) (V i) W hW (by omega) (by omega)
  obtain ⟨b1, o1, ea, hcell⟩ := h.at_ i hi
  obtain ⟨a1, n1, s1, a2, n2, s2, e1, e2⟩ := h.forms hi
  have hrq := fun W (hW : EnvP ks A W) (hb : Below w.heap.size w W) => idxReqs_calls ks A hks (P i) (V i) (Rv i) a2 n2 s2 (B i) (R i) W hW ((h.reqs i hi).below hb) hsr
  have hpk := fun W (hW : EnvP ks A W) (hb : Below w.heap.size w W) => idxPacks_calls ks A hks (P i) (V i) (Kv i) a1 n1 s1 (B i) (K i) W hW ((h.packs i hi).below hb) hk1 hk2
  rw [e1, e2] at hcell
  simp only [e1] at hrq
  simp only [e2] at hpk
  have hki : (i : Int) < (n : Int) := by omega
  by_cases h0 : modErr (P i).data.toList (V i).data.toList = 0
  · rw [h0, errV_zero] at hck
    by_cases hi0 : i = 0
    · subst hi0
      rw [decide_eq_false (p := _ ∧ _) (fun h => absurd h.1 (by omega))] at HS0
      have HS := Lib.hid HS0
      clear HS0
      simp only [Nat.zero_mul, Nat.add_zero] at hcell
      subst ea
      replace hck := Lib.hid hck
      replace h0 := Lib.hid h0
      clear h hs e1 e2
      obtain ⟨c0, c1, c2, c3, c4⟩ := id hcell
      go_enter Tryz.func121, Tryz.ntmps121
      go_wp2_with fail
      refine (hck.out _ hE).mono ?_
      rintro e w1 ⟨rfl, hb⟩
      replace hB := below_step hB hb
      replace hE := hE.below hb
      replace hcell := hcell.below hb
      clear hb
      clear c0 c1 c2 c3 c4
      go_wp2_with fail
      refine wp_region_quiet_patch (by kernel_rfl) (by kernel_rfl) ?_
      repeat (go_big_quiet_step (fail))
      refine wpQuiet_nil ?_
      intro _ hw'
      obtain ⟨⟨dq, osq⟩, hw''⟩ := hw'
      subst hw''
      have hb := below_patch w1 dq osq
      replace hB := below_step hB hb
      replace hE := hE.below hb
      replace hcell := hcell.below hb
      clear hb
      generalize patch w1 dq osq = w2 at hB hE hcell ⊢
      obtain ⟨c0, c1, c2, c3, c4⟩ := id hcell
      cases hq : decide (reqsE (P 0).data.toList (R 0) = 0) with
      | true =>
        have hq := of_decide_eq_true hq
        rw [hq, errV_zero] at hrq
        have HF2 : Hid (entErr (enF n P V R K B) 0 = packsE (K 0)) := Lib.hid (by rw [HS.out]; unfold stagesE; rw [if_neg (fun h => h h0.out), if_neg (by simp), if_neg (by simp [hq])])
        replace hrq := Lib.hid hrq
        replace hpk := Lib.hid hpk
        clear hq
        go_wp2_with fail
        refine (hrq.out _ hE hB).mono ?_
        rintro e w5 ⟨rfl, hb⟩
        replace hB := below_step hB hb
        replace hE := hE.below hb
        replace hcell := hcell.below hb
        clear hb
        clear c0 c1 c2 c3 c4
        obtain ⟨c0, c1, c2, c3, c4⟩ := id hcell
        go_wp2_with fail
        refine (hpk.out _ hE hB).mono ?_
        rintro e w6 ⟨rfl, hb⟩
        have hB6 := below_step hB hb
        go_wp2_with fail
        go_ret
        rw [HF2.out]
        exact ⟨rfl, hB6⟩
      | false =>
        have hq := of_decide_eq_false hq
        have HF2 : Hid (entErr (enF n P V R K B) 0 = reqsE (P 0).data.toList (R 0)) := Lib.hid (by rw [HS.out]; unfold stagesE; rw [if_neg (fun h => h h0.out), if_neg (by simp), if_pos hq])
        have HF3 : Hid (errV A (reqsE (P 0).data.toList (R 0)) = .iface 371 (.pointer (some (A (reqsE (P 0).data.toList (R 0)))))) := Lib.hid (errV_pos A hq)
        rw [errV_pos A hq] at hrq
        replace hrq := Lib.hid hrq
        replace hpk := Lib.hid hpk
        clear hq
        go_wp2_with fail
        refine (hrq.out _ hE hB).mono ?_
        rintro e w5 ⟨rfl, hb⟩
        have hB5 := below_step hB hb
        go_wp2_with fail
        go_ret
        rw [HF2.out, HF3.out]
        exact ⟨rfl, hB5⟩
    · obtain ⟨k, rfl⟩ : ∃ k, i = k + 1 := ⟨i - 1, by omega⟩
      have hkn : k < n := by omega
      obtain ⟨_, hp2, hv2, _, _, _⟩ := hs.at_ hkn
      rw [Nat.add_sub_cancel, enAt_enF hkn] at HS0
      have hk0 : (0 : Int) < ((k + 1 : Nat) : Int) := by omega
      have hk1' : ((k + 1 : Nat) : Int) - 1 = (k : Int) := by omega
      have hkw := wrap_nat k (by omega)
      have hkw1 := wrap_nat (k + 1) (by omega)
      have hkn2 : (k : Int) < (n : Int) := by omega
      have hkn3 : (k : Int) + 1 < (n : Int) := by omega
      have hkn4 : ((k : Int) + 1).toNat = k + 1 := by omega
      have hkn5 : (0 : Int) ≤ (k : Int) + 1 := by omega
      have hkn6 : ¬ ((k : Int) + 1 < 0) := by omega
      obtain ⟨b2, o2, eb, hcell2⟩ := h.at_ k hkn
      rw [ea] at eb
      injection eb with eb
      injection eb with eb1 eb2
      subst eb1 eb2
      obtain ⟨d0, d1, d2, d3, d4⟩ := hcell2
      subst ea
      have hah := fun W hW => modAhead_calls ks A (P k) (V k) (P (k + 1)) (V (k + 1)) W hW (by omega) (by omega)
      cases hX : modAhead ((P k).data.toList, (V k).data.toList) ((P (k + 1)).data.toList, (V (k + 1)).data.toList) with
      | true =>
        rw [hX] at hah
        rw [decide_eq_false (p := _ ∧ _) (fun h => by rw [hX] at h; cases h.2)] at HS0
        have HS := Lib.hid HS0
        clear HS0
        replace hck := Lib.hid hck
        replace hah := Lib.hid hah
        replace h0 := Lib.hid h0
        clear h hs e1 e2 hX d2 d3 d4
        obtain ⟨c0, c1, c2, c3, c4⟩ := id hcell
        go_enter Tryz.func121, Tryz.ntmps121
        go_wp2_with fail
        refine (hck.out _ hE).mono ?_
        rintro e w1 ⟨rfl, hb⟩
        replace hB := below_step hB hb
        replace hE := hE.below hb
        replace hcell := hcell.below hb
        replace c0 := Below.cell_some hb c0
        replace c1 := Below.cell_some hb c1
        replace d0 := Below.cell_some hb d0
        replace d1 := Below.cell_some hb d1
        clear hb
        go_wp2_with fail
        have kE := Lib.hid (fun d os => hE.below (below_patch w1 d os))
        have kqc0 := fun d os => cell_patch (d := d) (os := os) c0
        have kqc1 := fun d os => cell_patch (d := d) (os := os) c1
        have kqd0 := fun d os => cell_patch (d := d) (os := os) d0
        have kqd1 := fun d os => cell_patch (d := d) (os := os) d1
        refine wp_region_quiet_patch (by kernel_rfl) (by kernel_rfl) ?_
        repeat (go_big_quiet_step ((go_at_call 63; with_reducible exact Calls.patch_of (hah.out _ (kE.out _ _)))))
        refine wpQuiet_nil ?_
        intro _ hw'
        obtain ⟨⟨dq, osq⟩, hw''⟩ := hw'
        subst hw''
        clear kqc0 kqc1 kqd0 kqd1
        have hb := below_patch w1 dq osq
        replace hB := below_step hB hb
        replace hE := hE.below hb
        replace hcell := hcell.below hb
        clear hb
        generalize patch w1 dq osq = w2 at hB hE hcell ⊢
        clear c0 c1 c2 c3 c4 d0 d1
        obtain ⟨c0, c1, c2, c3, c4⟩ := id hcell
        cases hq : decide (reqsE (P (k + 1)).data.toList (R (k + 1)) = 0) with
        | true =>
          have hq := of_decide_eq_true hq
          rw [hq, errV_zero] at hrq
          have HF2 : Hid (entErr (enF n P V R K B) (k + 1) = packsE (K (k + 1))) := Lib.hid (by rw [HS.out]; unfold stagesE; rw [if_neg (fun h => h h0.out), if_neg (by simp), if_neg (by simp [hq])])
          replace hrq := Lib.hid hrq
          replace hpk := Lib.hid hpk
          clear hq
          go_wp2_with fail
          refine (hrq.out _ hE hB).mono ?_
          rintro e w5 ⟨rfl, hb⟩
          replace hB := below_step hB hb
          replace hE := hE.below hb
          replace hcell := hcell.below hb
          clear hb
          clear c0 c1 c2 c3 c4
          obtain ⟨c0, c1, c2, c3, c4⟩ := id hcell
          go_wp2_with fail
          refine (hpk.out _ hE hB).mono ?_
          rintro e w6 ⟨rfl, hb⟩
          have hB6 := below_step hB hb
          go_wp2_with fail
          go_ret
          rw [HF2.out]
          exact ⟨rfl, hB6⟩
        | false =>
          have hq := of_decide_eq_false hq
          have HF2 : Hid (entErr (enF n P V R K B) (k + 1) = reqsE (P (k + 1)).data.toList (R (k + 1))) := Lib.hid (by rw [HS.out]; unfold stagesE; rw [if_neg (fun h => h h0.out), if_neg (by simp), if_pos hq])
          have HF3 : Hid (errV A (reqsE (P (k + 1)).data.toList (R (k + 1))) = .iface 371 (.pointer (some (A (reqsE (P (k + 1)).data.toList (R (k + 1))))))) := Lib.hid (errV_pos A hq)
          rw [errV_pos A hq] at hrq
          replace hrq := Lib.hid hrq
          replace hpk := Lib.hid hpk
          clear hq
          go_wp2_with fail
          refine (hrq.out _ hE hB).mono ?_
          rintro e w5 ⟨rfl, hb⟩
          have hB5 := below_step hB hb
          go_wp2_with fail
          go_ret
          rw [HF2.out, HF3.out]
          exact ⟨rfl, hB5⟩
      | false =>
        rw [hX] at hah
        rw [decide_eq_true (p := _ ∧ _) ⟨Nat.succ_pos k, hX⟩] at HS0
        have HF : Hid (entErr (enF n P V R K B) (k + 1) = 8) := Lib.hid (by rw [HS0]; unfold stagesE; rw [if_neg (by show ¬ mdErr _ ≠ 0; simp [mdErr, h0]), if_pos rfl])
        clear HS0
        replace hck := Lib.hid hck
        replace hah := Lib.hid hah
        replace h0 := Lib.hid h0
        obtain ⟨c0, c1, c2, c3, c4⟩ := hcell
        clear h hs e1 e2 hX d2 d3 d4 c2 c3 c4 hrq hpk
        go_enter Tryz.func121, Tryz.ntmps121
        go_wp2_with fail
        refine (hck.out _ hE).mono ?_
        rintro e w1 ⟨rfl, hb⟩
        replace hB := below_step hB hb
        replace hE := hE.below hb
        replace c0 := Below.cell_some hb c0
        replace c1 := Below.cell_some hb c1
        replace d0 := Below.cell_some hb d0
        replace d1 := Below.cell_some hb d1
        clear hb
        go_wp2_with fail
        have kE := Lib.hid (fun d os => hE.below (below_patch w1 d os))
        have kqc0 := fun d os => cell_patch (d := d) (os := os) c0
        have kqc1 := fun d os => cell_patch (d := d) (os := os) c1
        have kqd0 := fun d os => cell_patch (d := d) (os := os) d0
        have kqd1 := fun d os => cell_patch (d := d) (os := os) d1
        refine wp_region_quiet_patch (by kernel_rfl) (by kernel_rfl) ?_
        repeat (go_big_quiet_step ((go_at_call 63; with_reducible exact Calls.patch_of (hah.out _ (kE.out _ _)))))
        refine wpQuiet_nil ?_
        intro _ hw'
        obtain ⟨⟨dq, osq⟩, hw''⟩ := hw'
        subst hw''
        clear kqc0 kqc1 kqd0 kqd1
        have hb := below_patch w1 dq osq
        replace hB := below_step hB hb
        replace hE := hE.below hb
        clear hb
        generalize patch w1 dq osq = w2 at hB hE ⊢
        clear c0 c1 d0 d1
        have g8 := hE.errs.var 8 hks.2.2.2.2
        simp only [errG] at g8
        go_wp2_with fail
        go_ret
        rw [HF.out]
        exact ⟨rfl, hB⟩
  · have HF : Hid (errV A (entErr (enF n P V R K B) i) = .iface 371 (.pointer (some (A (modErr (P i).data.toList (V i).data.toList))))) := Lib.hid (by
      rw [HS0]
      unfold stagesE
      rw [if_pos (by exact h0)]
      exact errV_pos A h0)
    rw [errV_pos A h0] at hck
    subst ea
    replace hck := Lib.hid hck
    obtain ⟨c0, c1, c2, c3, c4⟩ := hcell
    clear h hs e1 e2 hrq hpk HS0 c2 c3 c4
    go_enter Tryz.func121, Tryz.ntmps121
    go_wp2_with fail
    refine (hck.out _ hE).mono ?_
    rintro e w1 ⟨rfl, hb⟩
    replace hB := below_step hB hb
    clear hb
    go_wp2_with fail
    go_ret
    rw [HF.out]
    exact ⟨rfl, hB⟩
end Go.Proofs.Pw

namespace Go.Proofs.Pw
open Go.RowKit
open Go.Lib hiding intOf
theorem any_findI {α : Type} {p : α → Bool} {l : List α} : l.any p = true ↔ 0 ≤ findI p l := by
  by_cases h : findI p l < 0
  · refine iff_of_false (fun h2 => ?_) (by omega)
    obtain ⟨x, hx, h3⟩ := List.any_eq_true.1 h2
    have := findI_eq_none.1 h x hx
    rw [this] at h3; cases h3
  · refine iff_of_true ?_ (by omega)
    obtain ⟨x, hx, h3⟩ := findI_spec (show findI p l = ((findI p l).toNat : Int) by omega)
    exact List.any_eq_true.2 ⟨x, List.mem_of_getElem? hx, h3⟩
theorem containsMf_calls (g : Nat) (lb : Array Value) (eg : ∀ args w, (callFunc g args).run Tryz.prog w = .ok (.enter g args) w) (p : Md → Bool) (a : Option Addr) (n cap base : Nat) (P V : Nat → ByteArray) (w : World) (hn : n ≤ 1000000) (hbase : base ≤ w.heap.size)
    (hc : ∀ j, j < n → ∃ b o, a = some ⟨b, o, none⟩ ∧ w.cell? ⟨b, o + j * 2, none⟩ = some (.string (P j)) ∧ w.cell? ⟨b, o + j * 2 + 1, none⟩ = some (.string (V j))) (hT : TestsM g lb p n P V base w) :
    Calls Tryz.prog 117 #[.slice a n cap, .func (.func g) #[] lb] w fun e w' => e = .returned (.bool ((mdF n P V).any p)) ∧ Below w.heap.size w w' := by
  have hi := indexFuncM_calls g lb eg p a n cap base P V w hn hbase hc hT
  have hany := any_findI (p := p) (l := mdF n P V)
  generalize (mdF n P V).any p = X at hany ⊢
  generalize findI p (mdF n P V) = i at hany hi
  replace hi := Lib.hid hi
  clear hc hT
  go_enter Tryz.func117, Tryz.ntmps117
  go_wp2_with fail
  refine hi.out.mono ?_
  rintro e w1 ⟨rfl, hb⟩
  cases X with
  | true =>
    have h0 := hany.1 rfl
    clear hany
    go_wp2_with fail
    go_ret
    exact ⟨rfl, hb⟩
  | false =>
    have h0 : ¬ (0 ≤ i) := fun h => by have := hany.2 h; cases this
    clear hany
    go_wp2_with fail
    go_ret
    refine ⟨?_, hb⟩
    show Ending.returned (Value.bool (decide (0 ≤ i))) = _
    rw [decide_eq_false (by omega)]
theorem Tryz.enters_icheck1 : ∀ args w, (callFunc 122 args).run Tryz.prog w = .ok (.enter 122 args) w := Go.Proofs.enters_of Tryz.func122 (by kernel_rfl) rfl
theorem idxCheck1_calls (a : Option Addr) (n cap : Nat) (P V : Nat → ByteArray) (R : Nat → List Md) (K : Nat → List Str) (B : Nat → Bool) (Rv Kv : Nat → Value) (b : Nat) (p v : ByteArray) (w : World) (h : EntsIn w a n cap P V R K B Rv Kv) (hl : n ≤ 1000000) (z : w.cell? ⟨b, 0, none⟩ = some (.slice a n cap)) :
    Calls Tryz.prog 122 #[.agg #[.string p, .string v], .pointer (some ⟨b, 0, none⟩)] w fun e w' => e = .returned (.bool (lost (enF n P V R K B) (p.data.toList, v.data.toList))) ∧ Below w.heap.size w w' := by
  have hb := below_alloc w (.cells #[.string p, .string v] 29)
  have hz := box2_alloc w (.string p) (.string v) 29
  have z1 := Below.cell_some hb z
  have hf := idxFind_in a n cap P V R K B Rv Kv p v (w.alloc (.cells #[.string p, .string v] 29)) (h.below hb) hl
  show Calls _ _ _ _ fun e w' => e = .returned (.bool (decide (findE (enF n P V R K B) (p.data.toList, v.data.toList) < 0))) ∧ Below w.heap.size w w'
  generalize findE (enF n P V R K B) (p.data.toList, v.data.toList) = x at hf ⊢
  replace hf := Lib.hid hf
  clear h z
  obtain ⟨y0, y1, _⟩ := hz
  go_enter Tryz.func122, Tryz.ntmps122
  go_wp2_with fail
  refine hf.out.mono ?_
  rintro e w1 ⟨rfl, hb1⟩
  go_wp2_with fail
  go_ret
  exact ⟨rfl, below_step hb hb1⟩
set_option maxHeartbeats 4000000 in
set_option maxRecDepth 100000 in
theorem idxCheck_in (ks : List Nat) (A : Nat → Addr) (hks : IdxKs ks) (a : Option Addr) (n cap : Nat) (P V : Nat → ByteArray) (R : Nat → List Md) (K : Nat → List Str) (B : Nat → Bool) (Rv Kv : Nat → Value) (w : World) (hE : EnvP ks A w) (h : EntsIn w a n cap P V R K B Rv Kv) (hs : ShortI (enF n P V R K B)) :
    Calls Tryz.prog 56 #[.slice a n cap] w fun e w' => (∃ v, e = .returned v ∧ FaultAt A w' v (idxErr (enF n P V R K B))) ∧ Below w.heap.size w w' := by
  have hB := below_alloc w (.cells #[.slice a n cap] 22)
  have z1 : (w.alloc (.cells #[.slice a n cap] 22)).cell? ⟨w.heap.size, 0, none⟩ = some (.slice a n cap) := by simp
  have hn : n ≤ 1000000 := by have := hs.len; rw [enF_length] at this; exact this
  replace hE := hE.below hB
  have HE : Hid (idxErr (enF n P V R K B) = if 100 < n then (7, -1) else orE (firstE (entErr (enF n P V R K B)) n) (firstE (lostE (enF n P V R K B)) n)) := Lib.hid (by unfold idxErr; rw [enF_length])
  have H := Lib.hid h
  have HS := Lib.hid hs
  clear h hs
  by_cases h100 : 100 < n
  · have h100' : (100 : Int) < (n : Int) := by omega
    have HF : Hid (idxErr (enF n P V R K B) = (7, -1)) := Lib.hid (by rw [HE.out, if_pos h100])
    have HR : Hid (∀ W, FaultAt A W (errV A 7) (7, -1)) := Lib.hid (fun W => .inr (.inl ⟨by decide, rfl, rfl⟩))
    rw [errV_pos A (c := 7) (by decide)] at HR
    have g7 := hE.errs.var 7 hks.2.2.2.1
    simp only [errG] at g7
    go_enter Tryz.func56, Tryz.ntmps56
    go_wp2_with fail
    go_ret
    rw [HF.out]
    exact ⟨⟨_, rfl, HR.out _⟩, hB⟩
  · have h100' : ¬ (100 : Int) < (n : Int) := by omega
    have HE1 : Hid (idxErr (enF n P V R K B) = orE (firstE (entErr (enF n P V R K B)) n) (firstE (lostE (enF n P V R K B)) n)) := Lib.hid (by rw [HE.out, if_neg h100])
    clear HE h100
    go_enter Tryz.func56, Tryz.ntmps56
    go_wp2_with fail
    generalize hw1 : w.alloc (.cells #[.slice a n cap] 22) = w1 at *
    clear hw1 h100'
    go_loopw [13] (fun i wr => ∃ k : Nat, k ≤ n ∧ i = .int .i64 k ∧ Below w1.heap.size w1 wr ∧ Hid (∀ j, j < k → entErr (enF n P V R K B) j = 0)) (fun i _ => n - (intOf i).toNat)
    case atStart => exact ⟨0, Nat.zero_le _, rfl, Below.refl _ _, Lib.hid (fun j hj => absurd hj (Nat.not_lt_zero _))⟩
    case round =>
      obtain ⟨k, hk, rfl, hb, HA⟩ := hrel
      have hBr := below_step hB hb
      have d1 := Below.cell_some hb z1
      by_cases hlt : k < n
      · have hkn : (k : Int) < (n : Int) := by omega
        have hen := idxEntry_calls ks A hks a n cap P V R K B Rv Kv k wr (hE.below hb) (H.out.below hBr) HS.out hlt
        by_cases h0 : entErr (enF n P V R K B) k = 0
        · have HN : Hid (∀ j, j < k + 1 → entErr (enF n P V R K B) j = 0) := Lib.hid (fun j hj => by
            by_cases e : j = k
            · subst e; exact h0
            · exact HA.out j (by omega))
          rw [h0, errV_zero] at hen
          clear h0
          replace hen := Lib.hid hen
          go_wp2_with fail
          refine hen.out.mono ?_
          rintro e w3 ⟨rfl, hb3⟩
          go_wp2_with fail
          go_roundw
          case rel => exact ⟨k + 1, by omega, by go_num, below_step hb hb3, HN⟩
          case measure => simp [intOf]; omega
        · have HF : Hid (idxErr (enF n P V R K B) = (entErr (enF n P V R K B) k, (k : Int))) := Lib.hid (by
            rw [HE1.out]; unfold orE; rw [firstE_hit h0 HA.out hlt, if_pos h0])
          have H0 := Lib.hid h0
          rw [errV_pos A h0] at hen
          clear h0
          replace hen := Lib.hid hen
          go_wp2_with fail
          refine hen.out.mono ?_
          rintro e w3 ⟨rfl, hb3⟩
          go_wp2_with fail
          go_ret
          rw [HF.out]
          refine ⟨⟨_, rfl, .inr (.inr ⟨H0.out, w3.heap.size, rfl, by simp, ?_⟩)⟩, (below_step hBr hb3).alloc (below_step hBr hb3).size _⟩
          rw [errV_pos A H0.out]
          simp
      · obtain rfl : n = k := by omega
        have HE2 : Hid (idxErr (enF n P V R K B) = firstE (lostE (enF n P V R K B)) n) := Lib.hid (by
          rw [HE1.out]; unfold orE; rw [firstE_none HA.out, if_neg (by decide)])
        have hE5 := hE.below hb
        clear HE1 HA hlt hk z1 hE hB hb
        go_wp2_with fail
        generalize wr = w5 at *
        go_loopw [29] (fun i wr => ∃ k : Nat, k ≤ n ∧ i = .int .i64 k ∧ Below w5.heap.size w5 wr ∧ Hid (∀ j, j < k → lostE (enF n P V R K B) j = 0)) (fun i _ => n - (intOf i).toNat)
        case atStart => exact ⟨0, Nat.zero_le _, rfl, Below.refl _ _, Lib.hid (fun j hj => absurd hj (Nat.not_lt_zero _))⟩
        case round =>
          obtain ⟨k, hk, rfl, hb, HA⟩ := hrel
          have hB6 := below_step hBr hb
          replace d1 := Below.cell_some hb d1
          by_cases hlt : k < n
          · have hkn : (k : Int) < (n : Int) := by omega
            obtain ⟨b1, o1, ea, hcell⟩ := (H.out.below hB6).at_ k hlt
            obtain ⟨a1, n1, s1, a2, n2, s2, e1, e2⟩ := H.out.forms hlt
            have hM := (H.out.below hB6).reqs k hlt
            have hsR := (HS.out.at_ hlt).2.2.2.1
            rw [e1, e2] at hcell
            rw [e1] at hM
            obtain ⟨aM, nM, cM, P2, V2, e3, e4, h5, h6, h7⟩ := hM
            injection e3 with e5 e6 e7
            subst e5 e6 e7
            have hnM : n1 ≤ 1000000 := by have := hsR.1; rw [e4, mdF_length] at this; exact this
            have hba := below_alloc wr (.cells #[.string (P k), .string (V k), .slice a1 n1 s1, .slice a2 n2 s2, .bool (B k)] 37)
            have y2 : (wr.alloc (.cells #[.string (P k), .string (V k), .slice a1 n1 s1, .slice a2 n2 s2, .bool (B k)] 37)).cell? ⟨wr.heap.size, 2, none⟩ = some (.slice a1 n1 s1) := by simp
            have hB7 := below_step hB6 hba
            have hb7 := below_step hb hba
            have hcm := containsMf_calls 122 #[.pointer (some ⟨w.heap.size, 0, none⟩)] Tryz.enters_icheck1 (lost (enF n P V R K B)) a1 n1 s1 (wr.alloc (.cells #[.string (P k), .string (V k), .slice a1 n1 s1, .slice a2 n2 s2, .bool (B k)] 37)).heap.size P2 V2 (wr.alloc (.cells #[.string (P k), .string (V k), .slice a1 n1 s1, .slice a2 n2 s2, .bool (B k)] 37)) hnM (Nat.le_refl _)
              (fun j hj => let ⟨b, o, e, h1, h2⟩ := h7 j hj; ⟨b, o, e, Below.cell_some hba h1, Below.cell_some hba h2⟩)
              (fun W hW j hj => idxCheck1_calls a n cap P V R K B Rv Kv w.heap.size (P2 j) (V2 j) W ((H.out.below hB7).below hW) hn (Below.cell_some hW (Below.cell_some hba d1)))
            have hR : lostE (enF n P V R K B) k = if (mdF n1 P2 V2).any (lost (enF n P V R K B)) = true then 5 else 0 := by
              unfold lostE
              rw [enAt_enF hlt]
              show (if (R k).any _ = true then 5 else 0) = _
              rw [e4]
            have hE7 := hE5.below hb7
            subst ea
            obtain ⟨c0, c1, c2, c3, c4⟩ := hcell
            clear e1 e2 e4 h5 h6 h7 hsR hnM hB6
            cases hX : (mdF n1 P2 V2).any (lost (enF n P V R K B)) with
            | false =>
              rw [hX] at hcm
              rw [hX, if_neg (by decide)] at hR
              have HN : Hid (∀ j, j < k + 1 → lostE (enF n P V R K B) j = 0) := Lib.hid (fun j hj => by
                by_cases e : j = k
                · subst e; exact hR
                · exact HA.out j (by omega))
              clear hX hR
              replace hcm := Lib.hid hcm
              go_wp2_with fail
              refine hcm.out.mono ?_
              rintro e w8 ⟨rfl, hb8⟩
              go_wp2_with fail
              go_roundw
              case rel => exact ⟨k + 1, by omega, by go_num, below_step hb7 hb8, HN⟩
              case measure => simp [intOf]; omega
            | true =>
              rw [hX] at hcm
              rw [hX, if_pos rfl] at hR
              have HF : Hid (idxErr (enF n P V R K B) = (5, (k : Int))) := Lib.hid (by
                rw [HE2.out, firstE_hit (by rw [hR]; decide) HA.out hlt, hR])
              clear hX hR
              replace hcm := Lib.hid hcm
              go_wp2_with fail
              refine hcm.out.mono ?_
              rintro e w8 ⟨rfl, hb8⟩
              have hE8 := hE7.below hb8
              have g5 := hE8.errs.var 5 hks.2.2.1
              simp only [errG] at g5
              go_wp2_with fail
              go_ret
              rw [HF.out]
              refine ⟨⟨_, rfl, .inr (.inr ⟨(show (5 : Nat) ≠ 0 by decide), w8.heap.size, rfl, by simp, ?_⟩)⟩, (below_step hB7 hb8).alloc (below_step hB7 hb8).size _⟩
              show _ = some (errV A 5)
              rw [errV_pos A (show (5 : Nat) ≠ 0 by decide)]
              simp
          · obtain rfl : n = k := by omega
            have HF : Hid (idxErr (enF n P V R K B) = (0, -1)) := Lib.hid (by rw [HE2.out, firstE_none HA.out])
            go_wp2_with fail
            go_ret
            rw [HF.out]
            exact ⟨⟨_, rfl, .inl ⟨rfl, rfl, rfl⟩⟩, hB6⟩
end Go.Proofs.Pw

namespace Go.Proofs.Pw
open Go.RowKit
open Go.Lib hiding intOf
theorem ownsRow_kept {w w' : World} {base e size n : Nat} {v : Value} {xs : List Value} (h : w.ownsRow base e size v n xs) (hb : Below w.heap.size w w') : w'.ownsRow base e size v n xs := by
  refine ⟨h.1, ?_⟩
  rcases h.2 with h2 | ⟨g, c, cur, h1, h2, h3, h4⟩
  · exact .inl h2
  · exact .inr ⟨g, c, cur, h1, h2, (hb.block g (Array.getElem?_eq_some_iff.1 h3).1).trans h3, h4⟩
theorem _root_.Go.World.ownsRow.below {w w' : World} {base e size n : Nat} {v : Value} {xs : List Value} (h : w.ownsRow base e size v n xs) (hb : Below w.heap.size w w') : w'.ownsRow base e size v n xs := ownsRow_kept h hb
theorem ownsRow_set {w : World} {base e k n b j : Nat} {v : Value} {xs : List Value} (h : w.ownsRow base e k v n xs) (hn : v.ownBlock ≠ some b) (u : Value) : (w.setCell ⟨b, j, none⟩ u).ownsRow base e k v n xs := by
  refine ⟨h.1, ?_⟩
  rcases h.2 with h2 | ⟨g, c, cur, rfl, h2, h3, h4⟩
  · exact .inl h2
  · have hg : g ≠ b := fun e => hn (by rw [e]; rfl)
    exact .inr ⟨g, c, cur, rfl, h2, (Go.Deep.blk_setCell_other _ _ _ _ hg).trans h3, h4⟩
theorem apart_row {u o : Value} (h : ∀ b, o.ownBlock = some b → u.ownBlock ≠ some b) : u.ownBlock = none ∨ u.ownBlock ≠ o.ownBlock := by
  by_cases hu : u.ownBlock = none
  · exact .inl hu
  · refine .inr (fun e => ?_)
    cases ho : o.ownBlock with
    | none => exact hu (e.trans ho)
    | some b => exact h b ho (e.trans ho)
theorem own_form {w : World} {base e k n : Nat} {v : Value} {xs : List Value} (h : w.ownsRow base e k v n xs) : ∃ a m c, v = .slice a m c := by
  rcases h.2 with ⟨rfl, _⟩ | ⟨g, cap, cur, rfl, _⟩
  · exact ⟨_, _, _, rfl⟩
  · exact ⟨_, _, _, rfl⟩
theorem own_ne {w : World} {base e k n b : Nat} {v : Value} {xs : List Value} (h : w.ownsRow base e k v n xs) (hb : b < base) : v.ownBlock ≠ some b := fun e => by
  have := (h.lt b e).1
  omega
theorem fault_form {A : Nat → Addr} {w : World} {v : Value} {r : Nat × Int} (h : FaultAt A w v r) : (r.1 = 0 ∧ v = .nilIface) ∨ (r.1 ≠ 0 ∧ ∃ t q, v = .iface t (.pointer q)) := by
  rcases h with h | h | ⟨h, b, rfl, _⟩
  · exact .inl ⟨h.1, h.2.2⟩
  · refine .inr ⟨h.1, ?_⟩
    rw [h.2.2, errV_pos A h.1]; exact ⟨_, _, rfl⟩
  · exact .inr ⟨h, _, _, rfl⟩
theorem ModsAt.cells {w : World} {v : Value} {l : List Md} (h : ModsAt w v l) : ∃ a c P V, v = .slice a l.length c ∧ l = mdF l.length P V ∧ ∀ j, j < l.length → ∃ b o, a = some ⟨b, o, none⟩ ∧ w.cell? ⟨b, o + j * 2, none⟩ = some (.string (P j)) ∧ w.cell? ⟨b, o + j * 2 + 1, none⟩ = some (.string (V j)) := by
  obtain ⟨a, n, cap, P, V, rfl, rfl, h3, h4, h5⟩ := h
  rw [mdF_length]
  exact ⟨a, cap, P, V, rfl, rfl, h5⟩
theorem ModsAt.cell {w : World} {v : Value} {l : List Md} {k : Nat} {p q : ByteArray} (h : ModsAt w v l) (hk : l[k]? = some (p.data.toList, q.data.toList)) : ∃ b o c, v = .slice (some ⟨b, o, none⟩) l.length c ∧ k < l.length ∧ w.cell? ⟨b, o + k * 2, none⟩ = some (.string p) ∧ w.cell? ⟨b, o + k * 2 + 1, none⟩ = some (.string q) := by
  obtain ⟨a, n, cap, P, V, rfl, rfl, h3, h4, h5⟩ := h
  have hl : k < n := by have := (List.getElem?_eq_some_iff.1 hk).1; rwa [mdF_length] at this
  obtain ⟨b, o, rfl, e1, e2⟩ := h5 k hl
  rw [mdF_get n P V k hl] at hk
  have := bytes_pair.1 (Option.some.inj hk)
  rw [this.1] at e1
  rw [this.2] at e2
  rw [mdF_length]
  exact ⟨b, o, cap, rfl, hl, e1, e2⟩
end Go.Proofs.Pw

namespace Go.Proofs.Pw
open Go.Lib hiding intOf
inductive Reached (l : List En) (roots : List Md) : Md → Prop
  | root {m : Md} : m ∈ roots → Reached l roots m
  | step {e : En} {r : Md} : e ∈ l → Reached l roots e.md → r ∈ e.reqs → Reached l roots r
noncomputable def isReached (l : List En) (roots : List Md) (m : Md) : Bool := @decide (Reached l roots m) (Classical.propDecidable _)
theorem isReached_iff {l : List En} {roots : List Md} {m : Md} : isReached l roots m = true ↔ Reached l roots m := by
  unfold isReached
  exact @decide_eq_true_iff _ (Classical.propDecidable _)
noncomputable def reachL (l : List En) (roots : List Md) : List Md := (l.map (·.md)).filter (isReached l roots)
def rootE (l : List En) (roots : List Md) (i : Nat) : Nat := if findE l (mdAt roots i) < 0 then 5 else 0
def rootsErr (l : List En) (roots : List Md) : Nat × Int := firstE (rootE l roots) roots.length
def startErr (l : List En) (roots : List Md) : Nat × Int := orE (idxErr l) (rootsErr l roots)
structure RightG (l : List En) (roots : List Md) : Prop where
  idx : RightI l
  at_ : ∀ m ∈ roots, ∃ e ∈ l, e.md = m
theorem rootsErr_zero {l : List En} {roots : List Md} : (rootsErr l roots).1 = 0 ↔ ∀ m ∈ roots, ∃ e ∈ l, e.md = m := by
  constructor
  · intro h m hm
    obtain ⟨i, hi⟩ := List.getElem?_of_mem hm
    have hl := (List.getElem?_eq_some_iff.1 hi).1
    have h1 := firstE_zero h i hl
    unfold rootE at h1
    rw [mdAt_get hl] at hi
    rw [Option.some.inj hi] at h1
    by_cases h2 : findE l m < 0
    · rw [if_pos h2] at h1; cases h1
    · obtain ⟨k, _, hk, e⟩ := findE_nat h2
      exact ⟨_, enAt_mem hk, e⟩
  · intro h
    unfold rootsErr
    rw [firstE_none fun i hi => ?_]
    unfold rootE
    rw [if_neg]
    rw [findE_lt]
    obtain ⟨e, he, h1⟩ := h _ (mdAt_mem hi)
    exact fun h2 => h2 e he h1
theorem startErr_at {l : List En} {roots : List Md} (h : (startErr l roots).1 = 0) : startErr l roots = (0, -1) := by
  unfold startErr at h ⊢
  rw [orE_zero] at h
  unfold orE
  rw [if_neg (by simp [h.1])]
  unfold rootsErr at h ⊢
  exact firstE_none (firstE_zero h.2)
theorem RightG.entry {l : List En} {roots : List Md} (h : RightG l roots) {m : Md} (hm : Reached l roots m) : ∃ e ∈ l, e.md = m := by
  induction hm with
  | root hm => exact h.at_ _ hm
  | step he _ hr _ => exact h.idx.all _ he _ hr
theorem RightG.mem {l : List En} {roots : List Md} (h : RightG l roots) {m : Md} : m ∈ reachL l roots ↔ Reached l roots m := by
  unfold reachL
  rw [List.mem_filter, isReached_iff]
  exact ⟨fun h => h.2, fun hm => by
    obtain ⟨e, he, h1⟩ := h.entry hm
    exact ⟨List.mem_map.2 ⟨e, he, h1⟩, hm⟩⟩
theorem reachL_rises {l : List En} (h : RightI l) (roots : List Md) : Rises modCmp (reachL l roots) := List.Pairwise.sublist List.filter_sublist h.rise
theorem RightG.is {l : List En} {roots x : List Md} (h : RightG l roots) (hx : Rises modCmp x) (hm : ∀ m, m ∈ x ↔ Reached l roots m) : x = reachL l roots :=
  rises_ext modCmp_ord hx (reachL_rises h.idx roots) fun m => by rw [hm, h.mem]
theorem RightG.right {l : List En} {roots : List Md} (h : RightG l roots) {m : Md} (hm : Reached l roots m) : mdErr m = 0 := by
  obtain ⟨e, he, rfl⟩ := h.entry hm
  exact h.idx.mds e he
end Go.Proofs.Pw

namespace Go.Proofs.Pw
open Go.RowKit
open Go.Lib hiding intOf
end Go.Proofs.Pw

namespace Go.Proofs.Pw
open Go.RowKit
open Go.Lib hiding intOf
abbrev MB := ByteArray × ByteArray
def mdV (m : MB) : Value := .agg #[.string m.1, .string m.2]
def MapIs (w : World) (b : Nat) (S : List (MB × MB)) : Prop :=
  ∃ es clock, w.heap[b]? = some (.map es clock) ∧ es.toList.map (fun e => (e.key, e.val)) = S.map fun p => (mdV p.1, mdV p.2)
theorem MapIs.grown {w w' : World} {b : Nat} {S : List (MB × MB)} {row : Option Nat} (h : MapIs w b S) (hg : w.grownBy w' row) (hne : some b ≠ row) : MapIs w' b S := by
  obtain ⟨es, clock, hb, he⟩ := h
  have hl : b < w.heap.size := (Array.getElem?_eq_some_iff.1 hb).1
  exact ⟨es, clock, by rw [hg.block b hl hne]; exact hb, he⟩
theorem MapIs.below {w w' : World} {b : Nat} {S : List (MB × MB)} (h : MapIs w b S) (hb : Below w.heap.size w w') : MapIs w' b S := by
  obtain ⟨es, clock, h1, he⟩ := h
  have hl : b < w.heap.size := (Array.getElem?_eq_some_iff.1 h1).1
  exact ⟨es, clock, by rw [hb.block b hl]; exact h1, he⟩
end Go.Proofs.Pw

namespace Go.Proofs.Pw
open Go.RowKit
open Go.Lib hiding intOf
structure Going (B : Nat) (w : World) (x : Value) (S : List (MB × MB)) : Prop where
  cm : w.cell? ⟨B + 1, 0, none⟩ = some (.map (some B))
  ct : w.cell? ⟨B + 2, 0, none⟩ = some x
  ft : ∀ i, w.frozen? ⟨B + 2, i, none⟩ = false
  own : w.ownsRow (B + 3) 29 2 x (S.map (·.1)).length (mdVs (S.map (·.1)))
  map : MapIs w B S
theorem Going.below {B : Nat} {w w' : World} {x : Value} {S : List (MB × MB)} (h : Going B w x S) (hb : Below w.heap.size w w') : Going B w' x S :=
  ⟨Below.cell_some hb h.cm, Below.cell_some hb h.ct, fun i => (hb.frozen (p := ⟨B + 2, i, none⟩) (show B + 2 < w.heap.size from lt_of_cell h.ct)).trans (h.ft i), ownsRow_kept h.own hb, h.map.below hb⟩
theorem Going.lt {B : Nat} {w : World} {x : Value} {S : List (MB × MB)} (h : Going B w x S) : B + 2 < w.heap.size := lt_of_cell h.ct
theorem Going.ne {B : Nat} {w : World} {x : Value} {S : List (MB × MB)} (h : Going B w x S) {k : Nat} (hk : k < B + 3) : some k ≠ x.ownBlock := fun e => by
  have := (h.own.lt k e.symm).1; omega
theorem MapIs.setCell {w : World} {b c : Nat} {S : List (MB × MB)} (h : MapIs w b S) (hc : b ≠ c) (u : Value) : MapIs (w.setCell ⟨c, 0, none⟩ u) b S := by
  obtain ⟨es, clock, h1, he⟩ := h
  exact ⟨es, clock, (Go.Deep.blk_setCell_other _ _ _ _ hc).trans h1, he⟩
end Go.Proofs.Pw

namespace Go.Proofs.Pw
open Go.Lib hiding intOf
abbrev Came := List (Md × Md)
def noMd : Md := ([], [])
def reqsOf (l : List En) (m : Md) : List Md := (enAt l (findE l m).toNat).reqs
def atS (S : Came) (i : Nat) : Md := (S.getD i (noMd, noMd)).1
structure Walked (l : List En) (roots : List Md) (S : Came) (i : Nat) : Prop where
  nd : (S.map (·.1)).Nodup
  all : ∀ m ∈ S.map (·.1), Reached l roots m
  start : ∀ m ∈ roots, m ∈ S.map (·.1)
  done : ∀ j, j < i → j < S.length → ∀ r ∈ reqsOf l (atS S j), r ∈ S.map (·.1)
  by_ : ∀ k p, S[k]? = some p → (p.2 = noMd ∧ p.1 ∈ roots) ∨ ∃ j, j < k ∧ p.2 = atS S j ∧ p.1 ∈ reqsOf l (atS S j)
theorem nodup_len {α : Type} [DecidableEq α] : ∀ (a b : List α), a.Nodup → (∀ x ∈ a, x ∈ b) → a.length ≤ b.length
  | [], b, _, _ => Nat.zero_le _
  | x :: a, b, hn, hs => by
    rw [List.nodup_cons] at hn
    have hx := hs x (by simp)
    have h1 := nodup_len a (b.erase x) hn.2 (fun y hy => by
      have hne : y ≠ x := fun e => hn.1 (e ▸ hy)
      exact (List.mem_erase_of_ne hne).2 (hs y (by simp [hy])))
    rw [List.length_erase_of_mem hx] at h1
    have := List.length_pos_of_mem hx
    rw [List.length_cons]
    omega
theorem Walked.len {l : List En} {roots : List Md} {S : Came} {i : Nat} (hG : RightG l roots) (h : Walked l roots S i) : S.length ≤ l.length := by
  have := nodup_len (S.map (·.1)) (l.map (·.md)) h.nd (fun m hm => by
    obtain ⟨e, he, e1⟩ := hG.entry (h.all m hm)
    exact List.mem_map.2 ⟨e, he, e1⟩)
  simpa using this
end Go.Proofs.Pw

namespace Go.Proofs.Pw
open Go.RowKit
open Go.Lib hiding intOf
def mbT (m : MB) : Md := (m.1.data.toList, m.2.data.toList)
theorem mbT_inj {a b : MB} : mbT a = mbT b ↔ a = b := by
  refine ⟨fun h => ?_, fun h => by rw [h]⟩
  unfold mbT at h
  rw [Prod.mk.injEq] at h
  exact Prod.ext (bytes_eq.1 h.1) (bytes_eq.1 h.2)
theorem Going.drew {B : Nat} {w : World} {x : Value} {S : List (MB × MB)} (h : Going B w x S) : Going B w.drew x S := h.below (Below.refl _ w).drew
theorem Going.row {B : Nat} {w : World} {x : Value} {S : List (MB × MB)} (h : Going B w x S) {i : Nat} (hi : i < S.length) :
    ∃ b o c P V, x = .slice (some ⟨b, o, none⟩) S.length c ∧ (P, V) = (S[i]).1 ∧ w.cell? ⟨b, o + i * 2, none⟩ = some (.string P) ∧ w.cell? ⟨b, o + i * 2 + 1, none⟩ = some (.string V) := by
  obtain ⟨a, n, cap, P, V, e1, e2, h3, h4, h5⟩ := modsAt_own h.own
  have hl : n = S.length := by have := congrArg List.length e2; rw [mdF_length] at this; rw [← this]; simp [mdTs]
  obtain ⟨b, o, rfl, c0, c1⟩ := h5 i (by omega)
  refine ⟨b, o, cap, P i, V i, by rw [e1, hl], ?_, c0, c1⟩
  have h6 := mdF_get n P V i (by omega)
  rw [← e2] at h6
  apply mbT_inj.1
  have h7 : (mdTs (S.map (·.1)))[i]? = some (mbT (S[i]).1) := by simp [mdTs, mbT, List.getElem?_eq_getElem hi]
  rw [h7] at h6
  exact (Option.some.inj h6).symm
end Go.Proofs.Pw
