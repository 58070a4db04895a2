/- VerTells: its walk. -/
import Derived.Test.YtaelindfneoajaaGreatDoorRefT
import Derived.Test.YtaelindfneoajaaGreatDoorVerBeg
import Derived.Test.YtaelindfneoajaaGreatDoorCoded
namespace Go.Proofs.Pw
open Go.RowKit
open Go.Lib hiding intOf

theorem verText_same {s : Str} (h : verErr s = 0) : verText (verNum s 0 : Nat) (verNum s 1 : Nat) (verNum s 2 : Nat) (verPre s) = s := by
  unfold verText
  rw [ver_back h, if_pos ⟨h, rfl⟩]

set_option maxRecDepth 100000 in
theorem verTells_long (A : Nat → Addr) (a b h : ByteArray) (w : World) (hE : EnvP allErrs A w) (hl : 80 < a.size ∨ (a.size ≤ 80 ∧ 80 < b.size) ∨ (a.size ≤ 80 ∧ b.size ≤ 80 ∧ 30 < h.size)) :
    Calls Tryz.prog 5 #[.string a, .string b, .string h] w fun e w' => e = .returned (.bool true) ∧ Below w.heap.size w w' := by
  rcases hl with h1 | ⟨h1, h2⟩ | ⟨h1, h2, h3⟩
  all_goals
    go_enter Tryz.func5, Tryz.ntmps5
    go_wp2_with fail
    refine (versed_calls allErrs A w hE).mono ?_
    rintro e w1 ⟨rfl, hb1⟩
    go_wp2_with fail
    go_ret
    exact ⟨rfl, hb1⟩

set_option maxRecDepth 100000 in
set_option maxHeartbeats 2000000 in
theorem verTells_main (A : Nat → Addr) (a b h : ByteArray) (w : World) (hE : EnvP allErrs A w) (hC : EnvC A w) (h1 : a.size ≤ 80) (h2 : b.size ≤ 80) (h3 : h.size ≤ 30) :
    Calls Tryz.prog 5 #[.string a, .string b, .string h] w fun e w' => e = .returned (.bool true) ∧ Below w.heap.size w w' := by
  have ha9 : a.size ≤ 1000000000 := by omega
  have hB9 : b.size ≤ 1000000000 := by omega
  have hh9 : h.size ≤ 1000000000 := by omega
  have hps := verPre_small a.data.toList
  have hle := verErr_le a.data.toList
  have l0 := verNum_le a.data.toList 0
  have l1 := verNum_le a.data.toList 1
  have l2 := verNum_le a.data.toList 2
  have hpre : ∀ x ∈ verPre a.data.toList, x.length ≤ 1000 := fun x hx => by have := (hps.2 x hx).1; omega
  have hpl : (verPre a.data.toList).length ≤ 100 := by omega
  have hvt := fun (e0 : verErr a.data.toList = 0) (v : Value) (W : World) (hW : EnvP allErrs A W) (hS : StrsAt W v (verPre a.data.toList)) =>
    verText_calls allErrs A (verNum a.data.toList 0 : Nat) (verNum a.data.toList 1 : Nat) (verNum a.data.toList 2 : Nat) v (verPre a.data.toList) W hW (by omega) (by omega) (by omega) hS hpl hpre
  have hvt2 := fun e0 v W hW hS => (verText_same (s := a.data.toList) e0) ▸ hvt e0 v W hW hS
  have HVT := Lib.hid hvt2
  have hsp := fun W hW => verSplit_calls allErrs A a W hW ha9
  have hvo := fun W => refVerOf_calls a W ha9
  have hck := fun W hW => verCheck_calls allErrs A a W hW ha9
  have hls := fun W hW => verLess_calls allErrs A a b W hW ha9 hB9
  have hil := fun W => isLess_calls a b W ha9 hB9
  have hmx := fun W hW => verMax_calls allErrs A a b W hW ha9 hB9
  have hmo := fun W => maxOf_calls a b W ha9 hB9
  have hbg := fun W hW => verBegins_calls allErrs A a h W hW ha9 hh9
  have hdb := fun W => doesBegin_calls a h W ha9 hh9
  generalize verLess a.data.toList b.data.toList = X at hls hil
  generalize verMax a.data.toList b.data.toList = M at hmx hmo
  generalize verBegins a.data.toList h.data.toList = Y at hbg hdb
  have HSP := Lib.hid hsp
  have HVO := Lib.hid hvo
  have HCK := Lib.hid hck
  have HLS := Lib.hid hls
  have HIL := Lib.hid hil
  have HMX := Lib.hid hmx
  have HMO := Lib.hid hmo
  have HBG := Lib.hid hbg
  have HDB := Lib.hid hdb
  clear hvt hvt2 hsp hvo hck hls hil hmx hmo hbg hdb hpre hps hpl
  go_enter Tryz.func5, Tryz.ntmps5
  go_wp2_with fail
  refine (versed_calls allErrs A w hE).mono ?_
  rintro e w1 ⟨rfl, hb1⟩
  have hE1 := hE.below hb1
  have hC1 := hC.below hb1
  go_wp2_with fail
  refine (HVO.out w1).mono ?_
  rintro e w2 ⟨⟨v2, rfl, hS2⟩, hb2⟩
  obtain ⟨a2, n2, cap2, L2, rfl, _, _, _, _⟩ := id hS2
  have hbA := below_alloc w2 (.cells #[.int .i64 (verNum a.data.toList 0 : Nat), .int .i64 (verNum a.data.toList 1 : Nat), .int .i64 (verNum a.data.toList 2 : Nat), .slice a2 n2 cap2] 30)
  have hzA := box4_alloc w2 (.int .i64 (verNum a.data.toList 0 : Nat)) (.int .i64 (verNum a.data.toList 1 : Nat)) (.int .i64 (verNum a.data.toList 2 : Nat)) (.slice a2 n2 cap2) 30
  have hb2A := below_step hb2 hbA
  have hE2 := hE1.below hb2A
  have hC2 := hC1.below hb2A
  have hS2A := hS2.below hbA
  go_wp2_with fail
  refine (HSP.out _ hE2).mono ?_
  rintro e w3 ⟨hb3, v3, rfl, hS3⟩
  obtain ⟨a3, n3, cap3, L3, rfl, _, _, _, _⟩ := id hS3
  have hbB := below_alloc w3 (.cells #[.int .i64 (verNum a.data.toList 0 : Nat), .int .i64 (verNum a.data.toList 1 : Nat), .int .i64 (verNum a.data.toList 2 : Nat), .slice a3 n3 cap3] 26)
  have hzB := box4_alloc w3 (.int .i64 (verNum a.data.toList 0 : Nat)) (.int .i64 (verNum a.data.toList 1 : Nat)) (.int .i64 (verNum a.data.toList 2 : Nat)) (.slice a3 n3 cap3) 26
  have hb3B := below_step hb3 hbB
  have hE3 := hE2.below hb3B
  have hC3 := hC2.below hb3B
  have hzA3 := hzA.below hb3B
  have hS3B := hS3.below hbB
  have hS2B := hS2A.below hb3B
  have hbw3 := below_step hb1 (below_step hb2A hb3B)
  clear hS2 hS2A hS3 hzA hbA hbB hb2 hb3 hb2A hb3B hE1 hC1 hC2
  go_wp2_with fail
  refine (HCK.out _ hE3).mono ?_
  rintro e w4 ⟨rfl, hb4⟩
  have hE4 := hE3.below hb4
  have hC4 := hC3.below hb4
  have hcd := fun W hW => coded_calls (verErr a.data.toList) (verErr a.data.toList) A W hW (by omega)
  rw [decide_eq_true rfl] at hcd
  have HCD := Lib.hid hcd
  clear hcd
  go_wp2_with fail
  refine (HCD.out w4 hC4).mono ?_
  rintro e w5 ⟨rfl, hb5⟩
  have hE5 := hE4.below hb5
  have hC5 := hC4.below hb5
  go_wp2_with fail
  refine (HCD.out w5 hC5).mono ?_
  rintro e w6 ⟨rfl, hb6⟩
  have hE6 := hE5.below hb6
  have hb46 := below_step hb4 (below_step hb5 hb6)
  obtain ⟨z0, z1, z2, z3, _⟩ := hzA3.below hb46
  obtain ⟨y0, y1, y2, y3, _⟩ := hzB.below hb46
  have hS3' := hS3B.below hb46
  have hS2' := hS2B.below hb46
  have hbw6 := below_step hbw3 hb46
  have hsm := refSame_calls _ _ _ _ w6 hS3' hS2'
  rw [decide_eq_true rfl] at hsm
  have HSM := Lib.hid hsm
  clear hsm hzA3 hzB hE4 hE5 hC4 hC5 hb4 hb5 hb6 HCD hS2B hS3B hb46 hE3 hC3 hE2
  go_wp2_with fail
  refine HSM.out.mono ?_
  rintro e w7 ⟨rfl, hb7⟩
  have hE7 := hE6.below hb7
  have hbw7 := below_step hbw6 hb7
  replace z0 := Below.cell_some hb7 z0
  replace y0 := Below.cell_some hb7 y0
  replace y1 := Below.cell_some hb7 y1
  replace y2 := Below.cell_some hb7 y2
  replace y3 := Below.cell_some hb7 y3
  have hS7 := hS3'.below hb7
  clear z0 z1 z2 z3 HSM hb7
  by_cases h0 : verErr a.data.toList = 0
  · have h0i : ((verErr a.data.toList : Nat) : Int) = 0 := by omega
    have HVT' := Lib.hid (HVT.out h0)
    go_wp2_with fail
    refine (HVT'.out _ w7 hE7 hS7).mono ?_
    rintro e w8 ⟨rfl, hb8⟩
    have hE8 := hE7.below hb8
    have hbw8 := below_step hbw7 hb8
    go_wp2_with fail
    refine (HIL.out _).mono ?_
    rintro e w9 ⟨rfl, hb9⟩
    have hE9 := hE8.below hb9
    go_wp2_with fail
    refine (HDB.out _).mono ?_
    rintro e w10 ⟨rfl, hb10⟩
    have hE10 := hE9.below hb10
    go_wp2_with fail
    refine (HLS.out _ hE10).mono ?_
    rintro e w11 ⟨rfl, hb11⟩
    have hE11 := hE10.below hb11
    go_wp2_with fail
    refine (HMX.out _ hE11).mono ?_
    rintro e w12 ⟨rfl, hb12⟩
    have hE12 := hE11.below hb12
    go_wp2_with fail
    refine (HMO.out _).mono ?_
    rintro e w13 ⟨rfl, hb13⟩
    have hE13 := hE12.below hb13
    go_wp2_with fail
    refine (HBG.out _ hE13).mono ?_
    rintro e w14 ⟨rfl, hb14⟩
    go_wp2_with fail
    go_ret
    exact ⟨rfl, below_step hbw8 (below_step hb9 (below_step hb10 (below_step hb11 (below_step hb12 (below_step hb13 hb14)))))⟩
  · have h0i : ¬ ((verErr a.data.toList : Nat) : Int) = 0 := by omega
    have hE8 := hE7
    have hbw8 := hbw7
    go_wp2_with fail
    refine (HIL.out _).mono ?_
    rintro e w9 ⟨rfl, hb9⟩
    have hE9 := hE8.below hb9
    go_wp2_with fail
    refine (HDB.out _).mono ?_
    rintro e w10 ⟨rfl, hb10⟩
    have hE10 := hE9.below hb10
    go_wp2_with fail
    refine (HLS.out _ hE10).mono ?_
    rintro e w11 ⟨rfl, hb11⟩
    have hE11 := hE10.below hb11
    go_wp2_with fail
    refine (HMX.out _ hE11).mono ?_
    rintro e w12 ⟨rfl, hb12⟩
    have hE12 := hE11.below hb12
    go_wp2_with fail
    refine (HMO.out _).mono ?_
    rintro e w13 ⟨rfl, hb13⟩
    have hE13 := hE12.below hb13
    go_wp2_with fail
    refine (HBG.out _ hE13).mono ?_
    rintro e w14 ⟨rfl, hb14⟩
    go_wp2_with fail
    go_ret
    exact ⟨rfl, below_step hbw8 (below_step hb9 (below_step hb10 (below_step hb11 (below_step hb12 (below_step hb13 hb14)))))⟩

theorem verTells_calls (A : Nat → Addr) (a b h : ByteArray) (w : World) (hE : EnvP allErrs A w) (hC : EnvC A w) :
    Calls Tryz.prog 5 #[.string a, .string b, .string h] w fun e w' => e = .returned (.bool true) ∧ Below w.heap.size w w' := by
  by_cases h1 : a.size ≤ 80
  · by_cases h2 : b.size ≤ 80
    · by_cases h3 : h.size ≤ 30
      · exact verTells_main A a b h w hE hC h1 h2 h3
      · exact verTells_long A a b h w hE (by omega)
    · exact verTells_long A a b h w hE (by omega)
  · exact verTells_long A a b h w hE (by omega)
end Go.Proofs.Pw
