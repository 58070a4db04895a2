/- moduled; ModTells: its walk. -/
import Derived.Test.YtknaelbmcgiidaaGreatDoorModOrd
import Derived.Test.YtknaelbmcgiidaaGreatDoorCoded
import Derived.Test.YtknaelbmcgiidaaGreatDoorMem
import Derived.Test.YtknaelbmcgiidaaGreatDoorPatch
namespace Go.Proofs.Pw
open Go.RowKit
open Go.Lib hiding intOf

def mtxt : ByteArray := ⟨#[97, 47, 98, 47, 118, 50, 64, 118, 50, 46, 48, 46, 49]⟩
def mpath : ByteArray := ⟨#[97, 47, 98, 47, 118, 50]⟩
def mver : ByteArray := ⟨#[118, 50, 46, 48, 46, 49]⟩
theorem mtxt_read (ks : List Nat) (A : Nat → Addr) (h4 : 4 ∈ ks) (w : World) (hE : EnvP ks A w) :
    Calls Tryz.prog 33 #[.string ⟨#[97, 47, 98, 47, 118, 50, 64, 118, 50, 46, 48, 46, 49]⟩] w fun e w' => e = .returned (.tuple #[.agg #[.string ⟨#[97, 47, 98, 47, 118, 50]⟩, .string ⟨#[118, 50, 46, 48, 46, 49]⟩], .nilIface]) ∧ Below w.heap.size w w' := by
  have h := modRead_calls ks A h4 mtxt w hE (by decide)
  rw [show modRead mtxt.data.toList = ([97, 47, 98, 47, 118, 50], [118, 50, 46, 48, 46, 49], 0) from by decide +kernel, errV_zero] at h
  exact h
theorem mtxt_split (ks : List Nat) (A : Nat → Addr) (h4 : 4 ∈ ks) (w : World) (hE : EnvP ks A w) :
    Calls Tryz.prog 22 #[.string ⟨#[97, 47, 98, 47, 118, 50]⟩] w fun e w' => e = .returned (.tuple #[.string ⟨#[97, 47, 98]⟩, .int .i64 2]) ∧ Below w.heap.size w w' := by
  have h := modSplit_calls ks A h4 mpath w hE (by decide)
  rw [show modSplit mpath.data.toList = ([97, 47, 98], 2) from by decide +kernel] at h
  exact h
theorem mtxt_text (ks : List Nat) (A : Nat → Addr) (h4 : 4 ∈ ks) (w : World) (hE : EnvP ks A w) :
    Calls Tryz.prog 30 #[.agg #[.string ⟨#[97, 47, 98, 47, 118, 50]⟩, .string ⟨#[118, 50, 46, 48, 46, 49]⟩]] w fun e w' => e = .returned (.string ⟨#[97, 47, 98, 47, 118, 50, 64, 118, 50, 46, 48, 46, 49]⟩) ∧ Below w.heap.size w w' := by
  have h := modText_calls ks A h4 mpath mver w hE (by decide) (by decide)
  rw [show modText mpath.data.toList mver.data.toList = [97, 47, 98, 47, 118, 50, 64, 118, 50, 46, 48, 46, 49] from by decide +kernel] at h
  exact h

set_option maxHeartbeats 400000 in
/-- moduled: true -/
theorem moduled_calls (ks : List Nat) (A : Nat → Addr) (h4 : 4 ∈ ks) (w : World) (hE : EnvP ks A w) :
    Calls Tryz.prog 21 #[] w fun e w' => e = .returned (.bool true) ∧ Below w.heap.size w w' := by
  have hB := Below.refl w.heap.size w
  go_enter Tryz.func21, Tryz.ntmps21
  go_wp2_with fail
  refine (mtxt_read ks A h4 w hE).mono ?_
  rintro e w1 ⟨rfl, hb⟩
  replace hB := below_step hB hb
  replace hE := hE.below hb
  clear hb
  have hb := below_alloc w1 (.cells #[.string ⟨#[97, 47, 98, 47, 118, 50]⟩, .string ⟨#[118, 50, 46, 48, 46, 49]⟩] 35)
  have hz := box2_alloc w1 (.string ⟨#[97, 47, 98, 47, 118, 50]⟩) (.string ⟨#[118, 50, 46, 48, 46, 49]⟩) 35
  replace hB := below_step hB hb
  replace hE := hE.below hb
  clear hb
  go_wp2_with fail
  refine (mtxt_split ks A h4 _ hE).mono ?_
  rintro e w2 ⟨rfl, hb⟩
  replace hB := below_step hB hb
  replace hE := hE.below hb
  replace hz := hz.below hb
  clear hb
  have c0 := hz.c0
  have c1 := hz.c1
  clear hz
  go_wp2_with fail
  refine (mtxt_text ks A h4 _ hE).mono ?_
  rintro e w3 ⟨rfl, hb⟩
  replace hB := below_step hB hb
  clear hb
  go_wp2_with fail
  go_ret
  exact ⟨rfl, hB⟩

set_option maxRecDepth 100000 in
set_option maxHeartbeats 1000000 in
theorem modTells_long (A : Nat → Addr) (s p v q u : ByteArray) (w : World) (hE : EnvP allErrs A w) (hl : 150 < s.size ∨ (s.size ≤ 150 ∧ 90 < p.size) ∨ (s.size ≤ 150 ∧ p.size ≤ 90 ∧ 60 < v.size) ∨ (s.size ≤ 150 ∧ p.size ≤ 90 ∧ v.size ≤ 60 ∧ 90 < q.size) ∨ (s.size ≤ 150 ∧ p.size ≤ 90 ∧ v.size ≤ 60 ∧ q.size ≤ 90 ∧ 60 < u.size)) :
    Calls Tryz.prog 4 #[.string s, .agg #[.string p, .string v], .agg #[.string q, .string u]] w fun e w' => e = .returned (.bool true) ∧ Below w.heap.size w w' := by
  have hb1 := below_alloc w (.cells #[.string p, .string v] 35)
  have hb2 := below_alloc (w.alloc (.cells #[.string p, .string v] 35)) (.cells #[.string q, .string u] 35)
  have hB := below_step hb1 hb2
  have hy := (box2_alloc w (.string p) (.string v) 35).below hb2
  have hz := box2_alloc (w.alloc (.cells #[.string p, .string v] 35)) (.string q) (.string u) 35
  simp only [World.size_alloc] at hz
  replace hE := hE.below hB
  clear hb1 hb2
  rcases hl with h1 | ⟨h1, h2⟩ | ⟨h1, h2, h3⟩ | ⟨h1, h2, h3, h4⟩ | ⟨h1, h2, h3, h4, h5⟩
  all_goals
    go_enter Tryz.func4, Tryz.ntmps4
    go_wp2_with fail
    refine (moduled_calls allErrs A (by decide) _ hE).mono ?_
    rintro e w1 ⟨rfl, hb⟩
    replace hB := below_step hB hb
    replace hy := hy.below hb
    replace hz := hz.below hb
    clear hb
    have y0 := hy.c0
    have y1 := hy.c1
    have z0 := hz.c0
    have z1 := hz.c1
    clear hy hz
    go_wp2_with fail
    go_ret
    exact ⟨rfl, hB⟩

set_option maxRecDepth 100000 in
set_option maxHeartbeats 2000000 in
theorem modTells_main (A : Nat → Addr) (s p v q u : ByteArray) (w : World) (hE : EnvP allErrs A w) (hC : EnvC A w) (h1 : s.size ≤ 150) (h2 : p.size ≤ 90) (h3 : v.size ≤ 60) (h4 : q.size ≤ 90) (h5 : u.size ≤ 60) :
    Calls Tryz.prog 4 #[.string s, .agg #[.string p, .string v], .agg #[.string q, .string u]] w fun e w' => e = .returned (.bool true) ∧ Below w.heap.size w w' := by
  have s9 : s.size ≤ 1000000000 := by omega
  have p9 : p.size ≤ 1000000000 := by omega
  have v9 : v.size ≤ 1000000000 := by omega
  have u9 : u.size ≤ 1000000000 := by omega
  have hms := fun W hW => modSplit_calls allErrs A (by decide) p W hW p9
  have hrs := fun W => refSplit_calls p W p9
  have hmp := fun W hW => path_calls allErrs A (by decide) p W hW p9
  have hrp := fun W => refPath_calls p W p9
  have hra := fun W => isAhead_calls p v q u W v9 u9
  have hma := fun W hW => modAhead_calls allErrs A p v q u W hW v9 u9
  have hmc := fun W hW => modCheck_calls allErrs A (by decide) p v W hW p9 v9
  have hrc := fun W => refModErr_calls p v W p9 v9
  have hmt := fun W hW => modText_calls allErrs A (by decide) p v W hW p9 v9
  have hrt := fun W => refModText_calls p v W p9 v9
  have hmr := fun W hW => modRead_calls allErrs A (by decide) s W hW s9
  have hrr := fun W => refReadMod_calls s W s9
  have l1 := pathErr_le p.data.toList
  have l2 := modErr_le p.data.toList v.data.toList
  have l3 := modRead_le s.data.toList
  generalize (modSplit p.data.toList).1 = X1 at hms hrs
  generalize (modSplit p.data.toList).2 = X2 at hms hrs
  generalize pathErr p.data.toList = X3 at hmp hrp l1
  generalize modAhead (p.data.toList, v.data.toList) (q.data.toList, u.data.toList) = X4 at hra hma
  generalize modErr p.data.toList v.data.toList = X5 at hmc hrc l2
  generalize modText p.data.toList v.data.toList = X6 at hmt hrt
  generalize (modRead s.data.toList).1 = X7 at hmr hrr
  generalize (modRead s.data.toList).2.1 = X8 at hmr hrr
  generalize (modRead s.data.toList).2.2 = X9 at hmr hrr l3
  have hc3 := fun W hW => coded_calls X3 X3 A W hW (by omega)
  have hc5 := fun W hW => coded_calls X5 X5 A W hW (by omega)
  have hc9 := fun W hW => coded_calls X9 X9 A W hW (by omega)
  rw [decide_eq_true rfl] at hc3 hc5 hc9
  replace hms := Lib.hid hms
  replace hrs := Lib.hid hrs
  replace hmp := Lib.hid hmp
  replace hrp := Lib.hid hrp
  replace hra := Lib.hid hra
  replace hma := Lib.hid hma
  replace hmc := Lib.hid hmc
  replace hrc := Lib.hid hrc
  replace hmt := Lib.hid hmt
  replace hrt := Lib.hid hrt
  replace hmr := Lib.hid hmr
  replace hrr := Lib.hid hrr
  replace hc3 := Lib.hid hc3
  replace hc5 := Lib.hid hc5
  replace hc9 := Lib.hid hc9
  have hb1 := below_alloc w (.cells #[.string p, .string v] 35)
  have hb2 := below_alloc (w.alloc (.cells #[.string p, .string v] 35)) (.cells #[.string q, .string u] 35)
  have hB := below_step hb1 hb2
  have hy := (box2_alloc w (.string p) (.string v) 35).below hb2
  have hz := box2_alloc (w.alloc (.cells #[.string p, .string v] 35)) (.string q) (.string u) 35
  simp only [World.size_alloc] at hz
  replace hE := hE.below hB
  replace hC := hC.below hB
  clear hb1 hb2 s9 p9 v9 u9
  go_enter Tryz.func4, Tryz.ntmps4
  go_wp2_with fail
  refine (moduled_calls allErrs A (by decide) _ hE).mono ?_
  rintro e w1 ⟨rfl, hb⟩
  replace hB := below_step hB hb
  replace hy := hy.below hb
  replace hz := hz.below hb
  replace hE := hE.below hb
  replace hC := hC.below hb
  clear hb
  obtain ⟨y0, y1, _⟩ := hy
  obtain ⟨z0, z1, _⟩ := hz
  go_wp2_with fail
  refine (hms.out _ hE).mono ?_
  rintro e w2 ⟨rfl, hb⟩
  replace hB := below_step hB hb
  replace y0 := Below.cell_some hb y0
  replace y1 := Below.cell_some hb y1
  replace z0 := Below.cell_some hb z0
  replace z1 := Below.cell_some hb z1
  replace hE := hE.below hb
  replace hC := hC.below hb
  clear hb
  go_wp2_with fail
  refine (hrs.out _).mono ?_
  rintro e w3 ⟨rfl, hb⟩
  replace hB := below_step hB hb
  replace y0 := Below.cell_some hb y0
  replace y1 := Below.cell_some hb y1
  replace z0 := Below.cell_some hb z0
  replace z1 := Below.cell_some hb z1
  replace hE := hE.below hb
  replace hC := hC.below hb
  clear hb
  go_wp2_with fail
  have k0 := fun d os => cell_patch (d := d) (os := os) y0
  have kE := Lib.hid (fun d os => hE.below (below_patch w3 d os))
  have kC := Lib.hid (fun d os => hC.below (below_patch w3 d os))
  refine wp_region_quiet_patch (by kernel_rfl) (by kernel_rfl) ?_
  repeat (quiet_step (first | (go_at_call 25; exact Calls.patch_of (hmp.out _ (kE.out _ _))) | (go_at_call 26; exact Calls.patch_of (hrp.out _)) | (go_at_call 24; exact Calls.patch_of (hc3.out _ (kC.out _ _)))))
  refine wpQuiet_nil ?_
  intro _ hw'
  obtain ⟨⟨dq, osq⟩, hw''⟩ := hw'
  subst hw''
  have hb := below_patch w3 dq osq
  replace hB := below_step hB hb
  replace y0 := Below.cell_some hb y0
  replace y1 := Below.cell_some hb y1
  replace z0 := Below.cell_some hb z0
  replace z1 := Below.cell_some hb z1
  replace hE := hE.below hb
  replace hC := hC.below hb
  clear hb
  generalize patch w3 dq osq = w4 at hB y0 y1 z0 z1 hE hC ⊢
  clear k0 kE kC
  go_wp2_with fail
  refine (hra.out _).mono ?_
  rintro e w5 ⟨rfl, hb⟩
  replace hB := below_step hB hb
  replace y0 := Below.cell_some hb y0
  replace y1 := Below.cell_some hb y1
  replace z0 := Below.cell_some hb z0
  replace z1 := Below.cell_some hb z1
  replace hE := hE.below hb
  replace hC := hC.below hb
  clear hb
  go_wp2_with fail
  have k0 := fun d os => cell_patch (d := d) (os := os) y0
  have k1 := fun d os => cell_patch (d := d) (os := os) y1
  have k2 := fun d os => cell_patch (d := d) (os := os) z0
  have k3 := fun d os => cell_patch (d := d) (os := os) z1
  have kE := Lib.hid (fun d os => hE.below (below_patch w5 d os))
  have kC := Lib.hid (fun d os => hC.below (below_patch w5 d os))
  refine wp_region_quiet_patch (by kernel_rfl) (by kernel_rfl) ?_
  repeat (quiet_step (first | (go_at_call 28; exact Calls.patch_of (hmc.out _ (kE.out _ _))) | (go_at_call 29; exact Calls.patch_of (hrc.out _)) | (go_at_call 24; exact Calls.patch_of (hc5.out _ (kC.out _ _))) | (go_at_call 30; exact Calls.patch_of (hmt.out _ (kE.out _ _))) | (go_at_call 31; exact Calls.patch_of (hrt.out _)) | (go_at_call 32; exact Calls.patch_of (hma.out _ (kE.out _ _)))))
  refine wpQuiet_nil ?_
  intro _ hw'
  obtain ⟨⟨dq, osq⟩, hw''⟩ := hw'
  subst hw''
  have hb := below_patch w5 dq osq
  replace hB := below_step hB hb
  replace y0 := Below.cell_some hb y0
  replace y1 := Below.cell_some hb y1
  replace z0 := Below.cell_some hb z0
  replace z1 := Below.cell_some hb z1
  replace hE := hE.below hb
  replace hC := hC.below hb
  clear hb
  generalize patch w5 dq osq = w6 at hB y0 y1 z0 z1 hE hC ⊢
  clear k0 k1 k2 k3 kE kC y0 y1 z0 z1
  go_wp2_with fail
  refine (hmr.out _ hE).mono ?_
  rintro e w7 ⟨rfl, hb⟩
  replace hB := below_step hB hb
  replace hE := hE.below hb
  replace hC := hC.below hb
  clear hb
  have hb := below_alloc w7 (.cells #[.string ⟨X7.toArray⟩, .string ⟨X8.toArray⟩] 35)
  have hy := box2_alloc w7 (.string ⟨X7.toArray⟩) (.string ⟨X8.toArray⟩) 35
  replace hB := below_step hB hb
  replace hE := hE.below hb
  replace hC := hC.below hb
  clear hb
  go_wp2_with fail
  refine (hrr.out _).mono ?_
  rintro e w8 ⟨rfl, hb⟩
  replace hB := below_step hB hb
  replace hE := hE.below hb
  replace hC := hC.below hb
  replace hy := hy.below hb
  clear hb
  have hb := below_alloc w8 (.cells #[.string ⟨X7.toArray⟩, .string ⟨X8.toArray⟩] 35)
  have hz := box2_alloc w8 (.string ⟨X7.toArray⟩) (.string ⟨X8.toArray⟩) 35
  replace hB := below_step hB hb
  replace hE := hE.below hb
  replace hC := hC.below hb
  replace hy := hy.below hb
  clear hb
  go_wp2_with fail
  refine (hc9.out _ hC).mono ?_
  rintro e w9 ⟨rfl, hb⟩
  replace hB := below_step hB hb
  replace hE := hE.below hb
  replace hC := hC.below hb
  replace hy := hy.below hb
  replace hz := hz.below hb
  clear hb
  obtain ⟨y0, y1, _⟩ := hy
  obtain ⟨z0, z1, _⟩ := hz
  have hg := Tryz.md_guard
  have hq := md_eql ⟨X7.toArray⟩ ⟨X8.toArray⟩ ⟨X7.toArray⟩ ⟨X8.toArray⟩
  rw [decide_eq_true ⟨rfl, rfl⟩] at hq
  go_wp2_with fail
  go_ret
  exact ⟨rfl, hB⟩

theorem modTells_calls (A : Nat → Addr) (s p v q u : ByteArray) (w : World) (hE : EnvP allErrs A w) (hC : EnvC A w) :
    Calls Tryz.prog 4 #[.string s, .agg #[.string p, .string v], .agg #[.string q, .string u]] w fun e w' => e = .returned (.bool true) ∧ Below w.heap.size w w' := by
  by_cases h : s.size ≤ 150 ∧ p.size ≤ 90 ∧ v.size ≤ 60 ∧ q.size ≤ 90 ∧ u.size ≤ 60
  · exact modTells_main A s p v q u w hE hC h.1 h.2.1 h.2.2.1 h.2.2.2.1 h.2.2.2.2
  · exact modTells_long A s p v q u w hE (by omega)
end Go.Proofs.Pw
