/- Ge: walks and plain laws, joined: GetStays StayF. Conditions: at each theorem. -/
import Derived.Test.YtmnojbbcaboagaaGreatDoorGezm
import Derived.Test.YtmnojbbcaboagaaGreatDoorGezn
import Derived.Test.YtmnojbbcaboagaaGreatDoorGes
import Derived.Deep.RegionHeld2
import Derived.Test.YtmnojbbcaboagaaGreatDoorGezc
import Derived.Test.YtmnojbbcaboagaaGreatDoorGeza

namespace Go.Proofs.Pw
open Go.RowKit
open Go.Lib hiding intOf
structure GlArgs (ks : List Nat) (A : Nat → Addr) (la : Option Addr) (ln lc : Nat) (P V : Nat → ByteArray) (R : Nat → List Md) (K : Nat → List Str) (Bk : Nat → Bool) (Rv Kv : Nat → Value) (rv xv av : Value) (reqs excl : List Md) (args : List Str) (w : World) : Prop where
  gk : GetKs ks
  env : EnvP ks A w
  l : EntsIn w la ln lc P V R K Bk Rv Kv
  r : ModsAt w rv reqs
  x : ModsAt w xv excl
  a : StrsAt w av args
set_option maxHeartbeats 4000000 in
set_option maxRecDepth 100000 in
theorem getStays_long (ks : List Nat) (A : Nat → Addr) (la : Option Addr) (ln lc : Nat) (P V : Nat → ByteArray) (R : Nat → List Md) (K : Nat → List Str) (Bk : Nat → Bool) (Rv Kv : Nat → Value) (fp : ByteArray) (rv xv av : Value) (reqs excl : List Md) (args : List Str) (w : World) (H : GlArgs ks A la ln lc P V R K Bk Rv Kv rv xv av reqs excl args w)
    (hlong : ¬ (longIdx (enF ln P V R K Bk) = false ∧ ln ≤ 30 ∧ fp.size ≤ 70 ∧ longMods reqs 25 = false ∧ longMods excl 25 = false ∧ longArgs args = false)) :
    Calls Tryz.prog 3 #[.slice la ln lc, .agg #[.string fp, rv, xv], av] w fun e w' => e = .returned (.bool true) ∧ Below w.heap.size w w' := by
  obtain ⟨ar, nr, cr, _, _, rfl, -⟩ := id H.r
  obtain ⟨ax, nx, cx, _, _, rfl, -⟩ := id H.x
  obtain ⟨aa, na, ca, _, rfl, -⟩ := id H.a
  have hB := below_alloc w (.cells #[.string fp, .slice ar nr cr, .slice ax nx cx] 25)
  have hz := box3f_alloc w (.string fp) (.slice ar nr cr) (.slice ax nx cx) 25
  have hre := got_calls ks A H.gk _ (H.env.below hB)
  have hlx : ∀ W, Below w.heap.size w W → Calls Tryz.prog 6 #[.slice la ln lc] W fun e w' => e = .returned (.int .i64 (longII (enF ln P V R K Bk))) ∧ Below W.heap.size W w' := fun W h => (longIndex_in la ln lc P V R K Bk Rv Kv W (H.l.below h)).mono fun _ _ ⟨h1, h2⟩ => ⟨h1, h2 ▸ Below.refl _ _⟩
  have hl1 : ∀ W, Below w.heap.size w W → Calls Tryz.prog 7 #[.slice ar nr cr, .int .i64 25] W fun e w' => e = .returned (.int .i64 (longI reqs 25)) ∧ Below W.heap.size W w' := fun W h => (longMods_calls _ reqs 25 W (H.r.below h)).mono fun _ _ ⟨h1, h2⟩ => ⟨h1, h2 ▸ Below.refl _ _⟩
  have hl2 : ∀ W, Below w.heap.size w W → Calls Tryz.prog 7 #[.slice ax nx cx, .int .i64 25] W fun e w' => e = .returned (.int .i64 (longI excl 25)) ∧ Below W.heap.size W w' := fun W h => (longMods_calls _ excl 25 W (H.x.below h)).mono fun _ _ ⟨h1, h2⟩ => ⟨h1, h2 ▸ Below.refl _ _⟩
  have hla : ∀ W, Below w.heap.size w W → Calls Tryz.prog 8 #[.slice aa na ca] W fun e w' => e = .returned (.bool (longArgs args)) ∧ Below W.heap.size W w' := fun W h => (longArgs_calls _ args W (H.a.below h)).mono fun _ _ ⟨h1, h2⟩ => ⟨h1, h2 ▸ Below.refl _ _⟩
  replace hlong := Lib.hid hlong
  have HH := Lib.hid H
  cases h1 : longIdx (enF ln P V R K Bk) with
  | true =>
    simp only [longII_yes h1] at hlx
    clear h1 hlong H
    replace hre := Lib.hid hre
    replace hlx := Lib.hid hlx
    replace hl1 := Lib.hid hl1
    replace hl2 := Lib.hid hl2
    replace hla := Lib.hid hla
    obtain ⟨z0, z1, z2, zf⟩ := id hz
    go_enter Tryz.func3, Tryz.ntmps3
    go_wp2_with fail
    refine hre.out.mono ?_
    generalize hw2 : w.alloc (.cells #[.string fp, .slice ar nr cr, .slice ax nx cx] 25) = w2 at *
    have hsw : w.heap.size < w2.heap.size := by rw [← hw2]; simp
    clear hw2 hre
    rintro e w3 ⟨rfl, hb⟩
    replace hz := hz.below hb
    replace hB := below_step hB hb
    replace hsw : w.heap.size < w3.heap.size := Nat.lt_of_lt_of_le hsw hb.size
    clear hb z0 z1 z2 zf
    obtain ⟨z0, z1, z2, zf⟩ := id hz
    go_wp2_with fail
    try have q1 := hq1.out
    try have q2 := hq2.out
    try have q3 := hq3.out
    have kqz0 := fun d os => cell_patch (d := d) (os := os) z0
    have kqz1 := fun d os => cell_patch (d := d) (os := os) z1
    have kqz2 := fun d os => cell_patch (d := d) (os := os) z2
    refine wp_region_quiet_patch (by kernel_rfl) (by kernel_rfl) ?_
    repeat (go_big_quiet_step (first | (go_at_call 6; exact Calls.patch_of (hlx.out _ (below_step hB (below_patch w3 _ _)))) | (go_at_call_of 7 (Value.slice ar nr cr); exact Calls.patch_of (hl1.out _ (below_step hB (below_patch w3 _ _)))) | (go_at_call_of 7 (Value.slice ax nx cx); exact Calls.patch_of (hl2.out _ (below_step hB (below_patch w3 _ _)))) | (go_at_call 8; exact Calls.patch_of (hla.out _ (below_step hB (below_patch w3 _ _))))))
    refine wpQuiet_nil ?_
    intro _ hw'
    obtain ⟨⟨dq, osq⟩, hw''⟩ := hw'
    subst hw''
    clear kqz0 kqz1 kqz2
    have hb := below_patch w3 dq osq
    replace hz := hz.below hb
    replace hB := below_step hB hb
    clear hb
    generalize patch w3 dq osq = w4 at hz hB ⊢
    go_wp2_with fail
    go_ret
    exact ⟨rfl, hB⟩
  | false =>
    simp only [longII_no h1] at hlx
    by_cases h2 : ln ≤ 30
    · have hq1 := Lib.hid (decide_eq_false (p := (30 : Int) < (ln : Int)) (by omega))
      by_cases h3 : fp.size ≤ 70
      · have hq2 := Lib.hid (decide_eq_false (p := (70 : Int) < (fp.size : Int)) (by omega))
        cases h4 : longMods reqs 25 <;> cases h5 : longMods excl 25
        · simp only [longI_no h4] at hl1
          simp only [longI_no h5] at hl2
          have h6 : longArgs args = true := by
            cases h6 : longArgs args with
            | true => rfl
            | false => exact absurd ⟨h1, h2, h3, h4, h5, h6⟩ hlong.out
          simp only [h6] at hla
          clear h1 h2 h3 h4 h5 h6 hlong H
          replace hre := Lib.hid hre
          replace hlx := Lib.hid hlx
          replace hl1 := Lib.hid hl1
          replace hl2 := Lib.hid hl2
          replace hla := Lib.hid hla
          obtain ⟨z0, z1, z2, zf⟩ := id hz
          go_enter Tryz.func3, Tryz.ntmps3
          go_wp2_with fail
          refine hre.out.mono ?_
          generalize hw2 : w.alloc (.cells #[.string fp, .slice ar nr cr, .slice ax nx cx] 25) = w2 at *
          have hsw : w.heap.size < w2.heap.size := by rw [← hw2]; simp
          clear hw2 hre
          rintro e w3 ⟨rfl, hb⟩
          replace hz := hz.below hb
          replace hB := below_step hB hb
          replace hsw : w.heap.size < w3.heap.size := Nat.lt_of_lt_of_le hsw hb.size
          clear hb z0 z1 z2 zf
          obtain ⟨z0, z1, z2, zf⟩ := id hz
          go_wp2_with fail
          try have q1 := hq1.out
          try have q2 := hq2.out
          try have q3 := hq3.out
          have kqz0 := fun d os => cell_patch (d := d) (os := os) z0
          have kqz1 := fun d os => cell_patch (d := d) (os := os) z1
          have kqz2 := fun d os => cell_patch (d := d) (os := os) z2
          refine wp_region_quiet_patch (by kernel_rfl) (by kernel_rfl) ?_
          repeat (go_big_quiet_step (first | (go_at_call 6; exact Calls.patch_of (hlx.out _ (below_step hB (below_patch w3 _ _)))) | (go_at_call_of 7 (Value.slice ar nr cr); exact Calls.patch_of (hl1.out _ (below_step hB (below_patch w3 _ _)))) | (go_at_call_of 7 (Value.slice ax nx cx); exact Calls.patch_of (hl2.out _ (below_step hB (below_patch w3 _ _)))) | (go_at_call 8; exact Calls.patch_of (hla.out _ (below_step hB (below_patch w3 _ _))))))
          refine wpQuiet_nil ?_
          intro _ hw'
          obtain ⟨⟨dq, osq⟩, hw''⟩ := hw'
          subst hw''
          clear kqz0 kqz1 kqz2
          have hb := below_patch w3 dq osq
          replace hz := hz.below hb
          replace hB := below_step hB hb
          clear hb
          generalize patch w3 dq osq = w4 at hz hB ⊢
          go_wp2_with fail
          go_ret
          exact ⟨rfl, hB⟩
        · simp only [longI_no h4] at hl1
          simp only [longI_yes h5] at hl2
          clear h1 h2 h3 h4 h5 hlong H
          replace hre := Lib.hid hre
          replace hlx := Lib.hid hlx
          replace hl1 := Lib.hid hl1
          replace hl2 := Lib.hid hl2
          replace hla := Lib.hid hla
          obtain ⟨z0, z1, z2, zf⟩ := id hz
          go_enter Tryz.func3, Tryz.ntmps3
          go_wp2_with fail
          refine hre.out.mono ?_
          generalize hw2 : w.alloc (.cells #[.string fp, .slice ar nr cr, .slice ax nx cx] 25) = w2 at *
          have hsw : w.heap.size < w2.heap.size := by rw [← hw2]; simp
          clear hw2 hre
          rintro e w3 ⟨rfl, hb⟩
          replace hz := hz.below hb
          replace hB := below_step hB hb
          replace hsw : w.heap.size < w3.heap.size := Nat.lt_of_lt_of_le hsw hb.size
          clear hb z0 z1 z2 zf
          obtain ⟨z0, z1, z2, zf⟩ := id hz
          go_wp2_with fail
          try have q1 := hq1.out
          try have q2 := hq2.out
          try have q3 := hq3.out
          have kqz0 := fun d os => cell_patch (d := d) (os := os) z0
          have kqz1 := fun d os => cell_patch (d := d) (os := os) z1
          have kqz2 := fun d os => cell_patch (d := d) (os := os) z2
          refine wp_region_quiet_patch (by kernel_rfl) (by kernel_rfl) ?_
          repeat (go_big_quiet_step (first | (go_at_call 6; exact Calls.patch_of (hlx.out _ (below_step hB (below_patch w3 _ _)))) | (go_at_call_of 7 (Value.slice ar nr cr); exact Calls.patch_of (hl1.out _ (below_step hB (below_patch w3 _ _)))) | (go_at_call_of 7 (Value.slice ax nx cx); exact Calls.patch_of (hl2.out _ (below_step hB (below_patch w3 _ _)))) | (go_at_call 8; exact Calls.patch_of (hla.out _ (below_step hB (below_patch w3 _ _))))))
          refine wpQuiet_nil ?_
          intro _ hw'
          obtain ⟨⟨dq, osq⟩, hw''⟩ := hw'
          subst hw''
          clear kqz0 kqz1 kqz2
          have hb := below_patch w3 dq osq
          replace hz := hz.below hb
          replace hB := below_step hB hb
          clear hb
          generalize patch w3 dq osq = w4 at hz hB ⊢
          go_wp2_with fail
          go_ret
          exact ⟨rfl, hB⟩
        · simp only [longI_yes h4] at hl1
          simp only [longI_no h5] at hl2
          clear h1 h2 h3 h4 h5 hlong H
          replace hre := Lib.hid hre
          replace hlx := Lib.hid hlx
          replace hl1 := Lib.hid hl1
          replace hl2 := Lib.hid hl2
          replace hla := Lib.hid hla
          obtain ⟨z0, z1, z2, zf⟩ := id hz
          go_enter Tryz.func3, Tryz.ntmps3
          go_wp2_with fail
          refine hre.out.mono ?_
          generalize hw2 : w.alloc (.cells #[.string fp, .slice ar nr cr, .slice ax nx cx] 25) = w2 at *
          have hsw : w.heap.size < w2.heap.size := by rw [← hw2]; simp
          clear hw2 hre
          rintro e w3 ⟨rfl, hb⟩
          replace hz := hz.below hb
          replace hB := below_step hB hb
          replace hsw : w.heap.size < w3.heap.size := Nat.lt_of_lt_of_le hsw hb.size
          clear hb z0 z1 z2 zf
          obtain ⟨z0, z1, z2, zf⟩ := id hz
          go_wp2_with fail
          try have q1 := hq1.out
          try have q2 := hq2.out
          try have q3 := hq3.out
          have kqz0 := fun d os => cell_patch (d := d) (os := os) z0
          have kqz1 := fun d os => cell_patch (d := d) (os := os) z1
          have kqz2 := fun d os => cell_patch (d := d) (os := os) z2
          refine wp_region_quiet_patch (by kernel_rfl) (by kernel_rfl) ?_
          repeat (go_big_quiet_step (first | (go_at_call 6; exact Calls.patch_of (hlx.out _ (below_step hB (below_patch w3 _ _)))) | (go_at_call_of 7 (Value.slice ar nr cr); exact Calls.patch_of (hl1.out _ (below_step hB (below_patch w3 _ _)))) | (go_at_call_of 7 (Value.slice ax nx cx); exact Calls.patch_of (hl2.out _ (below_step hB (below_patch w3 _ _)))) | (go_at_call 8; exact Calls.patch_of (hla.out _ (below_step hB (below_patch w3 _ _))))))
          refine wpQuiet_nil ?_
          intro _ hw'
          obtain ⟨⟨dq, osq⟩, hw''⟩ := hw'
          subst hw''
          clear kqz0 kqz1 kqz2
          have hb := below_patch w3 dq osq
          replace hz := hz.below hb
          replace hB := below_step hB hb
          clear hb
          generalize patch w3 dq osq = w4 at hz hB ⊢
          go_wp2_with fail
          go_ret
          exact ⟨rfl, hB⟩
        · simp only [longI_yes h4] at hl1
          simp only [longI_yes h5] at hl2
          clear h1 h2 h3 h4 h5 hlong H
          replace hre := Lib.hid hre
          replace hlx := Lib.hid hlx
          replace hl1 := Lib.hid hl1
          replace hl2 := Lib.hid hl2
          replace hla := Lib.hid hla
          obtain ⟨z0, z1, z2, zf⟩ := id hz
          go_enter Tryz.func3, Tryz.ntmps3
          go_wp2_with fail
          refine hre.out.mono ?_
          generalize hw2 : w.alloc (.cells #[.string fp, .slice ar nr cr, .slice ax nx cx] 25) = w2 at *
          have hsw : w.heap.size < w2.heap.size := by rw [← hw2]; simp
          clear hw2 hre
          rintro e w3 ⟨rfl, hb⟩
          replace hz := hz.below hb
          replace hB := below_step hB hb
          replace hsw : w.heap.size < w3.heap.size := Nat.lt_of_lt_of_le hsw hb.size
          clear hb z0 z1 z2 zf
          obtain ⟨z0, z1, z2, zf⟩ := id hz
          go_wp2_with fail
          try have q1 := hq1.out
          try have q2 := hq2.out
          try have q3 := hq3.out
          have kqz0 := fun d os => cell_patch (d := d) (os := os) z0
          have kqz1 := fun d os => cell_patch (d := d) (os := os) z1
          have kqz2 := fun d os => cell_patch (d := d) (os := os) z2
          refine wp_region_quiet_patch (by kernel_rfl) (by kernel_rfl) ?_
          repeat (go_big_quiet_step (first | (go_at_call 6; exact Calls.patch_of (hlx.out _ (below_step hB (below_patch w3 _ _)))) | (go_at_call_of 7 (Value.slice ar nr cr); exact Calls.patch_of (hl1.out _ (below_step hB (below_patch w3 _ _)))) | (go_at_call_of 7 (Value.slice ax nx cx); exact Calls.patch_of (hl2.out _ (below_step hB (below_patch w3 _ _)))) | (go_at_call 8; exact Calls.patch_of (hla.out _ (below_step hB (below_patch w3 _ _))))))
          refine wpQuiet_nil ?_
          intro _ hw'
          obtain ⟨⟨dq, osq⟩, hw''⟩ := hw'
          subst hw''
          clear kqz0 kqz1 kqz2
          have hb := below_patch w3 dq osq
          replace hz := hz.below hb
          replace hB := below_step hB hb
          clear hb
          generalize patch w3 dq osq = w4 at hz hB ⊢
          go_wp2_with fail
          go_ret
          exact ⟨rfl, hB⟩
      · have hq2 := Lib.hid (decide_eq_true (p := (70 : Int) < (fp.size : Int)) (by omega))
        clear h1 h2 h3 hlong H
        replace hre := Lib.hid hre
        replace hlx := Lib.hid hlx
        replace hl1 := Lib.hid hl1
        replace hl2 := Lib.hid hl2
        replace hla := Lib.hid hla
        obtain ⟨z0, z1, z2, zf⟩ := id hz
        go_enter Tryz.func3, Tryz.ntmps3
        go_wp2_with fail
        refine hre.out.mono ?_
        generalize hw2 : w.alloc (.cells #[.string fp, .slice ar nr cr, .slice ax nx cx] 25) = w2 at *
        have hsw : w.heap.size < w2.heap.size := by rw [← hw2]; simp
        clear hw2 hre
        rintro e w3 ⟨rfl, hb⟩
        replace hz := hz.below hb
        replace hB := below_step hB hb
        replace hsw : w.heap.size < w3.heap.size := Nat.lt_of_lt_of_le hsw hb.size
        clear hb z0 z1 z2 zf
        obtain ⟨z0, z1, z2, zf⟩ := id hz
        go_wp2_with fail
        try have q1 := hq1.out
        try have q2 := hq2.out
        try have q3 := hq3.out
        have kqz0 := fun d os => cell_patch (d := d) (os := os) z0
        have kqz1 := fun d os => cell_patch (d := d) (os := os) z1
        have kqz2 := fun d os => cell_patch (d := d) (os := os) z2
        refine wp_region_quiet_patch (by kernel_rfl) (by kernel_rfl) ?_
        repeat (go_big_quiet_step (first | (go_at_call 6; exact Calls.patch_of (hlx.out _ (below_step hB (below_patch w3 _ _)))) | (go_at_call_of 7 (Value.slice ar nr cr); exact Calls.patch_of (hl1.out _ (below_step hB (below_patch w3 _ _)))) | (go_at_call_of 7 (Value.slice ax nx cx); exact Calls.patch_of (hl2.out _ (below_step hB (below_patch w3 _ _)))) | (go_at_call 8; exact Calls.patch_of (hla.out _ (below_step hB (below_patch w3 _ _))))))
        refine wpQuiet_nil ?_
        intro _ hw'
        obtain ⟨⟨dq, osq⟩, hw''⟩ := hw'
        subst hw''
        clear kqz0 kqz1 kqz2
        have hb := below_patch w3 dq osq
        replace hz := hz.below hb
        replace hB := below_step hB hb
        clear hb
        generalize patch w3 dq osq = w4 at hz hB ⊢
        go_wp2_with fail
        go_ret
        exact ⟨rfl, hB⟩
    · have hq1 := Lib.hid (decide_eq_true (p := (30 : Int) < (ln : Int)) (by omega))
      clear h1 h2 hlong H
      replace hre := Lib.hid hre
      replace hlx := Lib.hid hlx
      replace hl1 := Lib.hid hl1
      replace hl2 := Lib.hid hl2
      replace hla := Lib.hid hla
      obtain ⟨z0, z1, z2, zf⟩ := id hz
      go_enter Tryz.func3, Tryz.ntmps3
      go_wp2_with fail
      refine hre.out.mono ?_
      generalize hw2 : w.alloc (.cells #[.string fp, .slice ar nr cr, .slice ax nx cx] 25) = w2 at *
      have hsw : w.heap.size < w2.heap.size := by rw [← hw2]; simp
      clear hw2 hre
      rintro e w3 ⟨rfl, hb⟩
      replace hz := hz.below hb
      replace hB := below_step hB hb
      replace hsw : w.heap.size < w3.heap.size := Nat.lt_of_lt_of_le hsw hb.size
      clear hb z0 z1 z2 zf
      obtain ⟨z0, z1, z2, zf⟩ := id hz
      go_wp2_with fail
      try have q1 := hq1.out
      try have q2 := hq2.out
      try have q3 := hq3.out
      have kqz0 := fun d os => cell_patch (d := d) (os := os) z0
      have kqz1 := fun d os => cell_patch (d := d) (os := os) z1
      have kqz2 := fun d os => cell_patch (d := d) (os := os) z2
      refine wp_region_quiet_patch (by kernel_rfl) (by kernel_rfl) ?_
      repeat (go_big_quiet_step (first | (go_at_call 6; exact Calls.patch_of (hlx.out _ (below_step hB (below_patch w3 _ _)))) | (go_at_call_of 7 (Value.slice ar nr cr); exact Calls.patch_of (hl1.out _ (below_step hB (below_patch w3 _ _)))) | (go_at_call_of 7 (Value.slice ax nx cx); exact Calls.patch_of (hl2.out _ (below_step hB (below_patch w3 _ _)))) | (go_at_call 8; exact Calls.patch_of (hla.out _ (below_step hB (below_patch w3 _ _))))))
      refine wpQuiet_nil ?_
      intro _ hw'
      obtain ⟨⟨dq, osq⟩, hw''⟩ := hw'
      subst hw''
      clear kqz0 kqz1 kqz2
      have hb := below_patch w3 dq osq
      replace hz := hz.below hb
      replace hB := below_step hB hb
      clear hb
      generalize patch w3 dq osq = w4 at hz hB ⊢
      go_wp2_with fail
      go_ret
      exact ⟨rfl, hB⟩
end Go.Proofs.Pw

namespace Go.Proofs.Pw
open Go.RowKit
open Go.Lib hiding intOf
theorem mods_cellsS {w : World} {x : Value} {l : List Md} (h : ModsAt w x l) : ∃ a n c P V, x = .slice a n c ∧ l = mdF n P V ∧ ∀ W, Below w.heap.size w W → ∀ j, j < n → ∃ b o, a = some ⟨b, o, none⟩ ∧ W.cell? ⟨b, o + j * 2, none⟩ = some (.string (P j)) ∧ W.cell? ⟨b, o + j * 2 + 1, none⟩ = some (.string (V j)) := by
  obtain ⟨a, n, c, P, V, e1, e2, _, _, h5⟩ := h
  exact ⟨a, n, c, P, V, e1, e2, fun W hW j hj => let ⟨b, o, e, c0, c1⟩ := h5 j hj; ⟨b, o, e, Below.cell_some hW c0, Below.cell_some hW c1⟩⟩
structure StayF (l : List En) (fp : Str) (excl sel T : List Md) : Prop where
  st : startErr l T = (0, -1)
  bd : buildR l T = sel
  few : T.length ≤ 20
  shT : Short T
  shS : Short sel
  file : (fileErr ⟨fp, T, excl⟩).1 ≠ 0 → 0 ≤ findI (hasP fp) sel
  again : sel.length ≤ 10 → (fileErr ⟨fp, T, excl⟩).1 = 0 → getR l ⟨fp, T, excl⟩ (sel.map mdText) = ⟨(0, -1), ⟨fp, T, excl⟩, sel⟩
  txt : ∀ m ∈ sel, (mdText m).length ≤ 1000000
theorem stayF_of {l : List En} {f : Fl} {sel : List Md} (h : SelOk2 l f sel) (hm : ∀ e ∈ l, e.md.1.length ≤ 70 ∧ e.md.2.length ≤ 60) : StayF l f.path f.excl sel (trimR l sel) := by
  have hF := h.facts
  have hst : startErr l (trimR l sel) = (0, -1) := startErr_right h.idx0 fun m hm => h.right.at_ m (hF.sub.subset hm)
  have hsz : ∀ m ∈ sel, m.1.length ≤ 70 ∧ m.2.length ≤ 60 := fun m hs => by
    obtain ⟨e, he, rfl⟩ := h.right.at_ m hs
    exact hm e he
  have hln : sel.length ≤ 100 := by
    have := build_len h.right
    rwa [h.again] at this
  refine ⟨hst, ?_, h.few, ⟨?_, fun m hs => ?_⟩, ⟨?_, fun m hs => ?_⟩, fun he => ?_, get_again h, fun m hs => ?_⟩
  · unfold buildR
    rw [if_pos (by rw [hst])]
    exact hF.same
  · have := h.few; omega
  · have := hsz m (hF.sub.subset hs); omega
  · omega
  · have := hsz m hs; omega
  · rcases Int.lt_or_le (findI (hasP f.path) sel) 0 with hn | hn
    · exfalso
      apply he
      rw [of_right (h.fileOk fun m hs e => ?_)]
      have := findI_eq_none.1 hn m hs
      unfold hasP at this
      simp [e] at this
    · exact hn
  · have h1 := mdText_len m
    have h2 := hsz m hs
    omega
end Go.Proofs.Pw
