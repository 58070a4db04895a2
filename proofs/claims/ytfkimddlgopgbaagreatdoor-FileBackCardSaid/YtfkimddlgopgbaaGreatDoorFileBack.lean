/- FileBack: its walk. -/
import Derived.Test.YtfkimddlgopgbaaGreatDoorFiled
import Derived.Test.YtfkimddlgopgbaaGreatDoorFileDrop
import Derived.Test.YtfkimddlgopgbaaGreatDoorMem2
import Derived.Test.YtfkimddlgopgbaaGreatDoorPatch
import Derived.Deep.RegionWith
namespace Go.Proofs.Pw
open Go.RowKit
open Go.Lib hiding intOf

/-! ### no program in sight -/
theorem longMods_no {l : List Md} {k : Nat} (h : longMods l k = false) : l.length ≤ k ∧ ∀ m ∈ l, m.1.length ≤ 70 ∧ m.2.length ≤ 60 := by
  unfold longMods at h
  rw [Bool.or_eq_false_iff] at h
  refine ⟨by have := of_decide_eq_false h.1; omega, fun m hm => ?_⟩
  have h2 := List.any_eq_false.1 h.2 m hm
  simp only [Bool.or_eq_true, decide_eq_true_eq] at h2
  omega
theorem mlines_le (w : Str) : ∀ (l : List Md), (∀ m ∈ l, m.1.length ≤ 70 ∧ m.2.length ≤ 60) → (mlines w l).length ≤ l.length * (w.length + 133)
  | [], _ => by simp [mlines_nil]
  | m :: l, h => by
    have h1 := h m (by simp)
    have h2 := mlines_le w l (fun x hx => h x (by simp [hx]))
    rw [mlines_cons, List.length_append, List.length_cons, Nat.add_mul, Nat.one_mul]
    have : (mline w m ++ [10]).length = w.length + 1 + m.1.length + 1 + m.2.length + 1 := by simp [mline]; omega
    omega
theorem fileTxt_le {f : Fl} (h : (fileErr f).1 = 0) (hp : f.path.length ≤ 90) (h1 : ∀ m ∈ f.reqs, m.1.length ≤ 70 ∧ m.2.length ≤ 60) (h2 : ∀ m ∈ f.excl, m.1.length ≤ 70 ∧ m.2.length ≤ 60) : (fileTxt f).length ≤ 8000 := by
  have hr := right_of h
  have l1 := mlines_le reqW _ h1
  have l2 := mlines_le excW _ h2
  have h3 := hr.reqs
  have h4 := hr.excl
  unfold fileTxt
  simp only [List.length_append]
  simp only [reqW, excW, modW, List.length_cons, List.length_nil] at l1 l2 ⊢
  have : (mlines reqW f.reqs).length ≤ 20 * 140 := Nat.le_trans l1 (Nat.mul_le_mul h3 (by decide))
  have : (mlines excW f.excl).length ≤ 20 * 140 := Nat.le_trans l2 (Nat.mul_le_mul h4 (by decide))
  simp only [reqW, excW] at *
  omega

/-- what Set and Drop leave, of a right file -/
structure Backed (p : Str) (R X S Y : List Md) (m : Md) (k : Nat) : Prop where
  at_ : findI (fun x : Md => decide (x.1 = m.1)) S = (k : Int)
  get : S[k]? = some m
  more : findI (fun x : Md => decide (x.1 = m.1)) R < 0 → S.length = R.length + 1
  same : 0 ≤ findI (fun x : Md => decide (x.1 = m.1)) R → S.length = R.length
  drop : fileDrop ⟨p, S, X⟩ m.1 = (⟨p, Y, X⟩, 0)
  none : findI (fun x : Md => decide (x.1 = m.1)) Y < 0
  less : Y.length + 1 = S.length
  stay : ∀ x ∈ R, (findI (fun y : Md => decide (y.1 = x.1)) Y < 0 ↔ x.1 = m.1) ∧ ∀ j : Nat, findI (fun y : Md => decide (y.1 = x.1)) Y = j → Y[j]? = some x
theorem backed {p : Str} {R X : List Md} {m : Md} (h0 : (fileErr ⟨p, R, X⟩).1 = 0) (h1 : (fileErr ⟨p, setAt R m, X⟩).1 = 0) :
    Backed p R X (setAt R m) (R.filter fun y => !hasP m.1 y) m (lowAt m.1 R) := by
  have r0 := (right_of h0).rise
  have r1 := (right_of h1).rise
  have hf := setAt_find R m
  have hl := setAt_len r0 m
  have hm : m ∈ setAt R m := List.mem_of_getElem? hf.2
  have hfl := filter_less r1 hm
  have hsf := setAt_filter R m
  rw [hsf] at hfl
  refine ⟨hf.1, hf.2, hl.1, hl.2, ?_, ?_, hfl, fun x hx => stays r0 m.1 hx⟩
  · unfold fileDrop
    rw [if_neg (by simp [h1]), if_neg (by
      show ¬ findI (hasP m.1) (setAt R m) < 0
      rw [hf.1]; omega)]
    show (({ path := p, reqs := (setAt R m).filter (fun x => !hasP m.1 x), excl := X } : Fl), 0) = _
    rw [hsf]
  · show findI (hasP m.1) _ < 0
    rw [findI_eq_none]
    intro x hx
    have := (List.mem_filter.1 hx).2
    simpa using this

/-! ### memory -/
theorem cell_st_away {w : World} {b c j : Nat} {v : Value} (h : w.cell? ⟨b, j, none⟩ = some v) (hc : b ≠ c ∨ 3 ≤ j) (u0 u1 u2 : Value) : (st3 w c u0 u1 u2).cell? ⟨b, j, none⟩ = some v := by
  by_cases e : b = c
  · subst e
    have hj : 3 ≤ j := hc.resolve_left (fun h => h rfl)
    unfold st3
    rw [set_off u2 (by omega), set_off u1 (by omega), set_off u0 (by omega)]; exact h
  · exact cell_sto h e u0 u1 u2
theorem ModsAt.st_away {w : World} {b : Nat} {p : ByteArray} {a1 a2 : Option Addr} {n1 c1 n2 c2 : Nat} {v : Value} {l : List Md} (hz : Box3f w b (.string p) (.slice a1 n1 c1) (.slice a2 n2 c2)) (h : ModsAt w v l) (u0 u1 u2 : Value) : ModsAt (st3 w b u0 u1 u2) v l := by
  obtain ⟨a, n, cap, P, V, rfl, h2, h3, h4, h5⟩ := h
  refine ⟨a, n, cap, P, V, rfl, h2, h3, h4, fun j hj => ?_⟩
  obtain ⟨b', o, rfl, e1, e2⟩ := h5 j hj
  have key : b' ≠ b ∨ 3 ≤ o + j * 2 := by
    by_cases e : b' = b
    · subst e
      refine .inr ?_
      rcases Nat.lt_or_ge (o + j * 2) 3 with h | h
      · exfalso
        generalize o + j * 2 = q at e1 e2 h
        match q, h with
        | 0, _ => rw [hz.c1] at e2; cases e2
        | 1, _ => rw [hz.c1] at e1; cases e1
        | 2, _ => rw [hz.c2] at e1; cases e1
      · exact h
    · exact .inl e
  exact ⟨b', o, rfl, cell_st_away e1 key _ _ _, cell_st_away e2 (key.imp id (by omega)) _ _ _⟩
theorem ModsAt.cells {w : World} {v : Value} {l : List Md} (h : ModsAt w v l) : ∃ a c P V, v = .slice a l.length c ∧ l = mdF l.length P V ∧ ∀ j, j < l.length → ∃ b o, a = some ⟨b, o, none⟩ ∧ w.cell? ⟨b, o + j * 2, none⟩ = some (.string (P j)) ∧ w.cell? ⟨b, o + j * 2 + 1, none⟩ = some (.string (V j)) := by
  obtain ⟨a, n, cap, P, V, rfl, rfl, h3, h4, h5⟩ := h
  rw [mdF_length]
  exact ⟨a, cap, P, V, rfl, rfl, h5⟩
/-- the cells at a place -/
theorem ModsAt.cell {w : World} {v : Value} {l : List Md} {k : Nat} {p q : ByteArray} (h : ModsAt w v l) (hk : l[k]? = some (p.data.toList, q.data.toList)) : ∃ b o c, v = .slice (some ⟨b, o, none⟩) l.length c ∧ k < l.length ∧ w.cell? ⟨b, o + k * 2, none⟩ = some (.string p) ∧ w.cell? ⟨b, o + k * 2 + 1, none⟩ = some (.string q) := by
  obtain ⟨a, n, cap, P, V, rfl, rfl, h3, h4, h5⟩ := h
  have hl : k < n := by have := (List.getElem?_eq_some_iff.1 hk).1; rwa [mdF_length] at this
  obtain ⟨b, o, rfl, e1, e2⟩ := h5 k hl
  rw [mdF_get n P V k hl] at hk
  have := bytes_pair.1 (Option.some.inj hk)
  rw [this.1] at e1
  rw [this.2] at e2
  rw [mdF_length]
  exact ⟨b, o, cap, rfl, hl, e1, e2⟩


set_option maxHeartbeats 4000000 in
set_option maxRecDepth 100000 in
theorem fileBack_long (ks : List Nat) (A : Nat → Addr) (hks : FileKs ks) (p mp mv : ByteArray) (rv xv : Value) (R X : List Md) (w : World) (hE : EnvP ks A w) (hr : ModsAt w rv R) (hx : ModsAt w xv X)
    (hl : 90 < p.size ∨ (p.size ≤ 90 ∧ ((longMods R 25 = true ∧ longMods X 25 = true) ∨ (longMods R 25 = true ∧ longMods X 25 = false) ∨ (longMods R 25 = false ∧ longMods X 25 = true) ∨ (longMods R 25 = false ∧ longMods X 25 = false ∧ (90 < mp.size ∨ (mp.size ≤ 90 ∧ 60 < mv.size)))))) :
    Calls Tryz.prog 3 #[.agg #[.string p, rv, xv], .agg #[.string mp, .string mv]] w fun e w' => e = .returned (.bool true) ∧ Below w.heap.size w w' := by
  obtain ⟨a1, n1, c1, _, _, rfl, _⟩ := id hr
  obtain ⟨a3, n3, c3, _, _, rfl, _⟩ := id hx
  have hb1 := below_alloc w (.cells #[.string p, .slice a1 n1 c1, .slice a3 n3 c3] 24)
  have hb2 := below_alloc (w.alloc (.cells #[.string p, .slice a1 n1 c1, .slice a3 n3 c3] 24)) (.cells #[.string mp, .string mv] 26)
  have hB := below_step hb1 hb2
  have hz := (box3f_alloc w (.string p) (.slice a1 n1 c1) (.slice a3 n3 c3) 24).below hb2
  have cm0 : ((w.alloc (.cells #[.string p, .slice a1 n1 c1, .slice a3 n3 c3] 24)).alloc (.cells #[.string mp, .string mv] 26)).cell? ⟨(w.alloc (.cells #[.string p, .slice a1 n1 c1, .slice a3 n3 c3] 24)).heap.size, 0, none⟩ = some (.string mp) := by simp
  have cm1 : ((w.alloc (.cells #[.string p, .slice a1 n1 c1, .slice a3 n3 c3] 24)).alloc (.cells #[.string mp, .string mv] 26)).cell? ⟨(w.alloc (.cells #[.string p, .slice a1 n1 c1, .slice a3 n3 c3] 24)).heap.size, 1, none⟩ = some (.string mv) := by simp
  simp only [World.size_alloc] at cm0 cm1
  have hfd := filed_calls ks A hks _ (hE.below hB)
  have hl1 : ∀ W, ModsAt W (.slice a1 n1 c1) R → Calls Tryz.prog 9 #[.slice a1 n1 c1, .int .i64 25] W fun e w' => e = .returned (.int .i64 (longI R 25)) ∧ Below W.heap.size W w' := fun W h => (longMods_calls _ R 25 W h).mono fun _ _ ⟨h1, h2⟩ => ⟨h1, h2 ▸ Below.refl _ _⟩
  have hl2 : ∀ W, ModsAt W (.slice a3 n3 c3) X → Calls Tryz.prog 9 #[.slice a3 n3 c3, .int .i64 25] W fun e w' => e = .returned (.int .i64 (longI X 25)) ∧ Below W.heap.size W w' := fun W h => (longMods_calls _ X 25 W h).mono fun _ _ ⟨h1, h2⟩ => ⟨h1, h2 ▸ Below.refl _ _⟩
  replace hfd := Lib.hid hfd
  clear hb1 hb2
  obtain ⟨z0, z1, z2, zf⟩ := id hz
  go_enter Tryz.func3, Tryz.ntmps3
  go_wp2_with fail
  refine hfd.out.mono ?_
  generalize hw2 : (w.alloc (.cells #[.string p, .slice a1 n1 c1, .slice a3 n3 c3] 24)).alloc (.cells #[.string mp, .string mv] 26) = w2 at *
  clear hw2 hfd
  rintro e w3 ⟨rfl, hb⟩
  replace hz := hz.below hb
  replace cm0 := Below.cell_some hb cm0
  replace cm1 := Below.cell_some hb cm1
  replace hB := below_step hB hb
  clear hb z0 z1 z2 zf
  obtain ⟨z0, z1, z2, zf⟩ := id hz
  rcases hl with h1 | ⟨h1, h2⟩
  · have h1' : (90 : Int) < (p.size : Int) := by omega
    clear hl1 hl2
    go_wp2_with fail
    have kqz0 := fun d os => cell_patch (d := d) (os := os) z0
    have kqz1 := fun d os => cell_patch (d := d) (os := os) z1
    have kqz2 := fun d os => cell_patch (d := d) (os := os) z2
    have kqcm0 := fun d os => cell_patch (d := d) (os := os) cm0
    have kqcm1 := fun d os => cell_patch (d := d) (os := os) cm1
    refine wp_region_quiet_patch (by kernel_rfl) (by kernel_rfl) ?_
    repeat (go_big_quiet_step (fail))
    refine wpQuiet_nil ?_
    intro _ hw'
    obtain ⟨⟨dq, osq⟩, hw''⟩ := hw'
    subst hw''
    clear kqz0 kqz1 kqz2 kqcm0 kqcm1
    have hb := below_patch w3 dq osq
    replace hz := hz.below hb
    replace cm0 := Below.cell_some hb cm0
    replace cm1 := Below.cell_some hb cm1
    replace hB := below_step hB hb
    clear hb
    generalize patch w3 dq osq = w4 at hz cm0 cm1 hB ⊢
    go_wp2_with fail
    go_ret
    exact ⟨rfl, hB⟩
  · have h1' : ¬ (90 : Int) < (p.size : Int) := by omega
    rcases h2 with ⟨h2, h3⟩ | ⟨h2, h3⟩ | ⟨h2, h3⟩ | ⟨h2, h3, h4⟩
    · rw [longI_yes h2] at hl1
      rw [longI_yes h3] at hl2
      replace hl1 := Lib.hid hl1
      replace hl2 := Lib.hid hl2
      clear h2 h3
      go_wp2_with fail
      have q1 : decide ((90 : Int) < (p.size : Int)) = false := decide_eq_false (by omega)
      try have q2 : decide ((90 : Int) < (mp.size : Int)) = false := decide_eq_false (by omega)
      try have q3 : decide ((60 : Int) < (mv.size : Int)) = false := decide_eq_false (by omega)
      have kR := Lib.hid (fun d os => hr.below (below_step hB (below_patch w3 d os)))
      have kX := Lib.hid (fun d os => hx.below (below_step hB (below_patch w3 d os)))
      have kqz0 := fun d os => cell_patch (d := d) (os := os) z0
      have kqz1 := fun d os => cell_patch (d := d) (os := os) z1
      have kqz2 := fun d os => cell_patch (d := d) (os := os) z2
      have kqcm0 := fun d os => cell_patch (d := d) (os := os) cm0
      have kqcm1 := fun d os => cell_patch (d := d) (os := os) cm1
      refine wp_region_quiet_patch (by kernel_rfl) (by kernel_rfl) ?_
      repeat (go_big_quiet_step (first | (go_at_call_of 9 (Value.slice a1 n1 c1); exact Calls.patch_of (hl1.out _ (kR.out _ _))) | (go_at_call_of 9 (Value.slice a3 n3 c3); exact Calls.patch_of (hl2.out _ (kX.out _ _)))))
      refine wpQuiet_nil ?_
      intro _ hw'
      obtain ⟨⟨dq, osq⟩, hw''⟩ := hw'
      subst hw''
      clear kqz0 kqz1 kqz2 kqcm0 kqcm1
      have hb := below_patch w3 dq osq
      replace hz := hz.below hb
      replace cm0 := Below.cell_some hb cm0
      replace cm1 := Below.cell_some hb cm1
      replace hB := below_step hB hb
      clear hb
      generalize patch w3 dq osq = w4 at hz cm0 cm1 hB ⊢
      go_wp2_with fail
      go_ret
      exact ⟨rfl, hB⟩
    · rw [longI_yes h2] at hl1
      rw [longI_no h3] at hl2
      replace hl1 := Lib.hid hl1
      replace hl2 := Lib.hid hl2
      clear h2 h3
      go_wp2_with fail
      have q1 : decide ((90 : Int) < (p.size : Int)) = false := decide_eq_false (by omega)
      try have q2 : decide ((90 : Int) < (mp.size : Int)) = false := decide_eq_false (by omega)
      try have q3 : decide ((60 : Int) < (mv.size : Int)) = false := decide_eq_false (by omega)
      have kR := Lib.hid (fun d os => hr.below (below_step hB (below_patch w3 d os)))
      have kX := Lib.hid (fun d os => hx.below (below_step hB (below_patch w3 d os)))
      have kqz0 := fun d os => cell_patch (d := d) (os := os) z0
      have kqz1 := fun d os => cell_patch (d := d) (os := os) z1
      have kqz2 := fun d os => cell_patch (d := d) (os := os) z2
      have kqcm0 := fun d os => cell_patch (d := d) (os := os) cm0
      have kqcm1 := fun d os => cell_patch (d := d) (os := os) cm1
      refine wp_region_quiet_patch (by kernel_rfl) (by kernel_rfl) ?_
      repeat (go_big_quiet_step (first | (go_at_call_of 9 (Value.slice a1 n1 c1); exact Calls.patch_of (hl1.out _ (kR.out _ _))) | (go_at_call_of 9 (Value.slice a3 n3 c3); exact Calls.patch_of (hl2.out _ (kX.out _ _)))))
      refine wpQuiet_nil ?_
      intro _ hw'
      obtain ⟨⟨dq, osq⟩, hw''⟩ := hw'
      subst hw''
      clear kqz0 kqz1 kqz2 kqcm0 kqcm1
      have hb := below_patch w3 dq osq
      replace hz := hz.below hb
      replace cm0 := Below.cell_some hb cm0
      replace cm1 := Below.cell_some hb cm1
      replace hB := below_step hB hb
      clear hb
      generalize patch w3 dq osq = w4 at hz cm0 cm1 hB ⊢
      go_wp2_with fail
      go_ret
      exact ⟨rfl, hB⟩
    · rw [longI_no h2] at hl1
      rw [longI_yes h3] at hl2
      replace hl1 := Lib.hid hl1
      replace hl2 := Lib.hid hl2
      clear h2 h3
      go_wp2_with fail
      have q1 : decide ((90 : Int) < (p.size : Int)) = false := decide_eq_false (by omega)
      try have q2 : decide ((90 : Int) < (mp.size : Int)) = false := decide_eq_false (by omega)
      try have q3 : decide ((60 : Int) < (mv.size : Int)) = false := decide_eq_false (by omega)
      have kR := Lib.hid (fun d os => hr.below (below_step hB (below_patch w3 d os)))
      have kX := Lib.hid (fun d os => hx.below (below_step hB (below_patch w3 d os)))
      have kqz0 := fun d os => cell_patch (d := d) (os := os) z0
      have kqz1 := fun d os => cell_patch (d := d) (os := os) z1
      have kqz2 := fun d os => cell_patch (d := d) (os := os) z2
      have kqcm0 := fun d os => cell_patch (d := d) (os := os) cm0
      have kqcm1 := fun d os => cell_patch (d := d) (os := os) cm1
      refine wp_region_quiet_patch (by kernel_rfl) (by kernel_rfl) ?_
      repeat (go_big_quiet_step (first | (go_at_call_of 9 (Value.slice a1 n1 c1); exact Calls.patch_of (hl1.out _ (kR.out _ _))) | (go_at_call_of 9 (Value.slice a3 n3 c3); exact Calls.patch_of (hl2.out _ (kX.out _ _)))))
      refine wpQuiet_nil ?_
      intro _ hw'
      obtain ⟨⟨dq, osq⟩, hw''⟩ := hw'
      subst hw''
      clear kqz0 kqz1 kqz2 kqcm0 kqcm1
      have hb := below_patch w3 dq osq
      replace hz := hz.below hb
      replace cm0 := Below.cell_some hb cm0
      replace cm1 := Below.cell_some hb cm1
      replace hB := below_step hB hb
      clear hb
      generalize patch w3 dq osq = w4 at hz cm0 cm1 hB ⊢
      go_wp2_with fail
      go_ret
      exact ⟨rfl, hB⟩
    · rw [longI_no h2] at hl1
      rw [longI_no h3] at hl2
      replace hl1 := Lib.hid hl1
      replace hl2 := Lib.hid hl2
      clear h2 h3
      rcases h4 with h4 | ⟨h4, h5⟩
      · have h4' : (90 : Int) < (mp.size : Int) := by omega
        go_wp2_with fail
        have q1 : decide ((90 : Int) < (p.size : Int)) = false := decide_eq_false (by omega)
        try have q2 : decide ((90 : Int) < (mp.size : Int)) = false := decide_eq_false (by omega)
        try have q3 : decide ((60 : Int) < (mv.size : Int)) = false := decide_eq_false (by omega)
        have kR := Lib.hid (fun d os => hr.below (below_step hB (below_patch w3 d os)))
        have kX := Lib.hid (fun d os => hx.below (below_step hB (below_patch w3 d os)))
        have kqz0 := fun d os => cell_patch (d := d) (os := os) z0
        have kqz1 := fun d os => cell_patch (d := d) (os := os) z1
        have kqz2 := fun d os => cell_patch (d := d) (os := os) z2
        have kqcm0 := fun d os => cell_patch (d := d) (os := os) cm0
        have kqcm1 := fun d os => cell_patch (d := d) (os := os) cm1
        refine wp_region_quiet_patch (by kernel_rfl) (by kernel_rfl) ?_
        repeat (go_big_quiet_step (first | (go_at_call_of 9 (Value.slice a1 n1 c1); exact Calls.patch_of (hl1.out _ (kR.out _ _))) | (go_at_call_of 9 (Value.slice a3 n3 c3); exact Calls.patch_of (hl2.out _ (kX.out _ _)))))
        refine wpQuiet_nil ?_
        intro _ hw'
        obtain ⟨⟨dq, osq⟩, hw''⟩ := hw'
        subst hw''
        clear kqz0 kqz1 kqz2 kqcm0 kqcm1
        have hb := below_patch w3 dq osq
        replace hz := hz.below hb
        replace cm0 := Below.cell_some hb cm0
        replace cm1 := Below.cell_some hb cm1
        replace hB := below_step hB hb
        clear hb
        generalize patch w3 dq osq = w4 at hz cm0 cm1 hB ⊢
        go_wp2_with fail
        go_ret
        exact ⟨rfl, hB⟩
      · have h4' : ¬ (90 : Int) < (mp.size : Int) := by omega
        have h5' : (60 : Int) < (mv.size : Int) := by omega
        go_wp2_with fail
        have q1 : decide ((90 : Int) < (p.size : Int)) = false := decide_eq_false (by omega)
        try have q2 : decide ((90 : Int) < (mp.size : Int)) = false := decide_eq_false (by omega)
        try have q3 : decide ((60 : Int) < (mv.size : Int)) = false := decide_eq_false (by omega)
        have kR := Lib.hid (fun d os => hr.below (below_step hB (below_patch w3 d os)))
        have kX := Lib.hid (fun d os => hx.below (below_step hB (below_patch w3 d os)))
        have kqz0 := fun d os => cell_patch (d := d) (os := os) z0
        have kqz1 := fun d os => cell_patch (d := d) (os := os) z1
        have kqz2 := fun d os => cell_patch (d := d) (os := os) z2
        have kqcm0 := fun d os => cell_patch (d := d) (os := os) cm0
        have kqcm1 := fun d os => cell_patch (d := d) (os := os) cm1
        refine wp_region_quiet_patch (by kernel_rfl) (by kernel_rfl) ?_
        repeat (go_big_quiet_step (first | (go_at_call_of 9 (Value.slice a1 n1 c1); exact Calls.patch_of (hl1.out _ (kR.out _ _))) | (go_at_call_of 9 (Value.slice a3 n3 c3); exact Calls.patch_of (hl2.out _ (kX.out _ _)))))
        refine wpQuiet_nil ?_
        intro _ hw'
        obtain ⟨⟨dq, osq⟩, hw''⟩ := hw'
        subst hw''
        clear kqz0 kqz1 kqz2 kqcm0 kqcm1
        have hb := below_patch w3 dq osq
        replace hz := hz.below hb
        replace cm0 := Below.cell_some hb cm0
        replace cm1 := Below.cell_some hb cm1
        replace hB := below_step hB hb
        clear hb
        generalize patch w3 dq osq = w4 at hz cm0 cm1 hB ⊢
        go_wp2_with fail
        go_ret
        exact ⟨rfl, hB⟩
end Go.Proofs.Pw
