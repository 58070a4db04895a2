/- ModBack: its walk. -/
import Derived.Test.YtknaelbmcgiidaaDoorModAhead
import Derived.Test.YtknaelbmcgiidaaDoorModuled
import Derived.Test.YtknaelbmcgiidaaDoorPatch
namespace Go.Proofs.Pw
open Go.RowKit
open Go.Lib hiding intOf

theorem modRead_len (s : Str) : (modRead s).1.length ≤ s.length ∧ (modRead s).2.1.length ≤ s.length := by
  unfold modRead
  simp only
  split
  · exact ⟨Nat.zero_le _, Nat.zero_le _⟩
  · rename_i h
    split
    · exact ⟨Nat.zero_le _, Nat.zero_le _⟩
    · obtain ⟨a, b, e⟩ : ∃ a b, split s [64] = [a, b] := by
        match hs : split s [64], (by simpa using h : (split s [64]).length = 2) with
        | [a, b], _ => exact ⟨a, b, rfl⟩
      have hm := split_mem_le [64] (by simp) s.length s (Nat.le_refl _)
      rw [e] at hm ⊢
      exact ⟨hm a (by simp), hm b (by simp)⟩

set_option maxRecDepth 100000 in
set_option maxHeartbeats 1000000 in
theorem modBack_long (ks : List Nat) (A : Nat → Addr) (h4 : 4 ∈ ks) (p v q u s : ByteArray) (w : World) (hE : EnvP ks A w) (hl : 150 < s.size ∨ (s.size ≤ 150 ∧ 90 < p.size) ∨ (s.size ≤ 150 ∧ p.size ≤ 90 ∧ 60 < v.size) ∨ (s.size ≤ 150 ∧ p.size ≤ 90 ∧ v.size ≤ 60 ∧ 90 < q.size) ∨ (s.size ≤ 150 ∧ p.size ≤ 90 ∧ v.size ≤ 60 ∧ q.size ≤ 90 ∧ 60 < u.size)) :
    Calls Tryd.prog 3 #[.agg #[.string p, .string v], .agg #[.string q, .string u], .string s] w fun e w' => e = .returned (.bool true) ∧ Below w.heap.size w w' := by
  have hb1 := below_alloc w (.cells #[.string p, .string v] 23)
  have hb2 := below_alloc (w.alloc (.cells #[.string p, .string v] 23)) (.cells #[.string q, .string u] 23)
  have hB := below_step hb1 hb2
  have hy := (box2_alloc w (.string p) (.string v) 23).below hb2
  have hz := box2_alloc (w.alloc (.cells #[.string p, .string v] 23)) (.string q) (.string u) 23
  simp only [World.size_alloc] at hz
  replace hE := hE.below hB
  clear hb1 hb2
  rcases hl with h1 | ⟨h1, h2⟩ | ⟨h1, h2, h3⟩ | ⟨h1, h2, h3, h5⟩ | ⟨h1, h2, h3, h5, h6⟩
  all_goals
    go_enter Tryd.func3, Tryd.ntmps3
    go_wp2_with fail
    refine (moduled_calls ks A h4 _ hE).mono ?_
    rintro e w1 ⟨rfl, hb⟩
    replace hB := below_step hB hb
    replace hy := hy.below hb
    replace hz := hz.below hb
    clear hb
    have y0 := hy.c0
    have y1 := hy.c1
    have z0 := hz.c0
    have z1 := hz.c1
    clear hy hz
    go_wp2_with fail
    go_ret
    exact ⟨rfl, hB⟩

theorem mk_bytes (b : ByteArray) : (⟨b.data.toList.toArray⟩ : ByteArray) = b := bytes_eq.1 rfl
/-- Read, told by whether it was read -/
theorem modRead_both (ks : List Nat) (A : Nat → Addr) (h4 : 4 ∈ ks) (s : ByteArray) (hs : s.size ≤ 1000000000) :
    (∃ x y : ByteArray, x.size ≤ 1000000000 ∧ y.size ≤ 1000000000 ∧ modText x.data.toList y.data.toList = s.data.toList ∧ ∀ w, EnvP ks A w → Calls Tryd.prog 5 #[.string s] w fun e w' => e = .returned (.tuple #[.agg #[.string x, .string y], .nilIface]) ∧ Below w.heap.size w w') ∨
    (∃ a : Addr, ∀ w, EnvP ks A w → Calls Tryd.prog 5 #[.string s] w fun e w' => e = .returned (.tuple #[.agg #[.string ⟨#[]⟩, .string ⟨#[]⟩], .iface 110 (.pointer (some a))]) ∧ Below w.heap.size w w') := by
  have h := fun W hW => modRead_calls ks A h4 s W hW hs
  have hl := modRead_len s.data.toList
  rw [size_eq] at hs
  by_cases h0 : (modRead s.data.toList).2.2 = 0
  · left
    refine ⟨⟨(modRead s.data.toList).1.toArray⟩, ⟨(modRead s.data.toList).2.1.toArray⟩, ?_, ?_, text_read h0, fun w hE => ?_⟩
    · rw [size_eq]; exact Nat.le_trans hl.1 hs
    · rw [size_eq]; exact Nat.le_trans hl.2 hs
    · have := h w hE
      rw [h0, errV_zero] at this
      exact this
  · right
    refine ⟨A (modRead s.data.toList).2.2, fun w hE => ?_⟩
    have := h w hE
    obtain ⟨e1, e2⟩ := read_bad h0
    rw [errV_pos A h0, e1, e2] at this
    exact this

set_option maxRecDepth 100000 in
set_option maxHeartbeats 4000000 in
theorem modBack_read (ks : List Nat) (A : Nat → Addr) (h4 : 4 ∈ ks) (p v q u s : ByteArray) (w : World) (hE : EnvP ks A w) (h1 : s.size ≤ 150) (h2 : p.size ≤ 90) (h3 : v.size ≤ 60) (h5 : q.size ≤ 90) (h6 : u.size ≤ 60) (x y : ByteArray) (x9 : x.size ≤ 1000000000) (y9 : y.size ≤ 1000000000) (hxy : modText x.data.toList y.data.toList = s.data.toList) (hr : ∀ w, EnvP ks A w → Calls Tryd.prog 5 #[.string s] w fun e w' => e = .returned (.tuple #[.agg #[.string x, .string y], .nilIface]) ∧ Below w.heap.size w w') :
    Calls Tryd.prog 3 #[.agg #[.string p, .string v], .agg #[.string q, .string u], .string s] w fun e w' => e = .returned (.bool true) ∧ Below w.heap.size w w' := by
  have s9 : s.size ≤ 1000000000 := by omega
  have p9 : p.size ≤ 1000000000 := by omega
  have v9 : v.size ≤ 1000000000 := by omega
  have q9 : q.size ≤ 1000000000 := by omega
  have u9 : u.size ≤ 1000000000 := by omega
  have hb1 := below_alloc w (.cells #[.string p, .string v] 23)
  have hb2 := below_alloc (w.alloc (.cells #[.string p, .string v] 23)) (.cells #[.string q, .string u] 23)
  have hB := below_step hb1 hb2
  have hy := (box2_alloc w (.string p) (.string v) 23).below hb2
  have hz := box2_alloc (w.alloc (.cells #[.string p, .string v] 23)) (.string q) (.string u) 23
  simp only [World.size_alloc] at hz
  replace hE := hE.below hB
  clear hb1 hb2
  have hg := Tryd.md_guard
  have hn0 := md_neq ⟨#[]⟩ ⟨#[]⟩ ⟨#[]⟩ ⟨#[]⟩
  rw [decide_eq_true ⟨rfl, rfl⟩] at hn0
  have hca := fun W hW => modCheck_calls ks A h4 p v W hW p9 v9
  have hcb := fun W hW => modCheck_calls ks A h4 q u W hW q9 u9
  have hta := fun W hW => modText_calls ks A h4 p v W hW p9 v9
  have htb := fun W hW => modText_calls ks A h4 q u W hW q9 u9
  have hab := fun W hW => modAhead_calls ks A p v q u W hW v9 u9
  have hba := fun W hW => modAhead_calls ks A q u p v W hW u9 v9
  have hback := fun (e0 : modErr p.data.toList v.data.toList = 0) W hW => modRead_calls ks A h4 ⟨(modText p.data.toList v.data.toList).toArray⟩ W hW (by
    rw [size_eq]
    show (modText p.data.toList v.data.toList).length ≤ _
    unfold modText
    rw [if_pos e0, List.length_append, List.length_append, ← size_eq, ← size_eq]
    show p.size + 1 + v.size ≤ _
    omega)
  have hback2 : modErr p.data.toList v.data.toList = 0 → ∀ W, EnvP ks A W → Calls Tryd.prog 5 #[.string ⟨(modText p.data.toList v.data.toList).toArray⟩] W fun e w' => e = .returned (.tuple #[.agg #[.string p, .string v], .nilIface]) ∧ Below W.heap.size W w' := fun e0 W hW => by
    have := hback e0 W hW
    rw [show (⟨(modText p.data.toList v.data.toList).toArray⟩ : ByteArray).data.toList = modText p.data.toList v.data.toList from rfl, read_text e0, errV_zero] at this
    rw [mk_bytes, mk_bytes] at this
    exact this
  have hn1 := md_neq p v p v
  rw [decide_eq_true ⟨rfl, rfl⟩] at hn1
  have hbad : modErr p.data.toList v.data.toList ≠ 0 → modText p.data.toList v.data.toList = [] := fun h => by unfold modText; rw [if_neg h]
  replace hca := Lib.hid hca
  replace hcb := Lib.hid hcb
  replace hta := Lib.hid hta
  replace htb := Lib.hid htb
  replace hab := Lib.hid hab
  replace hba := Lib.hid hba
  replace hback2 := Lib.hid hback2
  replace hbad := Lib.hid hbad
  clear hback
  have htx := fun W hW => modText_calls ks A h4 x y W hW x9 y9
  rw [hxy, mk_bytes] at htx
  replace hr := Lib.hid hr
  replace htx := Lib.hid htx
  clear hxy
  go_enter Tryd.func3, Tryd.ntmps3
  go_wp2_with fail
  refine (moduled_calls ks A h4 _ hE).mono ?_
  rintro e w1 ⟨rfl, hb⟩
  replace hB := below_step hB hb
  replace hE := hE.below hb
  replace hy := hy.below hb
  replace hz := hz.below hb
  clear hb
  obtain ⟨y0, y1, yf⟩ := hy
  obtain ⟨z0, z1, zf⟩ := hz
  clear yf zf
  go_wp2_with fail
  refine (hr.out _ hE).mono ?_
  rintro e w2 ⟨rfl, hb⟩
  replace hB := below_step hB hb
  replace hE := hE.below hb
  replace y0 := Below.cell_some hb y0
  replace y1 := Below.cell_some hb y1
  replace z0 := Below.cell_some hb z0
  replace z1 := Below.cell_some hb z1
  clear hb
  have hb := below_alloc w2 (.cells #[.string x, .string y] 23)
  obtain ⟨c0, c1, _⟩ := box2_alloc w2 (.string x) (.string y) 23
  replace hB := below_step hB hb
  replace hE := hE.below hb
  replace y0 := Below.cell_some hb y0
  replace y1 := Below.cell_some hb y1
  replace z0 := Below.cell_some hb z0
  replace z1 := Below.cell_some hb z1
  clear hb
  go_wp2_with fail
  refine (htx.out _ hE).mono ?_
  rintro e w3 ⟨rfl, hb⟩
  replace hB := below_step hB hb
  replace hE := hE.below hb
  replace y0 := Below.cell_some hb y0
  replace y1 := Below.cell_some hb y1
  replace z0 := Below.cell_some hb z0
  replace z1 := Below.cell_some hb z1
  clear hb
  clear c0 c1 htx
  go_wp2_with fail
  refine (hca.out _ hE).mono ?_
  rintro e w4 ⟨rfl, hb⟩
  replace hB := below_step hB hb
  replace hE := hE.below hb
  replace y0 := Below.cell_some hb y0
  replace y1 := Below.cell_some hb y1
  replace z0 := Below.cell_some hb z0
  replace z1 := Below.cell_some hb z1
  clear hb
  by_cases hea : modErr p.data.toList v.data.toList = 0
  · have hbk := hback2.out hea
    rw [hea, errV_zero]
    replace hbk := Lib.hid hbk
    replace hea := Lib.hid hea
    clear hback2 hbad
    go_wp2_with fail
    refine (hta.out _ hE).mono ?_
    rintro e w5 ⟨rfl, hb⟩
    replace hB := below_step hB hb
    replace hE := hE.below hb
    replace y0 := Below.cell_some hb y0
    replace y1 := Below.cell_some hb y1
    replace z0 := Below.cell_some hb z0
    replace z1 := Below.cell_some hb z1
    clear hb
    go_wp2_with fail
    refine (hbk.out _ hE).mono ?_
    rintro e w6 ⟨rfl, hb⟩
    replace hB := below_step hB hb
    replace hE := hE.below hb
    replace y0 := Below.cell_some hb y0
    replace y1 := Below.cell_some hb y1
    replace z0 := Below.cell_some hb z0
    replace z1 := Below.cell_some hb z1
    clear hb
    have hb := below_alloc w6 (.cells #[.string p, .string v] 23)
    obtain ⟨d0, d1, _⟩ := box2_alloc w6 (.string p) (.string v) 23
    replace hB := below_step hB hb
    replace hE := hE.below hb
    replace y0 := Below.cell_some hb y0
    replace y1 := Below.cell_some hb y1
    replace z0 := Below.cell_some hb z0
    replace z1 := Below.cell_some hb z1
    clear hb
    go_wp2_with fail
    refine (hcb.out _ hE).mono ?_
    rintro e w7 ⟨rfl, hb⟩
    replace hB := below_step hB hb
    replace hE := hE.below hb
    replace y0 := Below.cell_some hb y0
    replace y1 := Below.cell_some hb y1
    replace z0 := Below.cell_some hb z0
    replace z1 := Below.cell_some hb z1
    clear hb
    clear d0 d1
    by_cases heb : modErr q.data.toList u.data.toList = 0
    · have hone := ahead_one (a := (p.data.toList, v.data.toList)) (b := (q.data.toList, u.data.toList)) hea.out heb
      have hinj := text_inj (a := (p.data.toList, v.data.toList)) (b := (q.data.toList, u.data.toList)) hea.out heb
      rw [heb, errV_zero]
      clear heb
      by_cases hpq : p = q ∧ v = u
      · obtain ⟨rfl, rfl⟩ := hpq
        have hq1 := md_eql p v p v
        rw [decide_eq_true ⟨rfl, rfl⟩] at hq1
        clear hone hinj hba htb
        generalize modAhead (p.data.toList, v.data.toList) (p.data.toList, v.data.toList) = X at hab
        generalize modText p.data.toList v.data.toList = Y at hta
        go_wp2_with fail
        have k0 := fun d os => cell_patch (d := d) (os := os) y0
        have k1 := fun d os => cell_patch (d := d) (os := os) y1
        have k2 := fun d os => cell_patch (d := d) (os := os) z0
        have k3 := fun d os => cell_patch (d := d) (os := os) z1
        have kE := Lib.hid (fun d os => hE.below (below_patch w7 d os))
        cases X
        all_goals
          refine wp_region_quiet_patch (by kernel_rfl) (by kernel_rfl) ?_
          repeat (quiet_step (first | (go_at_call 8; exact Calls.patch_of (hab.out _ (kE.out _ _))) | (go_at_call 6; exact Calls.patch_of (hta.out _ (kE.out _ _)))))
          refine wpQuiet_nil ?_
          intro _ hw'
          obtain ⟨⟨dq, osq⟩, hw''⟩ := hw'
          subst hw''
          have hb := below_patch w7 dq osq
          replace hB := below_step hB hb
          replace hE := hE.below hb
          replace y0 := Below.cell_some hb y0
          replace y1 := Below.cell_some hb y1
          replace z0 := Below.cell_some hb z0
          replace z1 := Below.cell_some hb z1
          clear hb
          generalize patch w7 dq osq = w8 at hB hE y0 y1 z0 z1 ⊢
          go_wp2_with fail
          go_ret
          exact ⟨rfl, hB⟩
      · have hq1 := md_eql p v q u
        have hq2 := md_neq p v q u
        rw [decide_eq_false hpq] at hq1 hq2
        have hne : ((p.data.toList, v.data.toList) : Md) ≠ (q.data.toList, u.data.toList) := fun e => hpq ⟨bytes_eq.1 (Prod.ext_iff.1 e).1, bytes_eq.1 (Prod.ext_iff.1 e).2⟩
        rw [decide_eq_false hne] at hone hinj
        have hx0 : modText p.data.toList v.data.toList ≠ modText q.data.toList u.data.toList := fun e => by
          have := of_decide_eq_false hinj.symm
          exact this e
        clear hinj hne hpq
        generalize modAhead (p.data.toList, v.data.toList) (q.data.toList, u.data.toList) = X at hab hone
        generalize modAhead (q.data.toList, u.data.toList) (p.data.toList, v.data.toList) = X' at hba hone
        have hx2 : (⟨(modText p.data.toList v.data.toList).toArray⟩ : ByteArray) ≠ ⟨(modText q.data.toList u.data.toList).toArray⟩ := fun e => hx0 (congrArg (fun b : ByteArray => b.data.toList) e)
        generalize (⟨(modText p.data.toList v.data.toList).toArray⟩ : ByteArray) = Y at hta hx2
        generalize (⟨(modText q.data.toList u.data.toList).toArray⟩ : ByteArray) = Y' at htb hx2
        have hx3 : Y.toList ≠ Y'.toList := fun e => hx2 (by rw [toList_data, toList_data] at e; exact bytes_eq.1 e)
        have hx1 : (Y.toList == Y'.toList) = false := beq_eq_false_iff_ne.2 hx3
        go_wp2_with fail
        have k0 := fun d os => cell_patch (d := d) (os := os) y0
        have k1 := fun d os => cell_patch (d := d) (os := os) y1
        have k2 := fun d os => cell_patch (d := d) (os := os) z0
        have k3 := fun d os => cell_patch (d := d) (os := os) z1
        have kE := Lib.hid (fun d os => hE.below (below_patch w7 d os))
        cases X <;> cases X' <;> first | (exfalso; revert hone; decide) | skip
        all_goals
          clear hone hx0
          refine wp_region_quiet_patch (by kernel_rfl) (by kernel_rfl) ?_
          repeat (quiet_step (first | (go_at_call 8; first | (with_reducible exact Calls.patch_of (hab.out _ (kE.out _ _))) | (with_reducible exact Calls.patch_of (hba.out _ (kE.out _ _)))) | (go_at_call 6; first | (with_reducible exact Calls.patch_of (hta.out _ (kE.out _ _))) | (with_reducible exact Calls.patch_of (htb.out _ (kE.out _ _))))))
          refine wpQuiet_nil ?_
          intro _ hw'
          obtain ⟨⟨dq, osq⟩, hw''⟩ := hw'
          subst hw''
          have hb := below_patch w7 dq osq
          replace hB := below_step hB hb
          replace hE := hE.below hb
          replace y0 := Below.cell_some hb y0
          replace y1 := Below.cell_some hb y1
          replace z0 := Below.cell_some hb z0
          replace z1 := Below.cell_some hb z1
          clear hb
          generalize patch w7 dq osq = w8 at hB hE y0 y1 z0 z1 ⊢
          go_wp2_with fail
          go_ret
          exact ⟨rfl, hB⟩
    · rw [errV_pos A heb]
      go_wp2_with fail
      go_ret
      exact ⟨rfl, hB⟩
  · have hE0 := hbad.out hea
    rw [errV_pos A hea]
    rw [hE0] at hta
    clear hback2 hbad hea hE0
    go_wp2_with fail
    refine (hta.out _ hE).mono ?_
    rintro e w5 ⟨rfl, hb⟩
    replace hB := below_step hB hb
    replace hE := hE.below hb
    replace y0 := Below.cell_some hb y0
    replace y1 := Below.cell_some hb y1
    replace z0 := Below.cell_some hb z0
    replace z1 := Below.cell_some hb z1
    clear hb
    go_wp2_with fail
    go_ret
    exact ⟨rfl, hB⟩

set_option maxRecDepth 100000 in
set_option maxHeartbeats 4000000 in
theorem modBack_unread (ks : List Nat) (A : Nat → Addr) (h4 : 4 ∈ ks) (p v q u s : ByteArray) (w : World) (hE : EnvP ks A w) (h1 : s.size ≤ 150) (h2 : p.size ≤ 90) (h3 : v.size ≤ 60) (h5 : q.size ≤ 90) (h6 : u.size ≤ 60) (a : Addr) (hr : ∀ w, EnvP ks A w → Calls Tryd.prog 5 #[.string s] w fun e w' => e = .returned (.tuple #[.agg #[.string ⟨#[]⟩, .string ⟨#[]⟩], .iface 110 (.pointer (some a))]) ∧ Below w.heap.size w w') :
    Calls Tryd.prog 3 #[.agg #[.string p, .string v], .agg #[.string q, .string u], .string s] w fun e w' => e = .returned (.bool true) ∧ Below w.heap.size w w' := by
  have s9 : s.size ≤ 1000000000 := by omega
  have p9 : p.size ≤ 1000000000 := by omega
  have v9 : v.size ≤ 1000000000 := by omega
  have q9 : q.size ≤ 1000000000 := by omega
  have u9 : u.size ≤ 1000000000 := by omega
  have hb1 := below_alloc w (.cells #[.string p, .string v] 23)
  have hb2 := below_alloc (w.alloc (.cells #[.string p, .string v] 23)) (.cells #[.string q, .string u] 23)
  have hB := below_step hb1 hb2
  have hy := (box2_alloc w (.string p) (.string v) 23).below hb2
  have hz := box2_alloc (w.alloc (.cells #[.string p, .string v] 23)) (.string q) (.string u) 23
  simp only [World.size_alloc] at hz
  replace hE := hE.below hB
  clear hb1 hb2
  have hg := Tryd.md_guard
  have hn0 := md_neq ⟨#[]⟩ ⟨#[]⟩ ⟨#[]⟩ ⟨#[]⟩
  rw [decide_eq_true ⟨rfl, rfl⟩] at hn0
  have hca := fun W hW => modCheck_calls ks A h4 p v W hW p9 v9
  have hcb := fun W hW => modCheck_calls ks A h4 q u W hW q9 u9
  have hta := fun W hW => modText_calls ks A h4 p v W hW p9 v9
  have htb := fun W hW => modText_calls ks A h4 q u W hW q9 u9
  have hab := fun W hW => modAhead_calls ks A p v q u W hW v9 u9
  have hba := fun W hW => modAhead_calls ks A q u p v W hW u9 v9
  have hback := fun (e0 : modErr p.data.toList v.data.toList = 0) W hW => modRead_calls ks A h4 ⟨(modText p.data.toList v.data.toList).toArray⟩ W hW (by
    rw [size_eq]
    show (modText p.data.toList v.data.toList).length ≤ _
    unfold modText
    rw [if_pos e0, List.length_append, List.length_append, ← size_eq, ← size_eq]
    show p.size + 1 + v.size ≤ _
    omega)
  have hback2 : modErr p.data.toList v.data.toList = 0 → ∀ W, EnvP ks A W → Calls Tryd.prog 5 #[.string ⟨(modText p.data.toList v.data.toList).toArray⟩] W fun e w' => e = .returned (.tuple #[.agg #[.string p, .string v], .nilIface]) ∧ Below W.heap.size W w' := fun e0 W hW => by
    have := hback e0 W hW
    rw [show (⟨(modText p.data.toList v.data.toList).toArray⟩ : ByteArray).data.toList = modText p.data.toList v.data.toList from rfl, read_text e0, errV_zero] at this
    rw [mk_bytes, mk_bytes] at this
    exact this
  have hn1 := md_neq p v p v
  rw [decide_eq_true ⟨rfl, rfl⟩] at hn1
  have hbad : modErr p.data.toList v.data.toList ≠ 0 → modText p.data.toList v.data.toList = [] := fun h => by unfold modText; rw [if_neg h]
  replace hca := Lib.hid hca
  replace hcb := Lib.hid hcb
  replace hta := Lib.hid hta
  replace htb := Lib.hid htb
  replace hab := Lib.hid hab
  replace hba := Lib.hid hba
  replace hback2 := Lib.hid hback2
  replace hbad := Lib.hid hbad
  clear hback
  replace hr := Lib.hid hr
  go_enter Tryd.func3, Tryd.ntmps3
  go_wp2_with fail
  refine (moduled_calls ks A h4 _ hE).mono ?_
  rintro e w1 ⟨rfl, hb⟩
  replace hB := below_step hB hb
  replace hE := hE.below hb
  replace hy := hy.below hb
  replace hz := hz.below hb
  clear hb
  obtain ⟨y0, y1, yf⟩ := hy
  obtain ⟨z0, z1, zf⟩ := hz
  clear yf zf
  go_wp2_with fail
  refine (hr.out _ hE).mono ?_
  rintro e w2 ⟨rfl, hb⟩
  replace hB := below_step hB hb
  replace hE := hE.below hb
  replace y0 := Below.cell_some hb y0
  replace y1 := Below.cell_some hb y1
  replace z0 := Below.cell_some hb z0
  replace z1 := Below.cell_some hb z1
  clear hb
  have hb := below_alloc w2 (.cells #[.string ⟨#[]⟩, .string ⟨#[]⟩] 23)
  obtain ⟨c0, c1, _⟩ := box2_alloc w2 (.string ⟨#[]⟩) (.string ⟨#[]⟩) 23
  replace hB := below_step hB hb
  replace hE := hE.below hb
  replace y0 := Below.cell_some hb y0
  replace y1 := Below.cell_some hb y1
  replace z0 := Below.cell_some hb z0
  replace z1 := Below.cell_some hb z1
  clear hb
  go_wp2_with fail
  generalize w2.alloc (.cells #[.string ⟨#[]⟩, .string ⟨#[]⟩] 23) = w3 at hB hE y0 y1 z0 z1 c0 c1 ⊢
  go_wp2_with fail
  refine (hca.out _ hE).mono ?_
  rintro e w4 ⟨rfl, hb⟩
  replace hB := below_step hB hb
  replace hE := hE.below hb
  replace y0 := Below.cell_some hb y0
  replace y1 := Below.cell_some hb y1
  replace z0 := Below.cell_some hb z0
  replace z1 := Below.cell_some hb z1
  clear hb
  by_cases hea : modErr p.data.toList v.data.toList = 0
  · have hbk := hback2.out hea
    rw [hea, errV_zero]
    replace hbk := Lib.hid hbk
    replace hea := Lib.hid hea
    clear hback2 hbad
    go_wp2_with fail
    refine (hta.out _ hE).mono ?_
    rintro e w5 ⟨rfl, hb⟩
    replace hB := below_step hB hb
    replace hE := hE.below hb
    replace y0 := Below.cell_some hb y0
    replace y1 := Below.cell_some hb y1
    replace z0 := Below.cell_some hb z0
    replace z1 := Below.cell_some hb z1
    clear hb
    go_wp2_with fail
    refine (hbk.out _ hE).mono ?_
    rintro e w6 ⟨rfl, hb⟩
    replace hB := below_step hB hb
    replace hE := hE.below hb
    replace y0 := Below.cell_some hb y0
    replace y1 := Below.cell_some hb y1
    replace z0 := Below.cell_some hb z0
    replace z1 := Below.cell_some hb z1
    clear hb
    have hb := below_alloc w6 (.cells #[.string p, .string v] 23)
    obtain ⟨d0, d1, _⟩ := box2_alloc w6 (.string p) (.string v) 23
    replace hB := below_step hB hb
    replace hE := hE.below hb
    replace y0 := Below.cell_some hb y0
    replace y1 := Below.cell_some hb y1
    replace z0 := Below.cell_some hb z0
    replace z1 := Below.cell_some hb z1
    clear hb
    go_wp2_with fail
    refine (hcb.out _ hE).mono ?_
    rintro e w7 ⟨rfl, hb⟩
    replace hB := below_step hB hb
    replace hE := hE.below hb
    replace y0 := Below.cell_some hb y0
    replace y1 := Below.cell_some hb y1
    replace z0 := Below.cell_some hb z0
    replace z1 := Below.cell_some hb z1
    clear hb
    clear d0 d1
    by_cases heb : modErr q.data.toList u.data.toList = 0
    · have hone := ahead_one (a := (p.data.toList, v.data.toList)) (b := (q.data.toList, u.data.toList)) hea.out heb
      have hinj := text_inj (a := (p.data.toList, v.data.toList)) (b := (q.data.toList, u.data.toList)) hea.out heb
      rw [heb, errV_zero]
      clear heb
      by_cases hpq : p = q ∧ v = u
      · obtain ⟨rfl, rfl⟩ := hpq
        have hq1 := md_eql p v p v
        rw [decide_eq_true ⟨rfl, rfl⟩] at hq1
        clear hone hinj hba htb
        generalize modAhead (p.data.toList, v.data.toList) (p.data.toList, v.data.toList) = X at hab
        generalize modText p.data.toList v.data.toList = Y at hta
        go_wp2_with fail
        have k0 := fun d os => cell_patch (d := d) (os := os) y0
        have k1 := fun d os => cell_patch (d := d) (os := os) y1
        have k2 := fun d os => cell_patch (d := d) (os := os) z0
        have k3 := fun d os => cell_patch (d := d) (os := os) z1
        have kE := Lib.hid (fun d os => hE.below (below_patch w7 d os))
        cases X
        all_goals
          refine wp_region_quiet_patch (by kernel_rfl) (by kernel_rfl) ?_
          repeat (quiet_step (first | (go_at_call 8; exact Calls.patch_of (hab.out _ (kE.out _ _))) | (go_at_call 6; exact Calls.patch_of (hta.out _ (kE.out _ _)))))
          refine wpQuiet_nil ?_
          intro _ hw'
          obtain ⟨⟨dq, osq⟩, hw''⟩ := hw'
          subst hw''
          have hb := below_patch w7 dq osq
          replace hB := below_step hB hb
          replace hE := hE.below hb
          replace y0 := Below.cell_some hb y0
          replace y1 := Below.cell_some hb y1
          replace z0 := Below.cell_some hb z0
          replace z1 := Below.cell_some hb z1
          clear hb
          generalize patch w7 dq osq = w8 at hB hE y0 y1 z0 z1 ⊢
          go_wp2_with fail
          go_ret
          exact ⟨rfl, hB⟩
      · have hq1 := md_eql p v q u
        have hq2 := md_neq p v q u
        rw [decide_eq_false hpq] at hq1 hq2
        have hne : ((p.data.toList, v.data.toList) : Md) ≠ (q.data.toList, u.data.toList) := fun e => hpq ⟨bytes_eq.1 (Prod.ext_iff.1 e).1, bytes_eq.1 (Prod.ext_iff.1 e).2⟩
        rw [decide_eq_false hne] at hone hinj
        have hx0 : modText p.data.toList v.data.toList ≠ modText q.data.toList u.data.toList := fun e => by
          have := of_decide_eq_false hinj.symm
          exact this e
        clear hinj hne hpq
        generalize modAhead (p.data.toList, v.data.toList) (q.data.toList, u.data.toList) = X at hab hone
        generalize modAhead (q.data.toList, u.data.toList) (p.data.toList, v.data.toList) = X' at hba hone
        have hx2 : (⟨(modText p.data.toList v.data.toList).toArray⟩ : ByteArray) ≠ ⟨(modText q.data.toList u.data.toList).toArray⟩ := fun e => hx0 (congrArg (fun b : ByteArray => b.data.toList) e)
        generalize (⟨(modText p.data.toList v.data.toList).toArray⟩ : ByteArray) = Y at hta hx2
        generalize (⟨(modText q.data.toList u.data.toList).toArray⟩ : ByteArray) = Y' at htb hx2
        have hx3 : Y.toList ≠ Y'.toList := fun e => hx2 (by rw [toList_data, toList_data] at e; exact bytes_eq.1 e)
        have hx1 : (Y.toList == Y'.toList) = false := beq_eq_false_iff_ne.2 hx3
        go_wp2_with fail
        have k0 := fun d os => cell_patch (d := d) (os := os) y0
        have k1 := fun d os => cell_patch (d := d) (os := os) y1
        have k2 := fun d os => cell_patch (d := d) (os := os) z0
        have k3 := fun d os => cell_patch (d := d) (os := os) z1
        have kE := Lib.hid (fun d os => hE.below (below_patch w7 d os))
        cases X <;> cases X' <;> first | (exfalso; revert hone; decide) | skip
        all_goals
          clear hone hx0
          refine wp_region_quiet_patch (by kernel_rfl) (by kernel_rfl) ?_
          repeat (quiet_step (first | (go_at_call 8; first | (with_reducible exact Calls.patch_of (hab.out _ (kE.out _ _))) | (with_reducible exact Calls.patch_of (hba.out _ (kE.out _ _)))) | (go_at_call 6; first | (with_reducible exact Calls.patch_of (hta.out _ (kE.out _ _))) | (with_reducible exact Calls.patch_of (htb.out _ (kE.out _ _))))))
          refine wpQuiet_nil ?_
          intro _ hw'
          obtain ⟨⟨dq, osq⟩, hw''⟩ := hw'
          subst hw''
          have hb := below_patch w7 dq osq
          replace hB := below_step hB hb
          replace hE := hE.below hb
          replace y0 := Below.cell_some hb y0
          replace y1 := Below.cell_some hb y1
          replace z0 := Below.cell_some hb z0
          replace z1 := Below.cell_some hb z1
          clear hb
          generalize patch w7 dq osq = w8 at hB hE y0 y1 z0 z1 ⊢
          go_wp2_with fail
          go_ret
          exact ⟨rfl, hB⟩
    · rw [errV_pos A heb]
      go_wp2_with fail
      go_ret
      exact ⟨rfl, hB⟩
  · have hE0 := hbad.out hea
    rw [errV_pos A hea]
    rw [hE0] at hta
    clear hback2 hbad hea hE0
    go_wp2_with fail
    refine (hta.out _ hE).mono ?_
    rintro e w5 ⟨rfl, hb⟩
    replace hB := below_step hB hb
    replace hE := hE.below hb
    replace y0 := Below.cell_some hb y0
    replace y1 := Below.cell_some hb y1
    replace z0 := Below.cell_some hb z0
    replace z1 := Below.cell_some hb z1
    clear hb
    go_wp2_with fail
    go_ret
    exact ⟨rfl, hB⟩

theorem modBack_main (ks : List Nat) (A : Nat → Addr) (h4 : 4 ∈ ks) (p v q u s : ByteArray) (w : World) (hE : EnvP ks A w) (h1 : s.size ≤ 150) (h2 : p.size ≤ 90) (h3 : v.size ≤ 60) (h5 : q.size ≤ 90) (h6 : u.size ≤ 60) :
    Calls Tryd.prog 3 #[.agg #[.string p, .string v], .agg #[.string q, .string u], .string s] w fun e w' => e = .returned (.bool true) ∧ Below w.heap.size w w' := by
  rcases modRead_both ks A h4 s (by omega) with ⟨x, y, x9, y9, hxy, hr⟩ | ⟨a, hr⟩
  · exact modBack_read ks A h4 p v q u s w hE h1 h2 h3 h5 h6 x y x9 y9 hxy hr
  · exact modBack_unread ks A h4 p v q u s w hE h1 h2 h3 h5 h6 a hr

theorem modBack_calls (ks : List Nat) (A : Nat → Addr) (h4 : 4 ∈ ks) (p v q u s : ByteArray) (w : World) (hE : EnvP ks A w) :
    Calls Tryd.prog 3 #[.agg #[.string p, .string v], .agg #[.string q, .string u], .string s] w fun e w' => e = .returned (.bool true) ∧ Below w.heap.size w w' := by
  by_cases h : s.size ≤ 150 ∧ p.size ≤ 90 ∧ v.size ≤ 60 ∧ q.size ≤ 90 ∧ u.size ≤ 60
  · exact modBack_main ks A h4 p v q u s w hE h.1 h.2.1 h.2.2.1 h.2.2.2.1 h.2.2.2.2
  · exact modBack_long ks A h4 p v q u s w hE (by omega)
end Go.Proofs.Pw
