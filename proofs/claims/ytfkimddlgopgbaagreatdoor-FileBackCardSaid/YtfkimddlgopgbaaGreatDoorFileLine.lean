/- file.line. Conditions: texts of at most 1000000 bytes. -/
import Derived.Test.YtfkimddlgopgbaaGreatDoorFile3
import Derived.Test.YtfkimddlgopgbaaGreatDoorFileText
import Derived.Test.YtfkimddlgopgbaaGreatDoorVerLong
import Derived.Deep.AppendLies
import Derived.Deep.RegionLaw
namespace Go.Proofs.Pw
open Go.RowKit
open Go.Lib hiding intOf

/-- a file that is being read: its box, and two rows of its own -/
structure FS (base b : Nat) (w : World) (p : ByteArray) (R X : List (ByteArray × ByteArray)) (rv xv : Value) : Prop where
  box : Box3f w b (.string p) rv xv
  le : base ≤ b
  r : w.ownsRow base 26 2 rv R.length (mdVs R)
  x : w.ownsRow base 26 2 xv X.length (mdVs X)
  nr : rv.ownBlock ≠ some b
  nx : xv.ownBlock ≠ some b
  ap : ∀ k, rv.ownBlock = some k → xv.ownBlock ≠ some k
theorem FS.below {base b : Nat} {w w' : World} {p : ByteArray} {R X : List (ByteArray × ByteArray)} {rv xv : Value} (h : FS base b w p R X rv xv) (hb : Below w.heap.size w w') : FS base b w' p R X rv xv :=
  ⟨h.box.below hb, h.le, ownsRow_kept h.r hb, ownsRow_kept h.x hb, h.nr, h.nx, h.ap⟩
def flOf (p : ByteArray) (R X : List (ByteArray × ByteArray)) : Fl := ⟨p.data.toList, mdTs R, mdTs X⟩
theorem Box3f.set0 {w : World} {b : Nat} {v0 v1 v2 : Value} (h : Box3f w b v0 v1 v2) (v : Value) : Box3f (w.setCell ⟨b, 0, none⟩ v) b v v1 v2 :=
  ⟨set_same v h.c0, by rw [set_off v (by decide)]; exact h.c1, by rw [set_off v (by decide)]; exact h.c2, fun i => by simp [h.fz i]⟩
theorem ownsRow_set {w : World} {base e k n b j : Nat} {v : Value} {xs : List Value} (h : w.ownsRow base e k v n xs) (hn : v.ownBlock ≠ some b) (u : Value) : (w.setCell ⟨b, j, none⟩ u).ownsRow base e k v n xs := by
  refine ⟨h.1, ?_⟩
  rcases h.2 with h2 | ⟨g, c, cur, rfl, h2, h3, h4⟩
  · exact .inl h2
  · have hg : g ≠ b := fun e => hn (by rw [e]; rfl)
    exact .inr ⟨g, c, cur, rfl, h2, (Go.Deep.blk_setCell_other _ _ _ _ hg).trans h3, h4⟩
theorem cell_two_new (w : World) (x y : ByteArray) (t : TypeId) : ∀ j u, ([.string x, .string y] : List Value)[j]? = some u → (w.alloc (.cells #[.string x, .string y] t)).cell? ((⟨w.heap.size, 0, none⟩ : Addr).add j) = some u :=
  World.news_of_block (cs := #[.string x, .string y]) (Go.Deep.blk_alloc_new w _)
theorem mdVs_snoc (l : List (ByteArray × ByteArray)) (x y : ByteArray) : mdVs l ++ [.string x, .string y] = mdVs (l ++ [(x, y)]) := by rw [mdVs_append]; rfl
theorem mdTs_snoc (l : List (ByteArray × ByteArray)) (x y : ByteArray) : mdTs (l ++ [(x, y)]) = mdTs l ++ [(x.data.toList, y.data.toList)] := by simp [mdTs]
theorem lineF_three {f : Fl} {s : Str} {i : Nat} (hi : i ≠ 0) {a b c : Str} (h : split s [32] = [a, b, c]) : lineF f s i = if a = reqW ∧ f.excl = [] then (true, { f with reqs := f.reqs ++ [(b, c)] }) else if a = excW then (true, { f with excl := f.excl ++ [(b, c)] }) else (false, f) := by
  unfold lineF
  rw [if_neg hi, h]
theorem lineF_not {f : Fl} {s : Str} {i : Nat} (hi : i ≠ 0) (h : (split s [32]).length ≠ 3) : (lineF f s i).1 = false := by
  unfold lineF
  rw [if_neg hi]
  split
  · rename_i e
    rw [e] at h
    exact absurd rfl h
  · rfl

theorem apart_row {u o : Value} (h : ∀ b, o.ownBlock = some b → u.ownBlock ≠ some b) : u.ownBlock = none ∨ u.ownBlock ≠ o.ownBlock := by
  by_cases hu : u.ownBlock = none
  · exact .inl hu
  · refine .inr (fun e => ?_)
    cases ho : o.ownBlock with
    | none => exact hu (e.trans ho)
    | some b => exact h b ho (e.trans ho)
theorem box_grown {w1 w7 : World} {o : Obj} {b : Nat} {v0 v1 v2 : Value} {row : Option Nat} (h : Box3f w1 b v0 v1 v2) (hg : (w1.drew.alloc o).grownBy w7 row) (hne : some b ≠ row) : Box3f w7 b v0 v1 v2 := by
  have hb : b < w1.heap.size := lt_of_cell h.c0
  have hl : ∀ k, (⟨b, k, none⟩ : Addr).block < (w1.drew.alloc o).heap.size := fun k => by simp; omega
  have ha := below_alloc w1.drew o
  have h' : Box3f w1.drew b v0 v1 v2 := ⟨h.c0, h.c1, h.c2, h.fz⟩
  have h2 := h'.below ha
  exact ⟨(hg.cell_far ⟨b, 0, none⟩ (hl 0) hne).trans h2.c0, (hg.cell_far ⟨b, 1, none⟩ (hl 1) hne).trans h2.c1, (hg.cell_far ⟨b, 2, none⟩ (hl 2) hne).trans h2.c2, fun i => (hg.frozen_far ⟨b, i, none⟩ (hl i) hne).trans (h2.fz i)⟩

set_option maxHeartbeats 2000000 in
set_option maxRecDepth 100000 in
theorem line_req (base b : Nat) (p : ByteArray) (R : List (ByteArray × ByteArray)) (rv : Value) (s : ByteArray) (i : Nat) (w : World) (hE : EnvM w) (h : FS base b w p R [] rv (.slice none 0 0)) (hi : i ≠ 0) (hR : R.length ≤ 100000) (hs : s.size ≤ 1000000) (x y : Str) (hsp : split s.data.toList [32] = [reqW, x, y]) :
    Calls Tryz.prog 49 #[.pointer (some ⟨b, 0, none⟩), .string s, .int .i64 i] w fun e w' => e = .returned (.bool true) ∧ Below base w w' ∧ ∃ (x' y' : ByteArray) (rv' : Value), x'.data.toList = x ∧ y'.data.toList = y ∧ FS base b w' p (R ++ [(x', y')]) [] rv' (.slice none 0 0) := by
  obtain ⟨i0, hi0, hz0, hz1, hz2⟩ := info_parts Tryz.infoMod
  have hbw : b < w.heap.size := lt_of_cell h.box.c0
  have hbase : base ≤ w.heap.size := Nat.le_trans h.le (Nat.le_of_lt hbw)
  have hi2 : ((i : Int) == 0) = false := beq_eq_false_iff_ne.2 (by omega)
  have hspl := split_calls s ⟨#[32]⟩ w hE (by omega) (by decide)
  replace hspl := Lib.hid hspl
  replace h := Lib.hid h
  go_enter Tryz.func49, Tryz.ntmps49
  go_wp2_with fail
  refine hspl.out.mono ?_
  rintro e w1 ⟨n, rfl, hn1, hn2, HL, hb1, hc1, hz1'⟩
  have hL : lstF n (splitL s ⟨#[32]⟩) = [reqW, x, y] := HL.out.trans hsp
  obtain rfl : n = 3 := by have := congrArg List.length hL; rwa [lstF_length] at this
  have h0 := lstF_get 3 (splitL s ⟨#[32]⟩) 0 (by decide)
  have h1 := lstF_get 3 (splitL s ⟨#[32]⟩) 1 (by decide)
  have h2 := lstF_get 3 (splitL s ⟨#[32]⟩) 2 (by decide)
  rw [hL] at h0 h1 h2
  have c0 := hc1 0 (by decide)
  have c1 := hc1 1 (by decide)
  have c2 := hc1 2 (by decide)
  generalize splitL s ⟨#[32]⟩ 1 = x' at h1 c1
  generalize splitL s ⟨#[32]⟩ 2 = y' at h2 c2
  have hx' : x'.data.toList = x := (Option.some.inj h1).symm
  have hy' : y'.data.toList = y := (Option.some.inj h2).symm
  have hr0 : splitL s ⟨#[32]⟩ 0 = ⟨#[114, 101, 113, 117, 105, 114, 101]⟩ := bytes_eq.1 (Option.some.inj h0).symm
  rw [hr0] at c0
  have H1 := (h.out).below hb1
  have HH := Lib.hid H1
  obtain ⟨⟨z0, z1, z2, zf⟩, _, hr, _, hnr, _, _⟩ := id H1
  have hzf1 := zf 1
  have hbw1 : b < w1.heap.size := lt_of_cell z1
  have hbs1 : base ≤ w1.heap.size := Nat.le_trans hbase hb1.size
  clear HL hL h0 h1 h2 hr0 hc1 zf hspl
  go_wp2_with fail
  go_region_law (refine step_append_lies _ rfl (.tmp 52) (.tmp 60) 22 rfl base 26 i0 (.agg #[.string ⟨#[]⟩, .string ⟨#[]⟩]) 2 32 Tryz.underlying22 hi0 hz0 hz1 hz2 rfl (by decide) rv R.length (mdVs R) (by simp [Act.eval, Act.put]) (hr.drew.alloc _) ⟨w1.heap.size, 0, none⟩ 1 1 [.string x', .string y'] (by simp [Act.eval, Act.put]) rfl (cell_two_new w1.drew x' y' _) (fun u hu => by simp at hu; rcases hu with rfl | rfl <;> rfl) (by decide) (by unfold maxLen; omega) (by omega) (by simp; omega) _ rfl ?_; intro g7 c7 w7 hown7 hgrow7 hg7 hl7; have hbx := box_grown HH.out.box hgrow7 (fun e => hnr e.symm); have k1 := hbx.c1; have k2 := hbx.fz 1)
  all_goals
    have hgb : g7 ≠ b := by
      rcases hg7 with e | e
      · exact fun e2 => hnr (by rw [e, e2])
      · simp at e; omega
    have hBel : Below base w w7 := (((hb1.mono hbase).drew).alloc (by simp; omega) _).grown hgrow7 (by simp; omega) (fun q hq => (hr.lt q hq).1)
    have hFS : FS base b (w7.setCell ⟨b, 1, none⟩ (.slice (some ⟨g7, 0, none⟩) (R.length + 1) c7)) p (R ++ [(x', y')]) [] (.slice (some ⟨g7, 0, none⟩) (R.length + 1) c7) (.slice none 0 0) :=
      ⟨hbx.set1 _, HH.out.le, by
        rw [List.length_append, ← mdVs_snoc]
        exact ownsRow_set hown7 (by rw [show (Value.slice (some ⟨g7, 0, none⟩) (R.length + 1) c7).ownBlock = some g7 from rfl]; exact fun e => hgb (Option.some.inj e)) _, World.ownsRow_nil _ _ _ _, fun e => hgb (Option.some.inj e), fun e => (by cases e), fun k _ e => (by cases e)⟩
    have HFS := Lib.hid hFS
    clear hFS hbx
    go_wp2_with fail
    go_ret
    exact ⟨rfl, hBel.setCell (p := ⟨b, 1, none⟩) HH.out.le _, x', y', _, hx', hy', HFS.out⟩

set_option maxHeartbeats 2000000 in
set_option maxRecDepth 100000 in
theorem line_exc (base b : Nat) (p : ByteArray) (R X : List (ByteArray × ByteArray)) (rv xv : Value) (s : ByteArray) (i : Nat) (w : World) (hE : EnvM w) (h : FS base b w p R X rv xv) (hi : i ≠ 0) (hX : X.length ≤ 100000) (hs : s.size ≤ 1000000) (x y : Str) (hsp : split s.data.toList [32] = [excW, x, y]) :
    Calls Tryz.prog 49 #[.pointer (some ⟨b, 0, none⟩), .string s, .int .i64 i] w fun e w' => e = .returned (.bool true) ∧ Below base w w' ∧ ∃ (x' y' : ByteArray) (xv' : Value), x'.data.toList = x ∧ y'.data.toList = y ∧ FS base b w' p R (X ++ [(x', y')]) rv xv' := by
  obtain ⟨i0, hi0, hz0, hz1, hz2⟩ := info_parts Tryz.infoMod
  have hbw : b < w.heap.size := lt_of_cell h.box.c0
  have hbase : base ≤ w.heap.size := Nat.le_trans h.le (Nat.le_of_lt hbw)
  have hi2 : ((i : Int) == 0) = false := beq_eq_false_iff_ne.2 (by omega)
  have hspl := split_calls s ⟨#[32]⟩ w hE (by omega) (by decide)
  replace hspl := Lib.hid hspl
  replace h := Lib.hid h
  go_enter Tryz.func49, Tryz.ntmps49
  go_wp2_with fail
  refine hspl.out.mono ?_
  rintro e w1 ⟨n, rfl, hn1, hn2, HL, hb1, hc1, hz1'⟩
  have hL : lstF n (splitL s ⟨#[32]⟩) = [excW, x, y] := HL.out.trans hsp
  obtain rfl : n = 3 := by have := congrArg List.length hL; rwa [lstF_length] at this
  have h0 := lstF_get 3 (splitL s ⟨#[32]⟩) 0 (by decide)
  have h1 := lstF_get 3 (splitL s ⟨#[32]⟩) 1 (by decide)
  have h2 := lstF_get 3 (splitL s ⟨#[32]⟩) 2 (by decide)
  rw [hL] at h0 h1 h2
  have c0 := hc1 0 (by decide)
  have c1 := hc1 1 (by decide)
  have c2 := hc1 2 (by decide)
  generalize splitL s ⟨#[32]⟩ 1 = x' at h1 c1
  generalize splitL s ⟨#[32]⟩ 2 = y' at h2 c2
  have hx' : x'.data.toList = x := (Option.some.inj h1).symm
  have hy' : y'.data.toList = y := (Option.some.inj h2).symm
  have hr0 : splitL s ⟨#[32]⟩ 0 = ⟨#[101, 120, 99, 108, 117, 100, 101]⟩ := bytes_eq.1 (Option.some.inj h0).symm
  rw [hr0] at c0
  have H1 := (h.out).below hb1
  have HH := Lib.hid H1
  obtain ⟨⟨z0, z1, z2, zf⟩, _, hr, hxr, hnr, hnx, _⟩ := id H1
  have hzf1 := zf 2
  have hbw1 : b < w1.heap.size := lt_of_cell z1
  have hbs1 : base ≤ w1.heap.size := Nat.le_trans hbase hb1.size
  clear HL hL h0 h1 h2 hr0 hc1 zf hspl z1
  go_wp2_with fail
  go_region_law (refine step_append_lies _ rfl (.tmp 73) (.tmp 81) 22 rfl base 26 i0 (.agg #[.string ⟨#[]⟩, .string ⟨#[]⟩]) 2 32 Tryz.underlying22 hi0 hz0 hz1 hz2 rfl (by decide) xv X.length (mdVs X) (by simp [Act.eval, Act.put]) (hxr.drew.alloc _) ⟨w1.heap.size, 0, none⟩ 1 1 [.string x', .string y'] (by simp [Act.eval, Act.put]) rfl (cell_two_new w1.drew x' y' _) (fun u hu => by simp at hu; rcases hu with rfl | rfl <;> rfl) (by decide) (by unfold maxLen; omega) (by omega) (by simp; omega) _ rfl ?_; intro g7 c7 w7 hown7 hgrow7 hg7 hl7; have hbx := box_grown HH.out.box hgrow7 (fun e => hnx e.symm); have k1 := hbx.c2; have k2 := hbx.fz 2)
  all_goals
    have hgb : g7 ≠ b := by
      rcases hg7 with e | e
      · exact fun e2 => hnx (by rw [e, e2])
      · simp at e; omega
    have hBel : Below base w w7 := (((hb1.mono hbase).drew).alloc (by simp; omega) _).grown hgrow7 (by simp; omega) (fun q hq => (hxr.lt q hq).1)
    have hr7 : w7.ownsRow base 26 2 rv R.length (mdVs R) := (hr.drew.alloc _).kept hgrow7 (apart_row (fun k hk e => HH.out.ap k e hk))
    have hap7 : ∀ k, rv.ownBlock = some k → k ≠ g7 := fun k hk e => by
      subst e
      rcases hg7 with e | e
      · exact HH.out.ap _ hk e
      · have := (hr.lt _ hk).2
        simp at e
        omega
    have hFS : FS base b (w7.setCell ⟨b, 2, none⟩ (.slice (some ⟨g7, 0, none⟩) (X.length + 1) c7)) p R (X ++ [(x', y')]) rv (.slice (some ⟨g7, 0, none⟩) (X.length + 1) c7) :=
      ⟨hbx.set2 _, HH.out.le, ownsRow_set hr7 hnr _, by
        rw [List.length_append, ← mdVs_snoc]
        exact ownsRow_set hown7 (by rw [show (Value.slice (some ⟨g7, 0, none⟩) (X.length + 1) c7).ownBlock = some g7 from rfl]; exact fun e => hgb (Option.some.inj e)) _, hnr, fun e => hgb (Option.some.inj e), fun k hk e => hap7 k hk (Option.some.inj e).symm⟩
    have HFS := Lib.hid hFS
    clear hFS hbx
    go_wp2_with fail
    go_ret
    exact ⟨rfl, hBel.setCell (p := ⟨b, 2, none⟩) HH.out.le _, x', y', _, hx', hy', HFS.out⟩

set_option maxHeartbeats 2000000 in
set_option maxRecDepth 100000 in
theorem line_count (base b : Nat) (p : ByteArray) (R X : List (ByteArray × ByteArray)) (rv xv : Value) (s : ByteArray) (i : Nat) (w : World) (hE : EnvM w) (h : FS base b w p R X rv xv) (hi : i ≠ 0) (hs : s.size ≤ 1000000) (hsp : (split s.data.toList [32]).length ≠ 3) :
    Calls Tryz.prog 49 #[.pointer (some ⟨b, 0, none⟩), .string s, .int .i64 i] w fun e w' => e = .returned (.bool false) ∧ Below base w w' := by
  obtain ⟨i0, hi0, hz0, hz1, hz2⟩ := info_parts Tryz.infoMod
  have hbw : b < w.heap.size := lt_of_cell h.box.c0
  have hbase : base ≤ w.heap.size := Nat.le_trans h.le (Nat.le_of_lt hbw)
  have hspl := split_calls s ⟨#[32]⟩ w hE (by omega) (by decide)
  replace hspl := Lib.hid hspl
  replace h := Lib.hid h
  have hi2 : ((i : Int) == 0) = false := beq_eq_false_iff_ne.2 (by omega)
  go_enter Tryz.func49, Tryz.ntmps49
  go_wp2_with fail
  refine hspl.out.mono ?_
  rintro e w1 ⟨n, rfl, hn1, hn2, HL, hb1, hc1, hz1'⟩
  have hn3 : n ≠ 3 := by
    have := HL.out
    rw [← this, lstF_length] at hsp
    exact hsp
  have hn4 : ((n : Int) == 3) = false := beq_eq_false_iff_ne.2 (by omega)
  have hn5 : ((n : Int) != 3) = true := by unfold bne; rw [hn4]; rfl
  clear hsp HL hc1
  go_wp2_with fail
  go_ret
  exact ⟨rfl, hb1.mono hbase⟩
end Go.Proofs.Pw
