/- file.line: lines that are refused; the first line; all. Conditions: texts of at most 1000000 bytes. -/
import Derived.Test.YtfkimddlgopgbaaGreatDoorFileLine
namespace Go.Proofs.Pw
open Go.RowKit
open Go.Lib hiding intOf

theorem lit_ne {x : ByteArray} {l : Str} {q : ByteArray} (hq : q.data.toList = l) (h : x.data.toList ≠ l) : (x.toList == q.toList) = false ∧ x.toList ≠ q.toList ∧ x ≠ q := by
  refine ⟨?_, ?_, fun e => h (by rw [e, hq])⟩
  · rw [toList_data, toList_data, hq]; exact beq_eq_false_iff_ne.2 h
  · rw [toList_data, toList_data, hq]; exact h
theorem lit_ne' {x : ByteArray} {l : Str} (h : x.data.toList ≠ l) : (x.toList == l) = false ∧ x.toList ≠ l := by
  refine ⟨?_, ?_⟩
  · rw [toList_data]; exact beq_eq_false_iff_ne.2 h
  · rw [toList_data]; exact h

set_option maxHeartbeats 2000000 in
set_option maxRecDepth 100000 in
/-- three words of which the first says nothing -/
theorem line_none (base b : Nat) (p : ByteArray) (R X : List (ByteArray × ByteArray)) (rv xv : Value) (s : ByteArray) (i : Nat) (w : World) (hE : EnvM w) (h : FS base b w p R X rv xv) (hi : i ≠ 0) (hs : s.size ≤ 1000000) (a x y : Str) (hsp : split s.data.toList [32] = [a, x, y]) (h1 : a ≠ reqW ∨ X ≠ []) (h2 : a ≠ excW) :
    Calls Tryz.prog 49 #[.pointer (some ⟨b, 0, none⟩), .string s, .int .i64 i] w fun e w' => e = .returned (.bool false) ∧ Below base w w' := by
  have hi2 : ((i : Int) == 0) = false := beq_eq_false_iff_ne.2 (by omega)
  have hbw : b < w.heap.size := lt_of_cell h.box.c0
  have hbase : base ≤ w.heap.size := Nat.le_trans h.le (Nat.le_of_lt hbw)
  have hspl := split_calls s ⟨#[32]⟩ w hE (by omega) (by decide)
  have hxc := h.x.2
  replace hspl := Lib.hid hspl
  replace h := Lib.hid h
  by_cases hr : a = reqW
  · subst hr
    have hX : X ≠ [] := h1.resolve_left (fun h => h rfl)
    rcases hxc with ⟨_, hn⟩ | ⟨g, c, cur, rfl, _⟩
    · exact absurd (List.eq_nil_of_length_eq_zero hn) hX
    · have hXn : ((X.length : Int) == 0) = false := beq_eq_false_iff_ne.2 (by have := List.length_pos_iff.2 hX; omega)
      go_enter Tryz.func49, Tryz.ntmps49
      go_wp2_with fail
      refine hspl.out.mono ?_
      rintro e w1 ⟨n, rfl, hn1, hn2, HL, hb1, hc1, hz1'⟩
      have hL : lstF n (splitL s ⟨#[32]⟩) = [reqW, x, y] := HL.out.trans hsp
      obtain rfl : n = 3 := by have := congrArg List.length hL; rwa [lstF_length] at this
      have h0 := lstF_get 3 (splitL s ⟨#[32]⟩) 0 (by decide)
      rw [hL] at h0
      have c0 := hc1 0 (by decide)
      have hr0 : splitL s ⟨#[32]⟩ 0 = ⟨#[114, 101, 113, 117, 105, 114, 101]⟩ := bytes_eq.1 (Option.some.inj h0).symm
      rw [hr0] at c0
      obtain ⟨z0, z1, z2, zf⟩ := (h.out).box.below hb1
      clear HL hL h0 hr0 hc1 zf h1 h2
      go_wp2_with fail
      go_ret
      exact ⟨rfl, hb1.mono hbase⟩
  ·
    go_enter Tryz.func49, Tryz.ntmps49
    go_wp2_with fail
    refine hspl.out.mono ?_
    rintro e w1 ⟨n, rfl, hn1, hn2, HL, hb1, hc1, hz1'⟩
    have hL : lstF n (splitL s ⟨#[32]⟩) = [a, x, y] := HL.out.trans hsp
    obtain rfl : n = 3 := by have := congrArg List.length hL; rwa [lstF_length] at this
    have h0 := lstF_get 3 (splitL s ⟨#[32]⟩) 0 (by decide)
    rw [hL] at h0
    have c0 := hc1 0 (by decide)
    generalize splitL s ⟨#[32]⟩ 0 = q at h0 c0
    have hq : q.data.toList = a := (Option.some.inj h0).symm
    obtain ⟨e1, e2⟩ := lit_ne' (x := q) (l := [114, 101, 113, 117, 105, 114, 101]) (by rw [hq]; exact hr)
    obtain ⟨e3, e4⟩ := lit_ne' (x := q) (l := [101, 120, 99, 108, 117, 100, 101]) (by rw [hq]; exact h2)
    clear HL hL h0 hc1 h1 h2 hr hq
    go_wp2_with fail
    go_ret
    exact ⟨rfl, hb1.mono hbase⟩

set_option maxHeartbeats 2000000 in
set_option maxRecDepth 100000 in
/-- the first line -/
theorem line_first (base b : Nat) (p : ByteArray) (R X : List (ByteArray × ByteArray)) (rv xv : Value) (s : ByteArray) (w : World) (hE : EnvM w) (h : FS base b w p R X rv xv) (hs : s.size ≤ 1000000) :
    Calls Tryz.prog 49 #[.pointer (some ⟨b, 0, none⟩), .string s, .int .i64 0] w fun e w' => e = .returned (.bool (lineF (flOf p R X) s.data.toList 0).1) ∧ Below base w w' ∧ ∃ p' : ByteArray, p'.data.toList = (split s.data.toList [32]).getLast?.getD [] ∧ FS base b w' p' R X rv xv := by
  have hbw : b < w.heap.size := lt_of_cell h.box.c0
  have hbase : base ≤ w.heap.size := Nat.le_trans h.le (Nat.le_of_lt hbw)
  have hspl := split_calls s ⟨#[32]⟩ w hE (by omega) (by decide)
  have hlf : (lineF (flOf p R X) s.data.toList 0).1 = decide ((split s.data.toList [32]).length = 2 ∧ (split s.data.toList [32]).head? = some modW) := rfl
  have HLF := Lib.hid hlf
  replace hspl := Lib.hid hspl
  replace h := Lib.hid h
  clear hlf
  go_enter Tryz.func49, Tryz.ntmps49
  go_wp2_with fail
  refine hspl.out.mono ?_
  rintro e w1 ⟨n, rfl, hn1, hn2, HL, hb1, hc1, hz1'⟩
  have H1 := (h.out).below hb1
  have HH := Lib.hid H1
  obtain ⟨⟨z0, z1, z2, zf⟩, _, hr, hxr, hnr, hnx, _⟩ := id H1
  have zf0 := zf 0
  have hbb : w.heap.size ≠ b := by omega
  have hbb2 : b ≠ w.heap.size := by omega
  obtain ⟨k, rfl⟩ : ∃ k, n = k + 1 := ⟨n - 1, by omega⟩
  have ck := hc1 k (by omega)
  have c0 := hc1 0 (by omega)
  have hk1 : ((k + 1 : Nat) : Int) - 1 = (k : Int) := by omega
  have hlast : (splitL s ⟨#[32]⟩ k).data.toList = (split s.data.toList [32]).getLast?.getD [] := by
    have := HL.out
    rw [← this, getLast_lstF (k + 1) _ (by omega)]
    rfl
  have hres : decide ((split s.data.toList [32]).length = 2 ∧ (split s.data.toList [32]).head? = some modW) = decide (k = 1 ∧ (splitL s ⟨#[32]⟩ 0).data.toList = modW) := by
    have := HL.out
    rw [← this, lstF_length]
    have hh : (lstF (k + 1) (splitL s ⟨#[32]⟩)).head? = some (splitL s ⟨#[32]⟩ 0).data.toList := by
      rw [List.head?_eq_getElem?, lstF_get _ _ 0 (by omega)]
    rw [hh, decide_eq_decide]
    constructor
    · rintro ⟨e1, e2⟩; exact ⟨by omega, Option.some.inj e2⟩
    · rintro ⟨e1, e2⟩; exact ⟨by omega, by rw [e2]⟩
  have HRES := Lib.hid (HLF.out.trans hres)
  have HLAST := Lib.hid hlast
  have hFS : ∀ u : ByteArray, FS base b (w1.setCell ⟨b, 0, none⟩ (.string u)) u R X rv xv := fun u => ⟨HH.out.box.set0 _, HH.out.le, ownsRow_set hr hnr _, ownsRow_set hxr hnx _, hnr, hnx, HH.out.ap⟩
  have HFS := Lib.hid hFS
  have hBel : ∀ u : Value, Below base w (w1.setCell ⟨b, 0, none⟩ u) := fun u => (hb1.mono hbase).setCell (p := ⟨b, 0, none⟩) HH.out.le u
  have HB := Lib.hid hBel
  clear hFS hBel hlast hres HL hc1 hr hxr hnr hnx zf HLF
  by_cases hk : k = 1
  · subst hk
    by_cases hm : (splitL s ⟨#[32]⟩ 0).data.toList = modW
    · have e0 : splitL s ⟨#[32]⟩ 0 = ⟨#[109, 111, 100, 117, 108, 101]⟩ := bytes_eq.1 hm
      rw [e0] at c0
      have HT : Hid ((lineF (flOf p R X) s.data.toList 0).1 = true) := Lib.hid (HRES.out.trans (decide_eq_true ⟨rfl, hm⟩))
      clear hm e0 HRES
      generalize splitL s ⟨#[32]⟩ 1 = u at ck HLAST
      go_wp2_with fail
      go_ret
      rw [HT.out]
      exact ⟨rfl, HB.out _, u, HLAST.out, HFS.out u⟩
    · have HT : Hid ((lineF (flOf p R X) s.data.toList 0).1 = false) := Lib.hid (HRES.out.trans (decide_eq_false (fun h => hm h.2)))
      obtain ⟨e1, e2⟩ := lit_ne' (x := splitL s ⟨#[32]⟩ 0) (l := [109, 111, 100, 117, 108, 101]) hm
      clear hm HRES
      generalize splitL s ⟨#[32]⟩ 1 = u at ck HLAST
      generalize splitL s ⟨#[32]⟩ 0 = u0 at c0 e1 e2
      go_wp2_with fail
      go_ret
      rw [HT.out]
      exact ⟨rfl, HB.out _, u, HLAST.out, HFS.out u⟩
  · have HT : Hid ((lineF (flOf p R X) s.data.toList 0).1 = false) := Lib.hid (HRES.out.trans (decide_eq_false (fun h => hk h.1)))
    have hk2 : (((k + 1 : Nat) : Int) == 2) = false := beq_eq_false_iff_ne.2 (by omega)
    clear HRES c0
    generalize splitL s ⟨#[32]⟩ k = u at ck HLAST
    go_wp2_with fail
    go_ret
    rw [HT.out]
    exact ⟨rfl, HB.out _, u, HLAST.out, HFS.out u⟩
end Go.Proofs.Pw
