/- file.Drop. -/
import Derived.Test.YtfkimddlgopgbaaGreatDoorFileSet
import Derived.Test.YtfkimddlgopgbaaGreatDoorFileFind
import Derived.Test.YtfkimddlgopgbaaGreatDoorSlDelM
import Derived.Test.YtfkimddlgopgbaaGreatDoorFileLaw
namespace Go.Proofs.Pw
open Go.RowKit
open Go.Lib hiding intOf

theorem filter_at {l : List Md} (h : RiseP l) {p : Str} {k : Nat} (hk : findI (fun m : Md => decide (m.1 = p)) l = k) : l.filter (fun m : Md => !decide (m.1 = p)) = l.take k ++ l.drop (k + 1) := by
  obtain ⟨x, hx, hp⟩ := findI_spec hk
  have hl := (List.getElem?_eq_some_iff.1 hx).1
  have ex : l[k] = x := by rw [List.getElem?_eq_getElem hl] at hx; exact Option.some.inj hx
  have hs : l = l.take k ++ x :: l.drop (k + 1) := by rw [← ex, ← List.drop_eq_getElem_cons hl, List.take_append_drop]
  have hp := of_decide_eq_true hp
  have h2 : RiseP (l.take k ++ x :: l.drop (k + 1)) := by rw [← hs]; exact h
  unfold RiseP at h2
  rw [List.pairwise_append, List.pairwise_cons] at h2
  have e1 : l.filter (fun m : Md => !decide (m.1 = p)) = (l.take k ++ x :: l.drop (k + 1)).filter (fun m : Md => !decide (m.1 = p)) := by rw [← hs]
  rw [e1, List.filter_append, List.filter_cons, if_neg (by simp [hp])]
  congr 1
  · rw [List.filter_eq_self]
    intro y hy
    have := h2.2.2 y hy x (by simp)
    have hne : ¬ y.1 = p := fun e => by rw [e, hp, compareBytes_self] at this; omega
    simp [hne]
  · rw [List.filter_eq_self]
    intro y hy
    have := h2.2.1.1 y hy
    have hne : ¬ y.1 = p := fun e => by rw [e, hp, compareBytes_self] at this; omega
    simp [hne]
theorem mdTs_del (L : List (ByteArray × ByteArray)) (k : Nat) : mdTs (L.take k ++ L.drop (k + 1)) = (mdTs L).take k ++ (mdTs L).drop (k + 1) := by
  simp [mdTs, List.map_take, List.map_drop]
theorem fileDrop_err {f : Fl} {p : Str} (h : (fileErr f).1 ≠ 0) : fileDrop f p = (noFl, (fileErr f).1) := by unfold fileDrop; rw [if_pos h]
theorem fileDrop_none {f : Fl} {p : Str} (h : (fileErr f).1 = 0) (h2 : findI (fun m : Md => decide (m.1 = p)) f.reqs < 0) : fileDrop f p = (noFl, 5) := by unfold fileDrop; rw [if_neg (by simp [h]), if_pos h2]
theorem fileDrop_ok {f : Fl} {p : Str} (h : (fileErr f).1 = 0) {k : Nat} (h2 : findI (fun m : Md => decide (m.1 = p)) f.reqs = k) : fileDrop f p = ({ f with reqs := f.reqs.take k ++ f.reqs.drop (k + 1) }, 0) := by
  unfold fileDrop
  rw [if_neg (by simp [h]), if_neg (by rw [h2]; omega), filter_at (right_of h).rise h2]


set_option maxHeartbeats 8000000 in
set_option maxRecDepth 100000 in
theorem fileDrop_calls (ks : List Nat) (A : Nat → Addr) (hks : FileKs ks) (p s : ByteArray) (rv xv : Value) (R X : List Md) (w : World) (hE : EnvP ks A w) (hr : ModsAt w rv R) (hx : ModsAt w xv X) (hp : p.size ≤ 1000000) (hsr : Short R) (hsx : Short X) (hR9 : R.length ≤ 900000) :
    Calls Tryz.prog 17 #[.agg #[.string p, rv, xv], .string s] w (SetOut A (fileDrop ⟨p.data.toList, R, X⟩ s.data.toList) w) := by
  have hb1 := below_alloc w (.cells #[.string p, rv, xv] 24)
  have hb2 := below_alloc (w.alloc (.cells #[.string p, rv, xv] 24)) (.cells #[.string ⟨#[]⟩, .slice none 0 0, .slice none 0 0] 24)
  have hB := below_step hb1 hb2
  have hz := (box3f_alloc w (.string p) rv xv 24).below hb2
  have hy := box3f_alloc (w.alloc (.cells #[.string p, rv, xv] 24)) (.string ⟨#[]⟩) (.slice none 0 0) (.slice none 0 0) 24
  simp only [World.size_alloc] at hy
  have hck := fun W hW h1 h2 => fileCheck_calls ks A hks p rv xv R X W hW h1 h2 hp hsr hsx
  have hcp := fun W h1 h2 => fileCopy_calls p rv xv R X W h1 h2 hsr.1 hsx.1
  have hfi := fun W h1 => modFind_calls rv R s W h1 hsr.1
  obtain ⟨a1, n1, c1, _, _, rfl, _⟩ := id hr
  obtain ⟨a3, n3, c3, _, _, rfl, _⟩ := id hx
  replace hck := Lib.hid hck
  replace hcp := Lib.hid hcp
  replace hfi := Lib.hid hfi
  replace hsr := Lib.hid hsr
  replace hsx := Lib.hid hsx
  clear hb1 hb2
  obtain ⟨z0, z1, z2, zf⟩ := id hz
  go_enter Tryz.func17, Tryz.ntmps17
  go_wp2_with fail
  generalize hw2 : (w.alloc (.cells #[.string p, .slice a1 n1 c1, .slice a3 n3 c3] 24)).alloc (.cells #[.string ⟨#[]⟩, .slice none 0 0, .slice none 0 0] 24) = w2 at *
  have hsz : w2.heap.size = w.heap.size + 2 := by rw [← hw2]; simp
  clear hw2
  refine (hck.out _ (hE.below hB) (hr.below hB) (hx.below hB)).mono ?_
  rintro e w3 ⟨⟨v, rfl, hv⟩, hb⟩
  have hs3 := hb.size
  replace hz := hz.below hb
  replace hy := hy.below hb
  replace hB := below_step hB hb
  clear hck z0 z1 z2 zf hb
  obtain ⟨z0, z1, z2, zf⟩ := id hz
  rcases fault_form hv with ⟨h0, rfl⟩ | ⟨h0, ty, q, rfl⟩
  · replace h0 := Lib.hid h0
    clear hv
    go_wp2_with fail
    refine (hfi.out _ (hr.below hB)).mono ?_
    rintro e w4 ⟨rfl, hb⟩
    have hs4 := hb.size
    replace hz := hz.below hb
    replace hy := hy.below hb
    replace hB := below_step hB hb
    clear z0 z1 z2 zf hb hfi
    obtain ⟨z0, z1, z2, zf⟩ := id hz
    by_cases hneg : findI (fun m : Md => decide (m.1 = s.data.toList)) R < 0
    · have HF := Lib.hid (fileDrop_none h0.out hneg)
      have hE4 := hE.below hB
      have g5 := hE4.errs.var 5 hks.2.2.1
      simp only [errG] at g5
      generalize findI (fun m : Md => decide (m.1 = s.data.toList)) R = fi at *
      have hgl : 6 < w.heap.size := by
        have g := hE.errs.var 5 hks.2.2.1
        simp only [errG] at g
        exact lt_of_cell g
      have hn1 : 6 ≠ w.heap.size + 1 := by omega
      have hn2 : w.heap.size + 1 ≠ 6 := by omega
      obtain ⟨y0, y1, y2, yf⟩ := id hy
      have hB4 := below_sto hB.drew (b := w.heap.size + 1) (by omega) (.string ⟨#[]⟩) (.slice none 0 0) (.slice none 0 0)
      unfold st3 at hB4
      replace hB4 := Lib.hid hB4
      have hbx : w.heap.size + 1 < w4.heap.size := lt_of_cell y0
      go_wp2_with fail
      go_region
      all_goals
        go_wp2_with fail
        refine bodyPost_ret (v := .tuple #[.agg #[.string ⟨#[]⟩, .slice none 0 0, .slice none 0 0], .iface 259 (.pointer (some (A 5)))]) (by simp [results, Tryz.results17, go_sem, *]) rfl ?_
        rw [HF.out, ← errV_pos A (by decide : (5 : Nat) ≠ 0)]
        first
        | exact setOut_err hB4.out
        | exact setOut_err hB.drew
    · obtain ⟨kk, hkk⟩ : ∃ kk : Nat, findI (fun m : Md => decide (m.1 = s.data.toList)) R = kk := ⟨(findI (fun m : Md => decide (m.1 = s.data.toList)) R).toNat, by omega⟩
      have hfo := fileDrop_ok (f := ⟨p.data.toList, R, X⟩) h0.out hkk
      have hkl : kk < R.length := by
        obtain ⟨x, hx, _⟩ := findI_spec hkk
        exact (List.getElem?_eq_some_iff.1 hx).1
      have hwk := wrap_nat (kk + 1) (by omega)
      have hwk2 : ((kk : Int) + 1) = ((kk + 1 : Nat) : Int) := by omega
      rw [← hwk2] at hwk
      simp only at hfo
      replace hfo := Lib.hid hfo
      rw [hkk]
      clear hneg hkk
      go_wp2_with fail
      refine (hcp.out _ (hr.below hB) (hx.below hB)).mono ?_
      rintro e w5 ⟨⟨v1, v2, L1, L2, rfl, rfl, rfl, ho1, ho2, hap⟩, hb⟩
      have hs5 := hb.size
      obtain ⟨a5, n5, c5, rfl⟩ := own_form ho1
      obtain ⟨a6, n6, c6, rfl⟩ := own_form ho2
      replace hz := hz.below hb
      replace hy := hy.below hb
      replace hB := below_step hB hb
      clear z0 z1 z2 zf hb hcp
      have hge2 := own_ge ho2
      have hn0 := own_ne (b := w.heap.size) ho1 (by omega)
      have hn1 := own_ne (b := w.heap.size + 1) ho1 (by omega)
      obtain ⟨z0, z1, z2, zf⟩ := id hz
      replace hz := hz.st (.string p) (.slice a5 n5 c5) (.slice a6 n6 c6)
      replace hy := hy.sto (c := w.heap.size) (by omega) (.string p) (.slice a5 n5 c5) (.slice a6 n6 c6)
      replace ho1 := ownsRow_sto (b := w.heap.size) ho1 hn0 (.string p) (.slice a5 n5 c5) (.slice a6 n6 c6)
      replace ho2 := ownsRow_sto (b := w.heap.size) ho2 (own_ne ho2 (by omega)) (.string p) (.slice a5 n5 c5) (.slice a6 n6 c6)
      replace hB := below_sto hB (b := w.heap.size) (Nat.le_refl _) (.string p) (.slice a5 n5 c5) (.slice a6 n6 c6)
      unfold st3 at hz hy ho1 ho2 hB
      have hdel := fun (W : World) (h : World.ownsRow W w4.heap.size 26 2 (.slice a5 n5 c5) L1.length (mdVs L1)) => deleteM_calls w4.heap.size (.slice a5 n5 c5) L1 kk W h (by rw [mdTs_length] at hkl; exact hkl) (by rw [mdTs_length] at hR9; omega)
      rw [← hwk2] at hdel
      clear hwk2
      replace hdel := Lib.hid hdel
      replace hap := Lib.hid hap
      obtain ⟨u0, u1, u2, uf⟩ := id hz
      go_wp2_with fail
      generalize ((w5.setCell ⟨w.heap.size, 0, none⟩ (.string p)).setCell ⟨w.heap.size, 1, none⟩ (.slice a5 n5 c5)).setCell ⟨w.heap.size, 2, none⟩ (.slice a6 n6 c6) = w6 at *
      refine (hdel.out w6 ho1).mono ?_
      rintro e w7 ⟨v', rfl, ho', hb', hg'⟩
      obtain ⟨a7, n7, c7, rfl⟩ := own_form ho'
      clear u0 u1 u2 uf z0 z1 z2 zf hdel
      replace hz := hz.grownBy hg' (fun e => hn0 e.symm)
      replace hy := hy.grownBy hg' (fun e => hn1 e.symm)
      replace ho2 := ho2.kept hg' (apart_row (fun b hb h2 => hap.out b hb h2))
      replace hB := hB.trans (hb'.mono (by omega))
      have hge7 := own_ge ho'
      have hM1 : ModsAt w7 (.slice a7 n7 c7) ((mdTs L1).take kk ++ (mdTs L1).drop (kk + 1)) := by
        rw [← mdTs_del]
        exact modsAt_own ho'
      have hM2 := modsAt_own ho2
      have hnn1 : ∀ q n m, Value.slice a7 n7 c7 = .slice (some q) n m → q.block ≠ w.heap.size + 1 := fun q n m e => by have := hge7 q n m e; omega
      have hnn2 : ∀ q n m, Value.slice a6 n6 c6 = .slice (some q) n m → q.block ≠ w.heap.size + 1 := fun q n m e => by have := hge2 q n m e; omega
      have hnm1 : ∀ q n m, Value.slice a7 n7 c7 = .slice (some q) n m → q.block ≠ w.heap.size := fun q n m e => by have := hge7 q n m e; omega
      have hnm2 : ∀ q n m, Value.slice a6 n6 c6 = .slice (some q) n m → q.block ≠ w.heap.size := fun q n m e => by have := hge2 q n m e; omega
      obtain ⟨z0, z1, z2, zf⟩ := id hz
      replace hz := hz.set1 (.slice a7 n7 c7)
      replace hy := hy.other (c := w.heap.size) (k := 1) (by omega) (.slice a7 n7 c7)
      replace hB := hB.setCell (p := ⟨w.heap.size, 1, none⟩) (Nat.le_refl _) (.slice a7 n7 c7)
      replace hM1 := hM1.other (c := w.heap.size) (k := 1) hnm1 (.slice a7 n7 c7)
      replace hM2 := hM2.other (c := w.heap.size) (k := 1) hnm2 (.slice a7 n7 c7)
      have hB4 := below_sto hB (b := w.heap.size + 1) (by omega) (.string p) (.slice a7 n7 c7) (.slice a6 n6 c6)
      have hM14 := hM1.sto (c := w.heap.size + 1) hnn1 (.string p) (.slice a7 n7 c7) (.slice a6 n6 c6)
      have hM24 := hM2.sto (c := w.heap.size + 1) hnn2 (.string p) (.slice a7 n7 c7) (.slice a6 n6 c6)
      have hfin : SetOut A (fileDrop ⟨p.data.toList, mdTs L1, mdTs L2⟩ s.data.toList) w (.returned (.tuple #[.agg #[.string p, .slice a7 n7 c7, .slice a6 n6 c6], .nilIface])) (st3 (w7.setCell ⟨w.heap.size, 1, none⟩ (.slice a7 n7 c7)) (w.heap.size + 1) (.string p) (.slice a7 n7 c7) (.slice a6 n6 c6)) := by
        rw [hfo.out]
        exact ⟨⟨p, _, _, rfl, rfl, hM14, hM24⟩, hB4⟩
      replace hfin := Lib.hid hfin
      obtain ⟨y0, y1, y2, yf⟩ := id hy
      obtain ⟨u0, u1, u2, uf⟩ := id hz
      clear ho' hb' hg' hge7 hge2 ho2 hnn1 hnn2 hnm1 hnm2 hap hn0 hn1 hB4 hM14 hM24 hM1 hM2 hB hz hy hfo
      go_wp2_with fail
      refine bodyPost_ret (v := .tuple #[.agg #[.string p, .slice a7 n7 c7, .slice a6 n6 c6], .nilIface]) (by simp [results, Tryz.results17, go_sem, *]) rfl ?_
      exact hfin.out
  ·
    have HV := Lib.hid (bare_calls A _ _ w3 hv)
    have HF := Lib.hid (fileDrop_err (p := s.data.toList) h0)
    have h0' := Lib.hid h0
    clear hv h0
    go_wp2_with fail
    refine HV.out.mono ?_
    rintro e w9 ⟨rfl, hb⟩
    replace hy := hy.below hb
    replace hB := below_step hB hb
    clear HV
    obtain ⟨y0, y1, y2, yf⟩ := id hy
    rw [errV_pos A h0'.out]
    have hB4 := below_sto hB (b := w.heap.size + 1) (by omega) (.string ⟨#[]⟩) (.slice none 0 0) (.slice none 0 0)
    unfold st3 at hB4
    go_wp2_with fail
    refine bodyPost_ret (v := .tuple #[.agg #[.string ⟨#[]⟩, .slice none 0 0, .slice none 0 0], .iface 259 (.pointer (some (A (fileErr ⟨p.data.toList, R, X⟩).1)))]) (by simp [results, Tryz.results17, go_sem, *]) rfl ?_
    rw [HF.out, ← errV_pos A h0'.out]
    first
    | exact setOut_err hB
    | exact setOut_err hB4
end Go.Proofs.Pw
