/- Ge: walks and plain laws, joined: GetDone GetKept GetGet. Conditions: at each theorem. -/
import Derived.Test.YtmnojbbcaboagaaGreatDoorGezk
import Derived.Test.YtmnojbbcaboagaaGreatDoorGezi
import Derived.Test.YtmnojbbcaboagaaGreatDoorGezj

namespace Go.Proofs.Pw
open Go.RowKit
open Go.Lib hiding intOf
def FileBox (w : World) (b : Nat) : Prop := ∃ s a1 n1 c1 a2 n2 c2, w.heap[b]? = some (.cells #[.string s, .slice a1 n1 c1, .slice a2 n2 c2] 25 (0, 0))
theorem FileBox.below {w w' : World} {b : Nat} (h : FileBox w b) (hb : Below w.heap.size w w') : FileBox w' b := by
  obtain ⟨s, a1, n1, c1, a2, n2, c2, h⟩ := h
  exact ⟨s, a1, n1, c1, a2, n2, c2, (hb.block b (Array.getElem?_eq_some_iff.1 h).1).trans h⟩
theorem mods_ne {w : World} {v : Value} {l : List Md} {b : Nat} (h : ModsAt w v l) (hb : FileBox w b) : ∀ q n m, v = .slice (some q) n m → l ≠ [] → q.block ≠ b := by
  intro q n m e hl he
  obtain ⟨a, n', c, P, V, rfl, rfl, _, _, hc⟩ := h
  injection e with e _ _
  have hn : 0 < n' := Nat.pos_of_ne_zero fun h0 => hl (by rw [h0]; rfl)
  obtain ⟨b', o, e2, c0, c1⟩ := hc 0 hn
  rw [e] at e2
  injection e2 with e2
  subst e2
  simp only at he
  subst he
  obtain ⟨s, a1, n1, k1, a2, n2, k2, hb⟩ := hb
  rw [cell_of_row w b' _ _ 25 (0, 0) hb] at c0 c1
  match o, c0, c1 with
  | 0, _, c1 => simp at c1
  | 1, c0, _ => simp at c0
  | 2, c0, _ => simp at c0
  | o + 3, c0, _ => simp at c0
theorem ModsAt.move {w W : World} {v : Value} {l : List Md} (h : ModsAt w v l) (hk : ∀ q n m, v = .slice (some q) n m → l ≠ [] → W.heap[q.block]? = w.heap[q.block]?) : ModsAt W v l := by
  obtain ⟨a, n, c, P, V, rfl, rfl, h3, h4, hc⟩ := h
  refine ⟨a, n, c, P, V, rfl, rfl, h3, h4, fun j hj => ?_⟩
  obtain ⟨b, o, rfl, c0, c1⟩ := hc j hj
  have h1 := hk _ _ _ rfl (fun e => by have := congrArg List.length e; rw [mdF_length] at this; simp at this; omega)
  exact ⟨b, o, rfl, (World.cell?_of_block (a := ⟨b, o + j * 2, none⟩) h1).trans c0, (World.cell?_of_block (a := ⟨b, o + j * 2 + 1, none⟩) h1).trans c1⟩
theorem heap_set_off {w : World} {b c k : Nat} {v : Value} (h : c ≠ b) : (w.setCell ⟨b, k, none⟩ v).heap[c]? = w.heap[c]? := Below.heap_setCell _ _ _ _ h
theorem FileBox.kept {w w' : World} {b c : Nat} (h : FileBox w c) (hk : Kept b w w') (hn : c ≠ b) : FileBox w' c := by
  obtain ⟨s, a1, n1, c1, a2, n2, c2, h⟩ := h
  exact ⟨s, a1, n1, c1, a2, n2, c2, (hk.all c (Array.getElem?_eq_some_iff.1 h).1 hn).trans h⟩
def OffOne (b : Nat) (w W : World) : Prop := ∀ k, k ≠ b → W.heap[k]? = w.heap[k]?
theorem OffOne.refl (b : Nat) (w : World) : OffOne b w w := fun _ _ => rfl
theorem OffOne.set {b : Nat} {w W : World} (h : OffOne b w W) (k : Nat) (v : Value) : OffOne b w (W.setCell ⟨b, k, none⟩ v) := fun c hc => (heap_set_off hc).trans (h c hc)
theorem offOne3 (w : World) (b : Nat) (u0 u1 u2 : Value) : OffOne b w (((w.setCell ⟨b, 0, none⟩ u0).setCell ⟨b, 1, none⟩ u1).setCell ⟨b, 2, none⟩ u2) := (((OffOne.refl b w).set _ _).set _ _).set _ _
theorem FaultAt.off {A : Nat → Addr} {w W : World} {v : Value} {r : Nat × Int} {b : Nat} (h : FaultAt A w v r) (hb : FileBox w b) (ho : OffOne b w W) : FaultAt A W v r := by
  rcases h with h | h | ⟨h1, c, h2, h3, h4⟩
  · exact .inl h
  · exact .inr (.inl h)
  · have hne : c ≠ b := fun e => by
      subst e
      obtain ⟨s, a1, n1, k1, a2, n2, k2, hb⟩ := hb
      rw [cell_of_row w c _ _ 25 (0, 0) hb] at h3
      simp at h3
    exact .inr (.inr ⟨h1, c, h2, (World.cell?_of_block (ho c hne)).trans h3, (World.cell?_of_block (ho c hne)).trans h4⟩)
theorem ModsAt.off {w W : World} {v : Value} {l : List Md} {b : Nat} (h : ModsAt w v l) (hb : FileBox w b) (ho : OffOne b w W) : ModsAt W v l := h.move fun q n m e hl => ho _ (mods_ne h hb q n m e hl)
theorem below_set3 {B b : Nat} {a w : World} (h : Below B a w) (hb : B ≤ b) (u0 u1 u2 : Value) : Below B a (((w.setCell ⟨b, 0, none⟩ u0).setCell ⟨b, 1, none⟩ u1).setCell ⟨b, 2, none⟩ u2) :=
  ((h.setCell (p := ⟨b, 0, none⟩) hb u0).setCell (p := ⟨b, 1, none⟩) hb u1).setCell (p := ⟨b, 2, none⟩) hb u2
theorem FileBox.off {w W : World} {b c : Nat} (h : FileBox w c) (ho : OffOne b w W) (hn : c ≠ b) : FileBox W c := by
  obtain ⟨s, a1, n1, c1, a2, n2, c2, h⟩ := h
  exact ⟨s, a1, n1, c1, a2, n2, c2, (ho c hn).trans h⟩
theorem fileBox_new (w : World) (s : ByteArray) (a1 : Option Addr) (n1 c1 : Nat) (a2 : Option Addr) (n2 c2 : Nat) : FileBox (w.alloc (.cells #[.string s, .slice a1 n1 c1, .slice a2 n2 c2] 25)) w.heap.size := ⟨s, a1, n1, c1, a2, n2, c2, Go.Deep.blk_alloc_new w _⟩
def GetAns (A : Nat → Addr) (r : GetR) (w' : World) (e : Ending) : Prop :=
  ∃ p rv xv sv ev, e = .returned (.tuple #[.agg #[.string p, rv, xv], sv, ev]) ∧ FaultAt A w' ev r.err ∧ p.data.toList = r.file.path ∧ ModsAt w' rv r.file.reqs ∧ ModsAt w' xv r.file.excl ∧ ModsAt w' sv r.sel
theorem getAns_bad {A : Nat → Addr} {E : Nat × Int} {w' : World} {ev : Value} (hf : FaultAt A w' ev E) : GetAns A (.bad E) w' (.returned (.tuple #[.agg #[.string ⟨#[]⟩, .slice none 0 0, .slice none 0 0], .slice none 0 0, ev])) :=
  ⟨_, _, _, _, _, rfl, hf, rfl, ModsAt.nil _, ModsAt.nil _, ModsAt.nil _⟩
noncomputable def doneR (l : List En) (f : Fl) (sel : List Md) : GetR :=
  if (doneErr l f.excl sel).1 ≠ 0 then .bad (doneErr l f.excl sel) else ⟨(0, -1), ⟨f.path, trimR l sel, f.excl⟩, sel⟩
set_option maxHeartbeats 8000000 in
set_option maxRecDepth 100000 in
theorem getDone_in (ks : List Nat) (A : Nat → Addr) (hks : GetKs ks) (a : Option Addr) (n cap : Nat) (P V : Nat → ByteArray) (R : Nat → List Md) (K : Nat → List Str) (Bk : Nat → Bool) (Rv Kv : Nat → Value) (path : ByteArray) (rv xv sv : Value) (reqs excl sel : List Md) (w : World) (hE : EnvP ks A w) (h : EntsIn w a n cap P V R K Bk Rv Kv) (hs : ShortI (enF n P V R K Bk)) (hr : ModsAt w rv reqs) (hx : ModsAt w xv excl) (hsl : ModsAt w sv sel) (hR : reqs.length ≤ 1000000) (hX : excl.length ≤ 1000000) (hS : sel.length ≤ 100000) :
    Calls Tryz.prog 35 #[.slice a n cap, .agg #[.string path, rv, xv], sv] w fun e w' => GetAns A (doneR (enF n P V R K Bk) ⟨path.data.toList, reqs, excl⟩ sel) w' e ∧ Below w.heap.size w w' := by
  have hb0 := below_alloc w (.cells #[.string path, rv, xv] 25)
  have hb1 := below_alloc (w.alloc (.cells #[.string path, rv, xv] 25)) (.cells #[.string ⟨#[]⟩, .slice none 0 0, .slice none 0 0] 25)
  have hB := below_step hb0 hb1
  have hz := (box3f_alloc w (.string path) rv xv 25).below hb1
  have hy := box3f_alloc (w.alloc (.cells #[.string path, rv, xv] 25)) (.string ⟨#[]⟩) (.slice none 0 0) (.slice none 0 0) 25
  simp only [World.size_alloc] at hy
  have hou := fun W (hb : Below w.heap.size w W) => getOut_calls path rv xv sv excl sel W (hx.below hb) (hsl.below hb) hX (by omega)
  have htr := fun W (hb : Below w.heap.size w W) => trimRoots_in ks A hks.1 a n cap P V R K Bk Rv Kv sv sel W (hE.below hb) (h.below hb) hs (hsl.below hb) hS
  have hco := fun W (hb : Below w.heap.size w W) => fileCopy_calls path rv xv reqs excl W (hr.below hb) (hx.below hb) hR hX
  have hv7 := fun W (hb : Below w.heap.size w W) => (hE.below hb).errs.var 7 hks.1.2.2.2.1
  have hv9 := fun W (hb : Below w.heap.size w W) => (hE.below hb).errs.var 9 hks.2.2.2
  simp only [errG] at hv7 hv9
  obtain ⟨l, hll⟩ : ∃ x, enF n P V R K Bk = x := ⟨_, rfl⟩
  simp only [hll] at htr ⊢
  have HSL := Lib.hid hsl
  have HD1 : Hid (isOutM excl sel = true → doneR l ⟨path.data.toList, reqs, excl⟩ sel = .bad (9, -1)) := Lib.hid (fun h => by
    unfold doneR doneErr
    simp only [h, if_true]
    rfl)
  have HD2 : Hid (isOutM excl sel = false → (trimErr l sel).1 ≠ 0 → doneR l ⟨path.data.toList, reqs, excl⟩ sel = .bad (trimErr l sel)) := Lib.hid (fun h h2 => by
    have e : doneErr l excl sel = trimErr l sel := by unfold doneErr orE; rw [h, if_neg (by simp), if_pos h2]
    unfold doneR
    simp only [e]
    rw [if_pos h2])
  have HD3 : Hid (isOutM excl sel = false → (trimErr l sel).1 = 0 → 20 < (trimR l sel).length → doneR l ⟨path.data.toList, reqs, excl⟩ sel = .bad (7, -1)) := Lib.hid (fun h h2 h3 => by
    have e : doneErr l excl sel = (7, -1) := by unfold doneErr orE; rw [h, if_neg (by simp), if_neg (by simp [h2]), if_pos h3]
    unfold doneR
    simp only [e]
    rfl)
  have HD4 : Hid (isOutM excl sel = false → (trimErr l sel).1 = 0 → ¬ 20 < (trimR l sel).length → doneR l ⟨path.data.toList, reqs, excl⟩ sel = ⟨(0, -1), ⟨path.data.toList, trimR l sel, excl⟩, sel⟩) := Lib.hid (fun h h2 h3 => by
    have e : doneErr l excl sel = (0, -1) := by unfold doneErr orE; rw [h, if_neg (by simp), if_neg (by simp [h2]), if_neg h3]
    unfold doneR
    simp only [e]
    rfl)
  generalize doneR l ⟨path.data.toList, reqs, excl⟩ sel = DR at *
  generalize trimErr l sel = TE at *
  generalize trimR l sel = TR at *
  obtain ⟨ar, nr, cr, _, _, rfl, _⟩ := id hr
  obtain ⟨ax, nx, cx, _, _, rfl, _⟩ := id hx
  obtain ⟨as1, ns, cs, _, _, rfl, _⟩ := id hsl
  obtain ⟨z0, z1, z2, zf⟩ := id hz
  obtain ⟨y0, y1, y2, yf⟩ := id hy
  have hou1 := hou _ hB
  obtain ⟨IO, hIO⟩ : ∃ x, isOutM excl sel = x := ⟨_, rfl⟩
  rw [hIO] at hou1 HD1 HD2 HD3 HD4
  replace hou1 := Lib.hid hou1
  replace htr := Lib.hid htr
  replace hco := Lib.hid hco
  replace hv7 := Lib.hid hv7
  replace hv9 := Lib.hid hv9
  have HFB := Lib.hid (And.intro ((fileBox_new w path ar nr cr ax nx cx).below hb1) (by simpa using fileBox_new (w.alloc (.cells #[.string path, .slice ar nr cr, .slice ax nx cx] 25)) ⟨#[]⟩ none 0 0 none 0 0 : FileBox _ (w.heap.size + 1)))
  clear hE h hs hr hx hsl hR hX hS hks hll hou hIO hb0 hb1
  go_enter Tryz.func35, Tryz.ntmps35
  go_wp2_with fail
  generalize (w.alloc (.cells #[.string path, .slice ar nr cr, .slice ax nx cx] 25)).alloc (.cells #[.string ⟨#[]⟩, .slice none 0 0, .slice none 0 0] 25) = w0 at *
  refine hou1.out.mono ?_
  rintro e w1 ⟨rfl, hb⟩
  have hbX := hb
  replace hB := below_step hB hb
  replace hz := hz.below hb
  replace hy := hy.below hb
  clear z0 z1 z2 zf y0 y1 y2 yf hb hou1
  cases IO with
  | true =>
    have HF := Lib.hid (HD1.out rfl)
    obtain ⟨y0, y1, y2, yf⟩ := id hy
    have hB4 := below_set3 hB (b := w.heap.size + 1) (by omega) (.string ⟨#[]⟩) (.slice none 0 0) (.slice none 0 0)
    have hB5 := below_set3 hB.drew (b := w.heap.size + 1) (by omega) (.string ⟨#[]⟩) (.slice none 0 0) (.slice none 0 0)
    have hv := hv9.out _ hB.drew
    have hv2 := hv9.out _ hB4.drew
    have hv3 := hv9.out _ hB5
    have HV9 : Hid (errV A 9 = .iface 328 (.pointer (some (A 9)))) := Lib.hid (errV_pos A (by decide))
    clear HD1 HD2 HD3 HD4 htr hco hv7 hz hy
    go_wp2_with fail
    go_region
    all_goals
      go_wp2_with fail
      refine bodyPost_ret (v := .tuple #[.agg #[.string ⟨#[]⟩, .slice none 0 0, .slice none 0 0], .slice none 0 0, .iface 328 (.pointer (some (A 9)))]) (by simp [results, Tryz.results35, go_sem, *]) rfl ?_
      rw [HF.out]
      exact ⟨getAns_bad (.inr (.inl ⟨by decide, rfl, HV9.out.symm⟩)), by first | exact hB4.drew | exact hB5⟩
  | false =>
    have htr1 := htr.out w1 hB
    replace htr1 := Lib.hid htr1
    clear HD1 htr hv9
    go_wp2_with fail
    refine htr1.out.mono ?_
    rintro e w2 ⟨⟨x2, ev2, rfl, hf2, hx2⟩, hb⟩
    replace hB := below_step hB hb
    replace hz := hz.below hb
    replace hy := hy.below hb
    obtain ⟨a2, n2, c2, _, _, rfl, -⟩ := id hx2
    have hlen : TR.length = n2 := by obtain ⟨_, _, _, _, _, e1, e2, _⟩ := id hx2; injection e1 with _ e3 _; rw [e2, mdF_length, e3]
    have HX2 := Lib.hid hx2
    have HFB2 := Lib.hid (And.intro (HFB.out.1.below (hbX.trans (hb.mono hbX.size))) (HFB.out.2.below (hbX.trans (hb.mono hbX.size))))
    clear hb htr1 hx2 hbX
    rcases fault_form hf2 with ⟨h0, rfl⟩ | ⟨h0, ty, q, rfl⟩
    · by_cases h20 : 20 < n2
      · have HF := Lib.hid (HD3.out (by simp) h0 (by rw [hlen]; exact h20))
        have h20' : (20 : Int) < (n2 : Int) := by omega
        obtain ⟨y0, y1, y2, yf⟩ := id hy
        have hv := hv7.out w2 hB
        have HV7 : Hid (errV A 7 = .iface 328 (.pointer (some (A 7)))) := Lib.hid (errV_pos A (by decide))
        clear HD2 HD3 HD4 hco hz hy hlen h20 h0 hf2
        go_wp2_with fail
        refine bodyPost_ret (v := .tuple #[.agg #[.string ⟨#[]⟩, .slice none 0 0, .slice none 0 0], .slice none 0 0, .iface 328 (.pointer (some (A 7)))]) (by simp [results, Tryz.results35, go_sem, *]) rfl ?_
        rw [HF.out]
        exact ⟨getAns_bad (.inr (.inl ⟨by decide, rfl, HV7.out.symm⟩)), below_set3 hB (b := w.heap.size + 1) (by omega) _ _ _⟩
      · have HF := Lib.hid (HD4.out (by simp) h0 (by rw [hlen]; exact h20))
        have h20' : ¬ (20 : Int) < (n2 : Int) := by omega
        obtain ⟨z0, z1, z2, zf⟩ := id hz
        obtain ⟨y0, y1, y2, yf⟩ := id hy
        have hco1 := hco.out w2 hB
        replace hco1 := Lib.hid hco1
        clear HD2 HD3 HD4 hco hlen h20 h0 hf2 hv7
        go_wp2_with fail
        refine hco1.out.mono ?_
        rintro e w3 ⟨⟨v1, v2, L1, L2, rfl, hR3, hX3, ho1, ho2, -⟩, hb⟩
        have HFB3 := Lib.hid (And.intro (HFB2.out.1.below hb) (HFB2.out.2.below hb))
        replace hB := below_step hB hb
        replace hz := hz.below hb
        replace hy := hy.below hb
        have HM2 := Lib.hid (modsAt_own ho2)
        obtain ⟨a3, n3, c3, rfl⟩ := own_form ho1
        obtain ⟨a4, n4, c4, rfl⟩ := own_form ho2
        have HX3 := Lib.hid (HX2.out.below hb)
        clear hb hco1 ho1 ho2 z0 z1 z2 zf y0 y1 y2 yf
        have hk := ((hz.set0 (.string path)).set1 (.slice a3 n3 c3)).set2 (.slice a4 n4 c4)
        have hl := hk.set1 (.slice a2 n2 c2)
        have hm := (((hy.other (c := w.heap.size) (by omega) (k := 0) (.string path)).other (c := w.heap.size) (by omega) (k := 1) (.slice a3 n3 c3)).other (c := w.heap.size) (by omega) (k := 2) (.slice a4 n4 c4)).other (c := w.heap.size) (by omega) (k := 1) (.slice a2 n2 c2)
        obtain ⟨z0, z1, z2, zf⟩ := id hz
        obtain ⟨k0, k1, k2, kf⟩ := id hk
        obtain ⟨l0, l1, l2, lf⟩ := id hl
        obtain ⟨y0, y1, y2, yf⟩ := id hm
        clear hz hy hk hl hm
        go_wp2_with fail
        refine bodyPost_ret (v := .tuple #[.agg #[.string path, .slice a2 n2 c2, .slice a4 n4 c4], .slice as1 ns cs, .nilIface]) (by simp [results, Tryz.results35, go_sem, *]) rfl ?_
        rw [HF.out]
        have ho := ((((OffOne.refl w.heap.size w3).set 0 (.string path)).set 1 (.slice a3 n3 c3)).set 2 (.slice a4 n4 c4)).set 1 (.slice a2 n2 c2)
        have hfb := HFB3.out.2.off ho (by omega)
        have mv := fun {v : Value} {l : List Md} (h : ModsAt w3 v l) => (h.off HFB3.out.1 ho).off hfb (offOne3 _ _ (.string path) (.slice a2 n2 c2) (.slice a4 n4 c4))
        refine ⟨⟨_, _, _, _, _, rfl, .inl ⟨rfl, rfl, rfl⟩, rfl, mv HX3.out, ?_, mv (HSL.out.below hB)⟩, below_set3 ((below_set3 hB (b := w.heap.size) (Nat.le_refl _) _ _ _).setCell (p := ⟨w.heap.size, 1, none⟩) (Nat.le_refl _) _) (by omega) _ _ _⟩
        have := mv HM2.out
        rw [← hX3] at this
        exact this
    · have HF := Lib.hid (HD2.out (by simp) h0)
      have HV := Lib.hid hf2
      obtain ⟨y0, y1, y2, yf⟩ := id hy
      clear HD2 HD3 HD4 hco hz hy hlen h0 hf2 hv7
      go_wp2_with fail
      refine bodyPost_ret (v := .tuple #[.agg #[.string ⟨#[]⟩, .slice none 0 0, .slice none 0 0], .slice none 0 0, .iface ty (.pointer q)]) (by simp [results, Tryz.results35, go_sem, *]) rfl ?_
      rw [HF.out]
      exact ⟨getAns_bad (HV.out.off HFB2.out.2 (offOne3 _ _ _ _ _)), below_set3 hB (b := w.heap.size + 1) (by omega) _ _ _⟩
end Go.Proofs.Pw

namespace Go.Proofs.Pw
open Go.RowKit
open Go.Lib hiding intOf
theorem Tryz.enters_kept1 : ∀ args w, (callFunc 80 args).run Tryz.prog w = .ok (.enter 80 args) w := Go.Proofs.enters_of Tryz.func80 (by kernel_rfl) rfl
theorem pinVer_find (S : List PinB) (k : ByteArray) : pinVer (S.map pinT) k.data.toList = (((pinFind S k).map (·.2)).getD noPin).1.data.toList := by
  unfold pinVer
  rw [pinFind_T]
  cases pinFind S k with
  | none => rfl
  | some x => rfl
def noneB (v : ByteArray) : Bool := decide (v.data.toList = noneS)
theorem noneB_is (v : ByteArray) : noneB v = (v.toList == [110, 111, 110, 101]) := by
  unfold noneB
  rw [toList_data, Bool.eq_iff_iff, decide_eq_true_iff, beq_iff_eq]
  rfl
set_option maxHeartbeats 4000000 in
set_option maxRecDepth 100000 in
theorem kept1_calls (bg b b1 b2 : Nat) (S : List PinB) (sv : Value) (sel : List Md) (path : ByteArray) (w : World) (c1 : w.cell? ⟨b1, 0, none⟩ = some (.pointer (some ⟨bg, 0, none⟩))) (c2 : w.cell? ⟨b2, 0, none⟩ = some sv) (g2 : w.cell? ⟨bg, 2, none⟩ = some (.map (some b))) (hP : PinTab w b S) (hs : ModsAt w sv sel) (hl : sel.length ≤ 1000000) :
    Calls Tryz.prog 80 #[.string path, .pointer (some ⟨b1, 0, none⟩), .pointer (some ⟨b2, 0, none⟩)] w fun e w' => e = .returned (.bool (pinOff (S.map pinT) sel path.data.toList)) ∧ Below w.heap.size w w' := by
  obtain ⟨as1, ns, cs, Q, U, rfl, hsE, hs3, hs4, hs5⟩ := id hs
  have hlk := fun d os => pin_lookup (hP.below (below_patch w d os)) path false
  have hfi := fun W (hb : Below w.heap.size w W) => modFind_calls (.slice as1 ns cs) sel path W (hs.below hb) hl
  have hPV := pinVer_find S path
  obtain ⟨⟨pv, pw⟩, hpv⟩ : ∃ x, ((pinFind S path).map (·.2)).getD noPin = x := ⟨_, rfl⟩
  rw [hpv] at hPV
  simp only [hpv, pinV, Bool.false_eq_true, if_false] at hlk
  obtain ⟨fi, hfE⟩ : ∃ x, findI (fun m : Md => decide (m.1 = path.data.toList)) sel = x := ⟨_, rfl⟩
  simp only [hfE] at hfi
  have HFE : Hid (findI (hasP path.data.toList) sel = fi) := Lib.hid hfE
  have HOFF : Hid (pinOff (S.map pinT) sel path.data.toList = (!decide (noneB pv = decide (fi < 0)) || (decide (0 ≤ fi) && !decide ((mdAt sel fi.toNat).2 = pv.data.toList)))) := Lib.hid (by
    unfold pinOff noneB
    rw [hPV, HFE.out])
  have HS5 := Lib.hid hs5
  have HSE := Lib.hid hsE
  have HN := Lib.hid (noneB_is pv)
  have HW0 := Lib.hid (Below.refl w.heap.size w)
  replace hfi := Lib.hid hfi
  clear hP hs hs5 hsE hPV hpv hfE
  go_enter Tryz.func80, Tryz.ntmps80
  go_wp2_with fail
  have hB := Below.refl w.heap.size w
  have d1 := c1
  have hfd : ∀ w : World, (Instr.field 123 (.agg #[.string pv, .bool pw]) 0).run Tryz.prog w = .ok (.string pv) w := fun _ => by kernel_rfl
  have kqc1 := fun d os => cell_patch (d := d) (os := os) c1
  have kqc2 := fun d os => cell_patch (d := d) (os := os) c2
  have kqg2 := fun d os => cell_patch (d := d) (os := os) g2
  refine wp_region_quiet_patch (by kernel_rfl) (by kernel_rfl) ?_
  repeat (go_big_quiet_step ((go_at_call 72; exact Calls.patch_of (hfi.out _ (below_patch _ _ _)))))
  refine wpQuiet_nil ?_
  intro _ hw'
  obtain ⟨⟨dq, osq⟩, hw''⟩ := hw'
  subst hw''
  clear kqc1 kqc2 kqg2
  have hb := below_patch w dq osq
  replace hB := below_step hB hb
  replace d1 := Below.cell_some hb d1
  replace c2 := Below.cell_some hb c2
  clear hb
  generalize patch w dq osq = w1 at hB d1 c2 ⊢
  clear c1 hlk hfi hfd
  cases hn : noneB pv with
  | true =>
    have hq := HN.out
    rw [hn] at hq
    have hq' := hq.symm
    by_cases hf : fi < 0
    · have HF : Hid (pinOff (S.map pinT) sel path.data.toList = false) := Lib.hid (by
        rw [HOFF.out, hn, decide_eq_true hf, decide_eq_false (show ¬ 0 ≤ fi by omega)]
        rfl)
      have hf2 : ¬ (0 : Int) ≤ fi := by omega
      clear hn hq
      go_wp2_with fail
      go_wp2_with fail
      go_ret
      rw [HF.out]
      exact ⟨rfl, hB⟩
    · have HF : Hid (pinOff (S.map pinT) sel path.data.toList = true) := Lib.hid (by
        rw [HOFF.out, hn, decide_eq_false hf]
        rfl)
      clear hn hq
      go_wp2_with fail
      go_wp2_with fail
      go_ret
      rw [HF.out]
      exact ⟨rfl, hB⟩
  | false =>
    have hq := HN.out
    rw [hn] at hq
    have hq' := hq.symm
    by_cases hf : fi < 0
    · have HF : Hid (pinOff (S.map pinT) sel path.data.toList = true) := Lib.hid (by
        rw [HOFF.out, hn, decide_eq_true hf]
        rfl)
      clear hn hq
      go_wp2_with fail
      go_wp2_with fail
      go_ret
      rw [HF.out]
      exact ⟨rfl, hB⟩
    · obtain ⟨j, rfl⟩ : ∃ j : Nat, fi = j := ⟨fi.toNat, by omega⟩
      obtain ⟨x, hx, _⟩ := findI_spec HFE.out
      have hjl : j < ns := by have := (List.getElem?_eq_some_iff.1 hx).1; rw [HSE.out, mdF_length] at this; exact this
      obtain ⟨bs, os, ea, _, e1⟩ := HS5.out j hjl
      subst ea
      have d2 := Below.cell_some hB e1
      have hmd : (mdAt sel j).2 = (U j).data.toList := by rw [HSE.out, mdAt_mdF hjl]
      have hj0 : (0 : Int) ≤ (j : Int) := by omega
      have hjn : (j : Int) < (ns : Int) := by omega
      have hf2 : ¬ (j : Int) < 0 := hf
      by_cases he : U j = pv
      · have HF : Hid (pinOff (S.map pinT) sel path.data.toList = false) := Lib.hid (by
          rw [HOFF.out, hn, decide_eq_false hf, decide_eq_true hj0, Int.toNat_natCast, hmd, he]
          simp)
        subst he
        clear hn hq hx hmd hf
        go_wp2_with fail
        go_wp2_with fail
        go_ret
        rw [HF.out]
        exact ⟨rfl, hB⟩
      · have HF : Hid (pinOff (S.map pinT) sel path.data.toList = true) := Lib.hid (by
          rw [HOFF.out, hn, decide_eq_false hf, decide_eq_true hj0, Int.toNat_natCast, hmd, decide_eq_false (fun e => he (bytes_eq.1 e))]
          rfl)
        have hne : ((U j).toList == pv.toList) = false := bytes_beq_ne he
        have hne2 : ((U j).toList != pv.toList) = true := by rw [bne, hne]; rfl
        clear hn hq hx hmd hf he
        go_wp2_with fail
        go_wp2_with fail
        go_ret
        rw [HF.out]
        exact ⟨rfl, hB⟩
set_option maxHeartbeats 4000000 in
set_option maxRecDepth 100000 in
theorem getKept_in (ks : List Nat) (A : Nat → Addr) (hks : IdxKs ks) (a : Option Addr) (n cap : Nat) (P V : Nat → ByteArray) (R : Nat → List Md) (K : Nat → List Str) (Bk : Nat → Bool) (Rv Kv : Nat → Value) (bv : Value) (bl : List Md) (bg b : Nat) (S : List PinB) (p : ByteArray) (sv : Value) (sel : List Md) (w : World) (hG : GetW ks A a n cap P V R K Bk Rv Kv bv bl bg b w) (hP : PinTab w b S) (hS : ModsAt w sv sel) (hs : ShortI (enF n P V R K Bk)) (hB1 : bl.length ≤ 1000000) (hB2 : ∀ m ∈ bl, m.1.length ≤ 1000000) (hp : p.size ≤ 1000000) (hl : sel.length ≤ 1000000) :
    Calls Tryz.prog 34 #[.pointer (some ⟨bg, 0, none⟩), .string p, sv] w fun e w' => e = .returned (.bool (keptB (enF n P V R K Bk) bl (S.map pinT) p.data.toList sel)) ∧ Below w.heap.size w w' := by
  have hb1 := below_alloc w (.cells #[.pointer (some ⟨bg, 0, none⟩)] 68)
  have hb2 := below_alloc (w.alloc (.cells #[.pointer (some ⟨bg, 0, none⟩)] 68)) (.cells #[sv] 23)
  have hB := below_step hb1 hb2
  have y1 : ((w.alloc (.cells #[.pointer (some ⟨bg, 0, none⟩)] 68)).alloc (.cells #[sv] 23)).cell? ⟨w.heap.size, 0, none⟩ = some (.pointer (some ⟨bg, 0, none⟩)) := Below.cell_some hb2 (by simp)
  have y2 : ((w.alloc (.cells #[.pointer (some ⟨bg, 0, none⟩)] 68)).alloc (.cells #[sv] 23)).cell? ⟨w.heap.size + 1, 0, none⟩ = some sv := by
    have e : (w.alloc (.cells #[.pointer (some ⟨bg, 0, none⟩)] 68)).heap.size = w.heap.size + 1 := by simp
    rw [← e]
    simp
  obtain ⟨w0, hw0⟩ : ∃ W, (w.alloc (.cells #[.pointer (some ⟨bg, 0, none⟩)] 68)).alloc (.cells #[sv] 23) = W := ⟨_, rfl⟩
  rw [hw0] at hB y1 y2
  have hpa := getPaths_in ks A hks.2.2.1 a n cap P V R K Bk Rv Kv bv bl bg b p w0 (hG.below hB) hs hB1 hB2 hp
  have HK1 := Lib.hid (fun W (hW : Below w0.heap.size w0 W) (s : ByteArray) => kept1_calls bg b w.heap.size (w.heap.size + 1) S sv sel s W (Below.cell_some hW y1) (Below.cell_some hW y2) ((hG.below hB).below hW).g2 ((hP.below hB).below hW) ((hS.below hB).below hW) hl)
  obtain ⟨l, hll⟩ : ∃ x, enF n P V R K Bk = x := ⟨_, rfl⟩
  simp only [hll] at hpa ⊢
  obtain ⟨as1, ns, cs, _, _, rfl, _⟩ := id hS
  have HKE : Hid (pathsE l p.data.toList ≠ 0 → keptB l bl (S.map pinT) p.data.toList sel = false) := Lib.hid (fun h => by unfold keptB; rw [decide_eq_false h]; rfl)
  have HKZ : Hid (pathsE l p.data.toList = 0 → keptB l bl (S.map pinT) p.data.toList sel = !((pathsO l bl p.data.toList).any (pinOff (S.map pinT) sel))) := Lib.hid (fun h => by unfold keptB; rw [decide_eq_true h]; rfl)
  have HPL : Hid ((pathsO l bl p.data.toList).length ≤ 1000001) := Lib.hid (by have := pathsO_len l bl p.data.toList; omega)
  generalize keptB l bl (S.map pinT) p.data.toList sel = KB at *
  generalize pathsE l p.data.toList = PE at *
  generalize pathsO l bl p.data.toList = PO at *
  have HB := Lib.hid hB
  replace hpa := Lib.hid hpa
  clear hb1 hb2 hG hP hS hs hB1 hB2 hp hl hll hB
  go_enter Tryz.func34, Tryz.ntmps34
  go_wp2_with fail
  try rw [hw0]
  refine hpa.out.mono ?_
  rintro e w1 ⟨⟨v1, rfl, hv1⟩, hb1⟩
  have z1 := Below.cell_some hb1 y1
  obtain ⟨a5, n5, c5, L5, rfl, e5, hn5, hc5, hat⟩ := id hv1
  clear hpa y1 y2 hw0
  by_cases he : PE = 0
  · have hkz := HKZ.out he
    subst he
    rw [errV_zero]
    have hn5b : n5 ≤ 4000000001 := by have h1 := congrArg List.length e5; rw [lstF_length] at h1; have := HPL.out; omega
    have hct := containsT_calls 80 #[.pointer (some ⟨w.heap.size, 0, none⟩), .pointer (some ⟨w.heap.size + 1, 0, none⟩)] Tryz.enters_kept1 (pinOff (S.map pinT) sel) a5 n5 c5 L5 w1 hn5b hat (fun W hW j hj => HK1.out W (below_step hb1 hW) (L5 j))
    rw [← e5] at hct
    have HF := Lib.hid hkz
    have HB1 := Lib.hid (below_step HB.out hb1)
    generalize PO.any (pinOff (S.map pinT) sel) = X at *
    replace hct := Lib.hid hct
    clear hkz HKE HKZ hb1 hv1 e5 hn5 hc5 hat hn5b
    cases X with
    | true =>
      go_wp2_with fail
      refine hct.out.mono ?_
      rintro e w2 ⟨rfl, hb2⟩
      go_wp2_with fail
      go_ret
      rw [HF.out]
      exact ⟨rfl, below_step HB1.out hb2⟩
    | false =>
      go_wp2_with fail
      refine hct.out.mono ?_
      rintro e w2 ⟨rfl, hb2⟩
      go_wp2_with fail
      go_ret
      rw [HF.out]
      exact ⟨rfl, below_step HB1.out hb2⟩
  · have HF := Lib.hid (HKE.out he)
    have HVP : Hid (errV A PE = .iface 328 (.pointer (some (A PE)))) := Lib.hid (errV_pos A he)
    have HB1 := Lib.hid (below_step HB.out hb1)
    rw [HVP.out]
    clear HKE HKZ he e5 hb1 hv1 hat
    go_wp2_with fail
    go_wp2_with fail
    go_ret
    rw [HF.out]
    exact ⟨rfl, HB1.out⟩
end Go.Proofs.Pw

namespace Go.Proofs.Pw
open Go.RowKit
open Go.Lib hiding intOf
theorem pinArgs_bad {l : List En} {b : List Md} {s : Str} {r : List Str} {i : Nat} {S : List PinM} (h : (pinArg l b (argP s) (argQ s) S).1 ≠ 0) : pinArgs l b (s :: r) i S = (((pinArg l b (argP s) (argQ s) S).1, (i : Int)), []) := by rw [pinArgs, if_pos h]
theorem pinArgs_on {l : List En} {b : List Md} {s : Str} {r : List Str} {i : Nat} {S : List PinM} (h : (pinArg l b (argP s) (argQ s) S).1 = 0) : pinArgs l b (s :: r) i S = pinArgs l b r (i + 1) (pinArg l b (argP s) (argQ s) S).2 := by rw [pinArgs, if_neg (by rw [h]; simp)]
theorem getR_chk {l : List En} {f : Fl} {args : List Str} (h : (chkErr l f args).1 ≠ 0) : getR l f args = .bad (chkErr l f args) := by unfold getR; rw [if_pos h]
theorem getR_start {l : List En} {f : Fl} {args : List Str} (h : (chkErr l f args).1 = 0) (h1 : (startErr l f.reqs).1 ≠ 0) : getR l f args = .bad ((startErr l f.reqs).1, -1) := by unfold getR; rw [if_neg (by simp [h]), if_pos h1]
theorem getR_two {l : List En} {f : Fl} {args : List Str} (h : (chkErr l f args).1 = 0) (h1 : (startErr l f.reqs).1 = 0) : getR l f args = getR2 l f args (buildL l f.reqs) := by unfold getR; rw [if_neg (by simp [h]), if_neg (by simp [h1])]
theorem getR4_done {l : List En} {f : Fl} {args : List Str} {b : List Md} {S : List PinM} {sel : List Md} (h : brokenI l b S args sel < 0) : getR4 l f args b S sel = doneR l f sel := by
  unfold getR4 doneR
  rw [if_neg (by omega)]
end Go.Proofs.Pw
