/- file.Read. Conditions: texts of at most 1000000 bytes. -/
import Derived.Test.YtfkimddlgopgbaaGreatDoorFileLine3
import Derived.Test.YtfkimddlgopgbaaGreatDoorFileText
namespace Go.Proofs.Pw
open Go.RowKit
open Go.Lib hiding intOf

theorem readF_step {n i : Nat} {f : Fl} {s : Str} (h1 : ¬ (s = [] ∧ i ≠ 0)) (h2 : (cut s [10]).2.2 = true) (h3 : (lineF f (cut s [10]).1 i).1 = true) : readF (n + 1) f i s = readF n (lineF f (cut s [10]).1 i).2 (i + 1) (cut s [10]).2.1 := by
  rw [readF, if_neg h1, if_pos ⟨h2, h3⟩]
theorem readF_bad {n i : Nat} {f : Fl} {s : Str} (h1 : ¬ (s = [] ∧ i ≠ 0)) (h2 : ¬ ((cut s [10]).2.2 = true ∧ (lineF f (cut s [10]).1 i).1 = true)) : readF (n + 1) f i s = (noFl, some i) := by
  rw [readF, if_neg h1, if_neg h2]
theorem readF_end {n i : Nat} {f : Fl} (h : i ≠ 0) : readF (n + 1) f i [] = (f, none) := by
  rw [readF, if_pos ⟨rfl, h⟩]
theorem cut_first_len (s : Str) : (cut s [10]).1.length ≤ s.length := by
  by_cases hm : (10 : UInt8) ∈ s
  · obtain ⟨a, b, rfl, ha⟩ := mem_at hm
    rw [cut_at ha]; simp
  · rw [cut_no hm]; exact Nat.le_refl _
theorem fileRead_long {s : Str} (h : 8000 < s.length) : fileRead s = (noFl, 2, -1) := by unfold fileRead; rw [if_pos h]
theorem fileRead_bad {s : Str} {g : Fl} {k : Nat} (h : ¬ 8000 < s.length) (hr : readF (s.length + 1) noFl 0 s = (g, some k)) : fileRead s = (noFl, 1, (k : Int)) := by unfold fileRead; rw [if_neg h, hr]
theorem fileRead_err {s : Str} {g : Fl} (h : ¬ 8000 < s.length) (hr : readF (s.length + 1) noFl 0 s = (g, none)) (he : (fileErr g).1 ≠ 0) : fileRead s = (noFl, (fileErr g).1, -1) := by unfold fileRead; rw [if_neg h, hr]; simp only; rw [if_pos he]
theorem fileRead_ok {s : Str} {g : Fl} (h : ¬ 8000 < s.length) (hr : readF (s.length + 1) noFl 0 s = (g, none)) (he : (fileErr g).1 = 0) : fileRead s = (g, 0, -1) := by unfold fileRead; rw [if_neg h, hr]; simp only; rw [if_neg (by simp [he])]

theorem short_of {c : Nat} {R : List (ByteArray × ByteArray)} (h : ∀ m ∈ R, m.1.size ≤ c ∧ m.2.size ≤ c) (hc : c ≤ 1000000) (hl : R.length ≤ 1000000) : Short (mdTs R) := by
  refine ⟨by rw [mdTs_length]; exact hl, fun m hm => ?_⟩
  simp only [mdTs, List.mem_map] at hm
  obtain ⟨x, hx, rfl⟩ := hm
  have := h x hx
  rw [size_eq, size_eq] at this
  simp only
  omega

/-- what Read hands back -/
def ReadOut (A : Nat → Addr) (s : Str) (w : World) (e : Ending) (w' : World) : Prop :=
  (∃ (p : ByteArray) (r x ev : Value), e = .returned (.tuple #[.agg #[.string p, r, x], ev]) ∧ p.data.toList = (fileRead s).1.path ∧ ModsAt w' r (fileRead s).1.reqs ∧ ModsAt w' x (fileRead s).1.excl ∧ FaultAt A w' ev ((fileRead s).2.1, (fileRead s).2.2)) ∧ Below w.heap.size w w'

theorem bad_out {A : Nat → Addr} {w w3 : World} {k : Nat} {p : ByteArray} {v0 v1 v2 : Value} (hB : Below w.heap.size w w3) (hn : w.heap.size < w3.heap.size) (hp : p.data.toList = []) {b : Nat} (hb : b = w3.heap.size := by rfl) :
    (∃ (p' : ByteArray) (r x ev : Value), Ending.returned (.tuple #[.agg #[.string p, .slice none 0 0, .slice none 0 0], .iface 89 (.pointer (some ⟨b, 0, none⟩))]) = .returned (.tuple #[.agg #[.string p', r, x], ev]) ∧ p'.data.toList = (noFl, 1, (k : Int)).1.path ∧ ModsAt ((((w3.setCell ⟨w.heap.size, 0, none⟩ v0).setCell ⟨w.heap.size, 1, none⟩ v1).setCell ⟨w.heap.size, 2, none⟩ v2).alloc (.cells #[.int .i64 k, .iface 259 (.pointer (some (A 1)))] 91)).drew r (noFl, 1, (k : Int)).1.reqs ∧ ModsAt ((((w3.setCell ⟨w.heap.size, 0, none⟩ v0).setCell ⟨w.heap.size, 1, none⟩ v1).setCell ⟨w.heap.size, 2, none⟩ v2).alloc (.cells #[.int .i64 k, .iface 259 (.pointer (some (A 1)))] 91)).drew x (noFl, 1, (k : Int)).1.excl ∧ FaultAt A ((((w3.setCell ⟨w.heap.size, 0, none⟩ v0).setCell ⟨w.heap.size, 1, none⟩ v1).setCell ⟨w.heap.size, 2, none⟩ v2).alloc (.cells #[.int .i64 k, .iface 259 (.pointer (some (A 1)))] 91)).drew ev ((noFl, 1, (k : Int)).2.1, (noFl, 1, (k : Int)).2.2)) ∧
      Below w.heap.size w ((((w3.setCell ⟨w.heap.size, 0, none⟩ v0).setCell ⟨w.heap.size, 1, none⟩ v1).setCell ⟨w.heap.size, 2, none⟩ v2).alloc (.cells #[.int .i64 k, .iface 259 (.pointer (some (A 1)))] 91)).drew := by
  subst hb
  have key0 : ∀ W : World, W.heap.size = w3.heap.size → (W.alloc (.cells #[.int .i64 k, .iface 259 (.pointer (some (A 1)))] 91)).cell? ⟨w3.heap.size, 0, none⟩ = some (.int .i64 k) := fun W h => by rw [← h]; simp
  have key1 : ∀ W : World, W.heap.size = w3.heap.size → (W.alloc (.cells #[.int .i64 k, .iface 259 (.pointer (some (A 1)))] 91)).cell? ⟨w3.heap.size, 1, none⟩ = some (.iface 259 (.pointer (some (A 1)))) := fun W h => by rw [← h]; simp
  refine ⟨⟨p, _, _, _, rfl, hp, ModsAt.nil _, ModsAt.nil _, .inr (.inr ⟨Nat.one_ne_zero, w3.heap.size, rfl, ?_, ?_⟩)⟩, ?_⟩
  · refine key0 _ ?_; simp
  · refine key1 _ ?_; simp
  · exact ((((hB.setCell (p := ⟨w.heap.size, 0, none⟩) (Nat.le_refl _) _).setCell (p := ⟨w.heap.size, 1, none⟩) (Nat.le_refl _) _).setCell (p := ⟨w.heap.size, 2, none⟩) (Nat.le_refl _) _).alloc (by simp; omega) _).drew

set_option maxHeartbeats 4000000 in
set_option maxRecDepth 100000 in
theorem fileRead_calls (ks : List Nat) (A : Nat → Addr) (hks : FileKs ks) (s : ByteArray) (w : World) (hE : EnvP ks A w) (hs : s.size ≤ 1000000) :
    Calls Tryz.prog 13 #[.string s] w (ReadOut A s.data.toList w) := by
  have hb1 := below_alloc w (.cells #[.string ⟨#[]⟩, .slice none 0 0, .slice none 0 0] 24)
  have hy := box3f_alloc w (.string ⟨#[]⟩) (.slice none 0 0) (.slice none 0 0) 24
  have hE1 := hE.below hb1
  have hgl : 5 < w.heap.size := by
    have g := hE.errs.var 1 hE.has.1
    simp only [errG] at g
    exact lt_of_cell g
  by_cases h8 : 8000 < s.size
  · have h8' : (8000 : Int) < (s.size : Int) := by omega
    have HF := Lib.hid (fileRead_long (s := s.data.toList) (by rw [← size_eq]; exact h8))
    have g2 := hE1.errs.var 2 hE.has.2
    simp only [errG] at g2
    obtain ⟨y0, y1, y2, yf⟩ := id hy
    go_enter Tryz.func13, Tryz.ntmps13
    go_wp2_with fail
    go_region
    all_goals
      go_wp2_with fail
      refine bodyPost_ret (v := .tuple #[.agg #[.string ⟨#[]⟩, .slice none 0 0, .slice none 0 0], .iface 259 (.pointer (some (A 2)))]) (by simp [results, Tryz.results13, go_sem, *]) rfl ?_
      unfold ReadOut
      rw [HF.out]
      exact ⟨⟨⟨#[]⟩, .slice none 0 0, .slice none 0 0, _, rfl, rfl, ModsAt.nil _, ModsAt.nil _, .inr (.inl ⟨by decide, rfl, (errV_pos A (by decide)).symm⟩)⟩,
        hb1.drew⟩
  · have h8' : ¬ (8000 : Int) < (s.size : Int) := by omega
    have hl8 : ¬ 8000 < s.data.toList.length := by rw [← size_eq]; exact h8
    generalize hw1 : w.alloc (.cells #[.string ⟨#[]⟩, .slice none 0 0, .slice none 0 0] 24) = w1 at hb1 hy hE1
    have hsz : w1.heap.size = w.heap.size + 1 := by rw [← hw1]; simp
    have hb2 := below_alloc w1 (.cells #[.string ⟨#[]⟩, .slice none 0 0, .slice none 0 0] 24)
    have hf := box3f_alloc w1 (.string ⟨#[]⟩) (.slice none 0 0) (.slice none 0 0) 24
    have hFS0 : FS w1.heap.size w1.heap.size (w1.alloc (.cells #[.string ⟨#[]⟩, .slice none 0 0, .slice none 0 0] 24)) ⟨#[]⟩ [] [] (.slice none 0 0) (.slice none 0 0) :=
      ⟨hf, Nat.le_refl _, World.ownsRow_nil _ _ _ _, World.ownsRow_nil _ _ _ _, fun e => (by cases e), fun e => (by cases e), fun k e => (by cases e)⟩
    have HF0 := Lib.hid hFS0
    clear hf hFS0
    go_enter Tryz.func13, Tryz.ntmps13
    go_wp2_with fail
    simp only [hsz] at HF0
    generalize hw2 : w1.alloc (.cells #[.string ⟨#[]⟩, .slice none 0 0, .slice none 0 0] 24) = w2 at hb2 HF0 ⊢
    go_loopw [0, 5] (fun sv iv wr => ∃ (cur : ByteArray) (k : Nat) (p : ByteArray) (R X : List (ByteArray × ByteArray)) (rv xv : Value), sv = .string cur ∧ iv = .int .i64 k ∧ k + cur.size ≤ s.size ∧ R.length ≤ k ∧ X.length ≤ k ∧ FS (w.heap.size + 1) (w.heap.size + 1) wr p R X rv xv ∧ (X = [] → xv = .slice none 0 0) ∧ ShortB 8000 p R X ∧ Below w1.heap.size w1 wr ∧ Hid (readF (cur.size + 1) (flOf p R X) k cur.data.toList = readF (s.data.toList.length + 1) noFl 0 s.data.toList)) (fun sv iv _ => s.size + 1 - (intOf iv).toNat)
    case atStart => exact ⟨s, 0, ⟨#[]⟩, [], [], .slice none 0 0, .slice none 0 0, rfl, rfl, by omega, Nat.le_refl _, Nat.le_refl _, HF0.out, fun _ => rfl, ⟨by decide, fun m hm => (by simp at hm), fun m hm => (by simp at hm)⟩, hb2, Lib.hid (by rw [← size_eq]; rfl)⟩
    case round =>
      obtain ⟨cur, k, p, R, X, rv, xv, rfl, rfl, hk, hRk, hXk, hFS, hx0, hsh, hBr, HR⟩ := hrel
      replace hE := hE1.below hBr
      have hy1 := hy
      replace hy := hy.below hBr
      clear hw2 hb2 HF0
      by_cases hend : cur.data.toList = [] ∧ k ≠ 0
      · have e1 : cur.toList.isEmpty = true := by
          rw [toList_data, hend.1]; rfl
        have e2 : ((k : Int) == 0) = false := by
          have := hend.2
          simp; omega
        have hrd : readF (s.data.toList.length + 1) noFl 0 s.data.toList = (flOf p R X, none) := by
          rw [← HR.out, hend.1]; exact readF_end hend.2
        have hck := fun W (hb : Below wr.heap.size wr W) => fileCheck_calls ks A hks p rv xv (mdTs R) (mdTs X) W (hE.below hb) ((modsAt_own hFS.r).below hb) ((modsAt_own hFS.x).below hb) (by have := hsh.1; omega) (short_of hsh.2.1 (by decide) (by omega)) (short_of hsh.2.2 (by decide) (by omega))
        have hmr := modsAt_own hFS.r
        have hmx := modsAt_own hFS.x
        have hgr : ∀ q n m, rv = .slice (some q) n m → q.block ≠ w.heap.size := fun q n m e => by
          have := own_ge hFS.r q n m e
          omega
        have hgx : ∀ q n m, xv = .slice (some q) n m → q.block ≠ w.heap.size := fun q n m e => by
          have := own_ge hFS.x q n m e
          omega
        have hbx := hFS.box
        have hB := below_step hb1 hBr
        clear HR hFS hx0 hsh hb1 hBr hRk hXk hk hend hE1 hy1
        obtain ⟨a1, n1, c1, _, _, rfl, _⟩ := id hmr
        obtain ⟨a2, n2, c2, _, _, rfl, _⟩ := id hmx
        have HC := Lib.hid (hck wr (Below.refl _ _))
        have HG := Lib.hid (And.intro hgr hgx)
        have HM := Lib.hid (And.intro hmr hmx)
        clear hck hgr hgx hmr hmx
        obtain ⟨b0, b1, b2, bf⟩ := id hbx
        go_wp2_with fail
        refine HC.out.mono ?_
        rintro e w3 ⟨⟨v, rfl, hv⟩, hb⟩
        replace hv : FaultAt A w3 v (fileErr (flOf p R X)) := hv
        replace hy := hy.below hb
        replace hbx := hbx.below hb
        replace hB := below_step hB hb
        have hmr := HM.out.1.below hb
        have hmx := HM.out.2.below hb
        clear b0 b1 b2 bf HM HC
        obtain ⟨b0, b1, b2, bf⟩ := id hbx
        obtain ⟨y0, y1, y2, yf⟩ := id hy
        by_cases h0 : (fileErr (flOf p R X)).1 = 0
        · have hfr := fileRead_ok hl8 hrd h0
          have hv0 : v = .nilIface := by
            rcases hv with h | h | h
            · exact h.2.2
            · exact absurd h0 h.1
            · exact absurd h0 h.1
          subst hv0
          have hfin : ∀ u0 u1 u2, ModsAt (((w3.setCell ⟨w.heap.size, 0, none⟩ u0).setCell ⟨w.heap.size, 1, none⟩ u1).setCell ⟨w.heap.size, 2, none⟩ u2) (.slice a1 n1 c1) (mdTs R) ∧ ModsAt (((w3.setCell ⟨w.heap.size, 0, none⟩ u0).setCell ⟨w.heap.size, 1, none⟩ u1).setCell ⟨w.heap.size, 2, none⟩ u2) (.slice a2 n2 c2) (mdTs X) ∧ Below w.heap.size w (((w3.setCell ⟨w.heap.size, 0, none⟩ u0).setCell ⟨w.heap.size, 1, none⟩ u1).setCell ⟨w.heap.size, 2, none⟩ u2) := fun u0 u1 u2 =>
            ⟨((hmr.other HG.out.1 u0).other HG.out.1 u1).other HG.out.1 u2, ((hmx.other HG.out.2 u0).other HG.out.2 u1).other HG.out.2 u2,
             ((hB.setCell (p := ⟨w.heap.size, 0, none⟩) (Nat.le_refl _) u0).setCell (p := ⟨w.heap.size, 1, none⟩) (Nat.le_refl _) u1).setCell (p := ⟨w.heap.size, 2, none⟩) (Nat.le_refl _) u2⟩
          replace hfin := Lib.hid hfin
          replace hfr := Lib.hid hfr
          clear hrd h0 hv hmr hmx HG
          go_wp2_with fail
          refine bodyPost_ret (v := .tuple #[.agg #[.string p, .slice a1 n1 c1, .slice a2 n2 c2], .nilIface]) (by simp [results, Tryz.results13, go_sem, *]) rfl ?_
          unfold ReadOut
          rw [hfr.out]
          exact ⟨⟨_, _, _, _, rfl, rfl, (hfin.out _ _ _).1, (hfin.out _ _ _).2.1, .inl ⟨rfl, rfl, rfl⟩⟩, (hfin.out _ _ _).2.2⟩
        · have hfr := Lib.hid (fileRead_err hl8 hrd h0)
          have hn0 : ∃ t q, v = .iface t (.pointer q) := by
            rcases hv with h | h | h
            · exact absurd h.1 h0
            · rw [h.2.2, errV_pos A h0]; exact ⟨_, _, rfl⟩
            · obtain ⟨_, b, rfl, _⟩ := h
              exact ⟨_, _, rfl⟩
          obtain ⟨ty, q, rfl⟩ := hn0
          have HV := Lib.hid (bare_calls A _ _ w3 hv)
          have h0' := Lib.hid h0
          clear hv hrd hmr hmx h0
          go_wp2_with fail
          refine HV.out.mono ?_
          rintro e w4 ⟨rfl, hb⟩
          replace hy := hy.below hb
          replace hB := below_step hB hb
          clear y0 y1 y2 yf b0 b1 b2 bf HV
          obtain ⟨y0, y1, y2, yf⟩ := id hy
          rw [errV_pos A h0'.out]
          have hB4 := ((hB.setCell (p := ⟨w.heap.size, 0, none⟩) (Nat.le_refl _) (.string ⟨#[]⟩)).setCell (p := ⟨w.heap.size, 1, none⟩) (Nat.le_refl _) (.slice none 0 0)).setCell (p := ⟨w.heap.size, 2, none⟩) (Nat.le_refl _) (.slice none 0 0)
          generalize hx : errV A (fileErr (flOf p R X)).1 = x at *
          go_wp2_with fail
          refine bodyPost_ret (v := .tuple #[.agg #[.string ⟨#[]⟩, .slice none 0 0, .slice none 0 0], .iface 259 (.pointer (some (A (fileErr (flOf p R X)).1)))]) (by simp [results, Tryz.results13, go_sem, *]) rfl ?_
          unfold ReadOut
          rw [hfr.out]
          first
          | exact ⟨⟨⟨#[]⟩, .slice none 0 0, .slice none 0 0, _, rfl, rfl, ModsAt.nil _, ModsAt.nil _, .inr (.inl ⟨h0'.out, rfl, (errV_pos A h0'.out).symm⟩)⟩, hB4⟩
          | exact ⟨⟨⟨#[]⟩, .slice none 0 0, .slice none 0 0, _, rfl, rfl, ModsAt.nil _, ModsAt.nil _, .inr (.inl ⟨h0'.out, rfl, (errV_pos A h0'.out).symm⟩)⟩, hB⟩
      · have hcase : cur.toList.isEmpty = false ∨ (cur.toList.isEmpty = true ∧ ((k : Int) == 0) = true) := by
          rw [toList_data]
          by_cases h1 : cur.data.toList = []
          · refine .inr ⟨by rw [h1]; rfl, ?_⟩
            by_cases h2 : k = 0
            · simp [h2]
            · exact absurd ⟨h1, h2⟩ hend
          · refine .inl ?_
            cases h3 : cur.data.toList with
            | nil => exact absurd h3 h1
            | cons _ _ => rfl
        have hcl := cut_first_len cur.data.toList
        have hcut := cut_calls cur ⟨#[10]⟩ wr hE.m (by omega)
        rw [show (⟨#[10]⟩ : ByteArray).data.toList = [10] from rfl] at hcut
        have hstep := @readF_step cur.size k (flOf p R X) cur.data.toList hend
        have hbd := @readF_bad cur.size k (flOf p R X) cur.data.toList hend
        have hrest := @cut_rest cur.data.toList
        rw [HR.out] at hstep hbd
        rw [← size_eq] at hcl hrest
        generalize hC : Lib.cut cur.data.toList [10] = C at *
        obtain ⟨x1, x2, is⟩ := C
        simp only at hcl hcut hstep hbd hrest
        have hline := fun W (h1 : EnvP ks A W) (h2 : FS (w.heap.size + 1) (w.heap.size + 1) W p R X rv xv) => line_calls (w.heap.size + 1) (w.heap.size + 1) 8000 p R X rv xv ⟨x1.toArray⟩ k W h1.m h2 hx0 (by omega) (by omega) (by rw [size_eq]; simp only [data_mk]; omega) (by decide) hsh
        simp only [data_mk] at hline
        cases is with
        | false =>
          have hfr := Lib.hid (fileRead_bad hl8 (hbd (by simp)))
          have hBB := below_step hb1 hBr
          have HC := Lib.hid hcut
          clear hline hstep hbd hrest hcut hC HR hsh hx0 hFS hend hBr
          rcases hcase with e1 | ⟨e1, e2⟩
          all_goals
            go_wp2_with fail
            refine HC.out.mono ?_
            rintro e w3 ⟨rfl, hb⟩
            replace hy := hy.below hb
            replace hE := hE.below hb
            replace hBB := below_step hBB hb
            have g1 := hE.errs.var 1 hE.has.1
            simp only [errG] at g1
            obtain ⟨y0, y1, y2, yf⟩ := id hy
            have hn1 : w.heap.size ≠ 5 := by omega
            have hn2 : 5 ≠ w.heap.size := by omega
            have hn3 : w.heap.size < w3.heap.size := lt_of_cell y0
            have hn4 : w.heap.size ≠ w3.heap.size := by omega
            have hn5 : w3.heap.size ≠ w.heap.size := by omega
            go_wp2_with fail
            go_region
            all_goals
              go_wp2_with fail
              refine bodyPost_ret (v := .tuple #[.agg #[.string ⟨#[]⟩, .slice none 0 0, .slice none 0 0], .iface 89 (.pointer (some ⟨w3.heap.size, 0, none⟩))]) (by simp [results, Tryz.results13, go_sem, *]) rfl ?_
              unfold ReadOut
              rw [hfr.out]
              exact bad_out hBB hn3 rfl
        | true =>
          have HC := Lib.hid hcut
          have HL := Lib.hid hline
          by_cases hlin : (lineF (flOf p R X) x1 k).1 = true
          · have hst := hstep rfl hlin
            have hre := hrest rfl
            rw [hlin] at HL
            have HST := Lib.hid hst
            clear hstep hbd hst hcut hC hline hrest
            rcases hcase with e1 | ⟨e1, e2⟩
            all_goals
              go_wp2_with fail
              refine HC.out.mono ?_
              rintro e w3 ⟨rfl, hb⟩
              have hBr3 := below_step hBr hb
              go_wp2_with fail
              refine (HL.out w3 (hE.below hb) (hFS.below hb)).mono ?_
              rintro e w4 ⟨rfl, hb4, hpost⟩
              obtain ⟨p', R', X', rv', xv', hfl, hFS', hx0', hR', hX', hsh'⟩ := hpost trivial
              rw [← hsz] at hb4
              replace hBr3 := hBr3.trans hb4
              clear hpost HL HC
              have H' := Lib.hid (And.intro hFS' (And.intro hx0' hsh'))
              clear hFS' hx0' hsh' hFS hx0 hsh hE hy
              have hwr := wrap_nat (k + 1) (by omega)
              go_wp2_with fail
              go_roundw
              case rel =>
                refine ⟨⟨x2.toArray⟩, k + 1, p', R', X', rv', xv', rfl, rfl, ?_, by omega, by omega, H'.out.1, H'.out.2.1, H'.out.2.2, hBr3, Lib.hid ?_⟩
                · rw [size_eq]; simp only [data_mk]; omega
                · rw [hfl, HST.out, data_mk, size_eq, data_mk]
                  exact readF_fuel _ _ _ _ _ (by omega) (by omega)
              case measure => simp [intOf]; omega
          · have hfr := Lib.hid (fileRead_bad hl8 (hbd (fun h => hlin h.2)))
            have hlin2 : (lineF (flOf p R X) x1 k).1 = false := by simpa using hlin
            rw [hlin2] at HL
            clear hstep hbd hrest hcut hC hline hlin
            rcases hcase with e1 | ⟨e1, e2⟩
            all_goals
              go_wp2_with fail
              refine HC.out.mono ?_
              rintro e w3 ⟨rfl, hb⟩
              have hBr3 := below_step hBr hb
              go_wp2_with fail
              refine (HL.out w3 (hE.below hb) (hFS.below hb)).mono ?_
              rintro e w4 ⟨rfl, hb4, _⟩
              rw [← hsz] at hb4
              replace hBr3 := hBr3.trans hb4
              clear HL HC hE hFS hy
              have hE := hE1.below hBr3
              have hy := hy1.below hBr3
              have hBB := below_step hb1 hBr3
              have g1 := hE.errs.var 1 hE.has.1
              simp only [errG] at g1
              obtain ⟨y0, y1, y2, yf⟩ := id hy
              have hn1 : w.heap.size ≠ 5 := by omega
              have hn2 : 5 ≠ w.heap.size := by omega
              have hn3 : w.heap.size < w4.heap.size := lt_of_cell y0
              have hn4 : w.heap.size ≠ w4.heap.size := by omega
              have hn5 : w4.heap.size ≠ w.heap.size := by omega
              clear hE1 hy1 HR hsh hx0
              go_wp2_with fail
              go_region
              all_goals
                go_wp2_with fail
                refine bodyPost_ret (v := .tuple #[.agg #[.string ⟨#[]⟩, .slice none 0 0, .slice none 0 0], .iface 89 (.pointer (some ⟨w4.heap.size, 0, none⟩))]) (by simp [results, Tryz.results13, go_sem, *]) rfl ?_
                unfold ReadOut
                rw [hfr.out]
                exact bad_out hBB hn3 rfl
end Go.Proofs.Pw
