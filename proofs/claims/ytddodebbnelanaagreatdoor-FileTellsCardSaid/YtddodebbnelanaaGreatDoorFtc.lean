/- Ft: walks and plain laws, joined: FileRef6 ErrIs ErrAs Code Coded Faulted FileTells2 FileTells3 Env EnvP Open OpenF Law Facts. Conditions: at each theorem. -/
import Derived.Test.YtddodebbnelanaaGreatDoorFtb
import Derived.Test.YtddodebbnelanaaGreatDoorFta
import Derived.Maps.AppendAt
import Derived.Test.YtddodebbnelanaaGreatDoorProg
import Derived.WalkKit
import Derived.LaidEql
import Derived.Stop.Asserts
import Derived.RowKitTokens
import Derived.Lib.Hide
import Derived.Test.YtddodebbnelanaaGreatDoorMpa
import Derived.WalkLawsBesides
import Derived.WalkSpells
import Derived.Stop.IfaceNil
import Derived.Test.YtddodebbnelanaaGreatDoorMpb
import Derived.Deep.RegionHeld2
import Derived.Stop.LaidErr
import Derived.LaidHandle
import Derived.SliceStrings
import Derived.Deep.Slices
import Derived.Deep.Fields
import Derived.ProofKit
import Derived.LaidMore
import Derived.Lay
import Derived.OpenShut
import Derived.SevenTiedAt
import Derived.Stop.Joined
import Derived.HandedShaped
import Derived.Test.YtddodebbnelanaaGreatDoorRows

/- R.ReadFile. Conditions: texts of at most 1000000 bytes. -/
namespace Go.Proofs.Pw
open Go.RowKit
open Go.Lib hiding intOf

/-- a file that is being read, its rows laid later than its box -/
structure FR (base b : Nat) (w : World) (p : ByteArray) (R X : List (ByteArray × ByteArray)) (rv xv : Value) : Prop where
  box : Box3f w b (.string p) rv xv
  lt : b < base
  r : w.ownsRow base 26 2 rv R.length (mdVs R)
  x : w.ownsRow base 26 2 xv X.length (mdVs X)
  ap : ∀ k, rv.ownBlock = some k → xv.ownBlock ≠ some k
theorem FR.nr {base b : Nat} {w : World} {p : ByteArray} {R X : List (ByteArray × ByteArray)} {rv xv : Value} (h : FR base b w p R X rv xv) : rv.ownBlock ≠ some b := own_ne h.r h.lt
theorem FR.nx {base b : Nat} {w : World} {p : ByteArray} {R X : List (ByteArray × ByteArray)} {rv xv : Value} (h : FR base b w p R X rv xv) : xv.ownBlock ≠ some b := own_ne h.x h.lt
theorem FR.below {base b : Nat} {w w' : World} {p : ByteArray} {R X : List (ByteArray × ByteArray)} {rv xv : Value} (h : FR base b w p R X rv xv) (hb : Below w.heap.size w w') : FR base b w' p R X rv xv :=
  ⟨h.box.below hb, h.lt, ownsRow_kept h.r hb, ownsRow_kept h.x hb, h.ap⟩
theorem FR.path {base b : Nat} {w : World} {p : ByteArray} {R X : List (ByteArray × ByteArray)} {rv xv : Value} (h : FR base b w p R X rv xv) (u : ByteArray) : FR base b (w.setCell ⟨b, 0, none⟩ (.string u)) u R X rv xv :=
  ⟨h.box.set0 _, h.lt, ownsRow_set h.r h.nr _, ownsRow_set h.x h.nx _, h.ap⟩
theorem FR.boxGrown {base b : Nat} {w w7 : World} {p : ByteArray} {R X : List (ByteArray × ByteArray)} {rv xv : Value} {o : Obj} {row : Option Nat} (h : FR base b w p R X rv xv) (hg : (w.alloc o).grownBy w7 row) (hr : some b ≠ row) : Box3f w7 b (.string p) rv xv :=
  (h.box.below (below_alloc w o)).grownBy hg hr
theorem FR.addR {base b : Nat} {w w7 : World} {p : ByteArray} {R X : List (ByteArray × ByteArray)} {rv xv o7 : Value} {o : Obj} {x y : ByteArray} (h : FR base b w p R X rv xv)
    (hown : w7.ownsRow base 26 2 o7 (R.length + 1) (mdVs R ++ [.string x, .string y])) (hg : (w.alloc o).grownBy w7 rv.ownBlock) (hat : o7.ownBlock = rv.ownBlock ∨ o7.ownBlock = some (w.alloc o).heap.size) :
    FR base b (w7.setCell ⟨b, 1, none⟩ o7) p (R ++ [(x, y)]) X o7 xv := by
  have hbx := h.boxGrown hg (fun e => h.nr e.symm)
  have hx7 : w7.ownsRow base 26 2 xv X.length (mdVs X) := (h.x.alloc _).kept hg (apart_row (fun k hk e => h.ap k hk e))
  have hne : o7.ownBlock ≠ some b := own_ne hown h.lt
  refine ⟨hbx.set1 _, h.lt, ?_, ownsRow_set hx7 h.nx _, ?_⟩
  · rw [List.length_append, ← mdVs_snoc]
    exact ownsRow_set hown hne _
  · intro k hk e
    rcases hat with h2 | h2
    · exact h.ap k (h2.symm.trans hk) e
    · have := (h.x.lt k e).2
      rw [hk] at h2
      have := Option.some.inj h2
      simp at this
      omega
theorem FR.addX {base b : Nat} {w w7 : World} {p : ByteArray} {R X : List (ByteArray × ByteArray)} {rv xv o7 : Value} {o : Obj} {x y : ByteArray} (h : FR base b w p R X rv xv)
    (hown : w7.ownsRow base 26 2 o7 (X.length + 1) (mdVs X ++ [.string x, .string y])) (hg : (w.alloc o).grownBy w7 xv.ownBlock) (hat : o7.ownBlock = xv.ownBlock ∨ o7.ownBlock = some (w.alloc o).heap.size) :
    FR base b (w7.setCell ⟨b, 2, none⟩ o7) p R (X ++ [(x, y)]) rv o7 := by
  have hbx := h.boxGrown hg (fun e => h.nx e.symm)
  have hr7 : w7.ownsRow base 26 2 rv R.length (mdVs R) := (h.r.alloc _).kept hg (apart_row (fun k hk e => h.ap k e hk))
  have hne : o7.ownBlock ≠ some b := own_ne hown h.lt
  refine ⟨hbx.set2 _, h.lt, ownsRow_set hr7 h.nr _, ?_, ?_⟩
  · rw [List.length_append, ← mdVs_snoc]
    exact ownsRow_set hown hne _
  · intro k hk e
    rcases hat with h2 | h2
    · exact h.ap k hk (h2.symm.trans e)
    · have := (h.r.lt k hk).2
      rw [e] at h2
      have := Option.some.inj h2
      simp at this
      omega

theorem own_lenF {w : World} {base e k n cap m : Nat} {a : Option Addr} {xs : List Value} (h : w.ownsRow base e k (.slice a m cap) n xs) : m = n := by
  rcases h.2 with ⟨h1, rfl⟩ | ⟨g, c, cur, h1, _⟩
  · injection h1
  · injection h1
/-- what ReadFile hands back -/
def RReadOut (s : Str) (w : World) (e : Ending) (w' : World) : Prop :=
  (∃ (p : ByteArray) (r x : Value), e = .returned (.tuple #[.agg #[.string p, r, x], fltV ((fileRead s).2.1, (fileRead s).2.2)]) ∧ p.data.toList = (fileRead s).1.path ∧ ModsAt w' r (fileRead s).1.reqs ∧ ModsAt w' x (fileRead s).1.excl) ∧ Below w.heap.size w w'
theorem rreadOut_err {s : Str} {w w' : World} {k : Nat} {a : Int} (hf : fileRead s = (noFl, k, a)) (h : Below w.heap.size w w') : RReadOut s w (.returned (.tuple #[.agg #[.string ⟨#[]⟩, .slice none 0 0, .slice none 0 0], fltV (k, a)])) w' := by
  unfold RReadOut
  rw [hf]
  exact ⟨⟨⟨#[]⟩, _, _, rfl, rfl, ModsAt.nil _, ModsAt.nil _⟩, h⟩
/-- the results' boxes, stored to -/
theorem below_st5 {w w' : World} (h : Below w.heap.size w w') (v0 v1 v2 v3 v4 : Value) : Below w.heap.size w (((((w'.setCell ⟨w.heap.size, 0, none⟩ v0).setCell ⟨w.heap.size, 1, none⟩ v1).setCell ⟨w.heap.size, 2, none⟩ v2).setCell ⟨w.heap.size + 1, 0, none⟩ v3).setCell ⟨w.heap.size + 1, 1, none⟩ v4) :=
  ((((h.setCell (p := ⟨w.heap.size, 0, none⟩) (Nat.le_refl _) _).setCell (p := ⟨w.heap.size, 1, none⟩) (Nat.le_refl _) _).setCell (p := ⟨w.heap.size, 2, none⟩) (Nat.le_refl _) _).setCell (p := ⟨w.heap.size + 1, 0, none⟩) (Nat.le_succ _) _).setCell (p := ⟨w.heap.size + 1, 1, none⟩) (Nat.le_succ _) _

theorem lstF_drop1 {n k : Nat} (L : Nat → ByteArray) (h : k < n) : (lstF n L).drop k = (L k).data.toList :: (lstF n L).drop (k + 1) := by
  have hl : k < (lstF n L).length := by rw [lstF_length]; exact h
  rw [List.drop_eq_getElem_cons hl]
  have := lstF_get n L k h
  rw [List.getElem?_eq_getElem hl] at this
  rw [Option.some.inj this]

theorem mods_st5 {w : World} {v : Value} {l : List Md} {b : Nat} (h : ModsAt w v l) (hb : ∀ q n m, v = .slice (some q) n m → q.block ≠ b ∧ q.block ≠ b + 1) (v0 v1 v2 v3 v4 : Value) : ModsAt (((((w.setCell ⟨b, 0, none⟩ v0).setCell ⟨b, 1, none⟩ v1).setCell ⟨b, 2, none⟩ v2).setCell ⟨b + 1, 0, none⟩ v3).setCell ⟨b + 1, 1, none⟩ v4) v l :=
  ((((h.other (fun q n m e => (hb q n m e).1) v0).other (fun q n m e => (hb q n m e).1) v1).other (fun q n m e => (hb q n m e).1) v2).other (fun q n m e => (hb q n m e).2) v3).other (fun q n m e => (hb q n m e).2) v4
theorem box2_belowd {w w' : World} {b : Nat} {v0 v1 : Value} (h : Box2 w b v0 v1) (hb : Below w.drew.heap.size w.drew w') : Box2 w' b v0 v1 :=
  Box2.below (w := w.drew) ⟨h.c0, h.c1, h.fr⟩ hb
theorem ModsAt.belowd {w w' : World} {v : Value} {l : List Md} (h : ModsAt w v l) (hb : Below w.drew.heap.size w.drew w') : ModsAt w' v l :=
  ModsAt.below (w := w.drew) h hb

set_option maxHeartbeats 8000000 in
set_option maxRecDepth 100000 in
theorem refRead_calls (s : ByteArray) (w : World) (hs : s.size ≤ 1000000) :
    Calls Tryz.prog 21 #[.string s] w (RReadOut s.data.toList w) := by
  obtain ⟨i0, hi0, hz0, hz1, hz2⟩ := info_parts Tryz.infoMod
  have hb1 := below_alloc w (.cells #[.string ⟨#[]⟩, .slice none 0 0, .slice none 0 0] 24)
  have hb2 := below_alloc (w.alloc (.cells #[.string ⟨#[]⟩, .slice none 0 0, .slice none 0 0] 24)) (.cells #[.int .i64 0, .int .i64 0] 35)
  have hB := below_step hb1 hb2
  have hy := (box3f_alloc w (.string ⟨#[]⟩) (.slice none 0 0) (.slice none 0 0) 24).below hb2
  have hg := box2_alloc (w.alloc (.cells #[.string ⟨#[]⟩, .slice none 0 0, .slice none 0 0] 24)) (.int .i64 0) (.int .i64 0) 35
  simp only [World.size_alloc] at hg
  have n1 : w.heap.size ≠ w.heap.size + 1 := by omega
  have n2 : w.heap.size + 1 ≠ w.heap.size := by omega
  clear hb1 hb2
  by_cases h8 : 8000 < s.size
  · have h8' : (8000 : Int) < (s.size : Int) := by omega
    have HF := Lib.hid (fileRead_long (s := s.data.toList) (by rw [← size_eq]; exact h8))
    have hba := fun W => refBare_calls 2 W
    unfold fltV at hba
    replace hba := Lib.hid hba
    go_enter Tryz.func21, Tryz.ntmps21
    go_wp2_with fail
    generalize (w.alloc (.cells #[.string ⟨#[]⟩, .slice none 0 0, .slice none 0 0] 24)).alloc (.cells #[.int .i64 0, .int .i64 0] 35) = w1 at *
    refine (hba.out _).mono ?_
    rintro e w2 ⟨rfl, hb⟩
    have HB := Lib.hid (below_step hB hb)
    replace hy := hy.below hb
    replace hg := hg.below hb
    clear hb hB hba
    obtain ⟨y0, y1, y2, yf⟩ := id hy
    obtain ⟨g0, g1, gf⟩ := id hg
    go_wp2_with fail
    refine bodyPost_ret (v := .tuple #[.agg #[.string ⟨#[]⟩, .slice none 0 0, .slice none 0 0], fltV (2, -1)]) (by simp [results, Tryz.results21, fltV, go_sem, *]) rfl ?_
    exact rreadOut_err HF.out (below_st5 HB.out _ _ _ _ _)
  · have h8' : ¬ (8000 : Int) < (s.size : Int) := by omega
    have hl8 : ¬ 8000 < s.data.toList.length := by rw [← size_eq]; exact h8
    have H8 := Lib.hid hl8
    clear hl8
    generalize hw1 : (w.alloc (.cells #[.string ⟨#[]⟩, .slice none 0 0, .slice none 0 0] 24)).alloc (.cells #[.int .i64 0, .int .i64 0] 35) = w1 at *
    have hsz : w1.heap.size = w.heap.size + 2 := by rw [← hw1]; simp
    have hb3 := below_alloc w1 (.cells #[.string ⟨#[]⟩, .slice none 0 0, .slice none 0 0] 24)
    have hf := box3f_alloc w1 (.string ⟨#[]⟩) (.slice none 0 0) (.slice none 0 0) 24
    have hcut := refCut_calls s 10 (w1.alloc (.cells #[.string ⟨#[]⟩, .slice none 0 0, .slice none 0 0] 24)) (by omega)
    rw [show ((10 : UInt8).toNat : Int) = 10 from rfl] at hcut
    replace hcut := Lib.hid hcut
    go_enter Tryz.func21, Tryz.ntmps21
    go_wp2_with fail
    refine hcut.out.mono ?_
    rintro e w2 ⟨⟨v, rfl, hL, hN⟩, hb⟩
    obtain ⟨la, n, lcap, L, rfl, hsp, hnc, hlc, hcl⟩ := hL
    have hn0 : n ≠ 0 := fun e => split_not_nil s.data.toList 10 (by rw [hsp, e]; rfl)
    have hnS : n ≤ s.size + 1 := by
      have := split_len 10 s.data.toList
      rw [hsp, lstF_length, ← size_eq] at this
      exact this
    have hLs : Hid (∀ j, j < n → (L j).size ≤ 8000) := Lib.hid (fun j hj => by
      have := lstF_mem_le (sub := [10]) (by simp) hsp.symm j hj
      rw [← size_eq] at this
      omega)
    have HRL : Hid (refLines noFl 0 (lstF n L) = readF (s.data.toList.length + 1) noFl 0 s.data.toList) := Lib.hid (by rw [← hsp]; exact refLines_eq _ _ _ _ (Nat.lt_succ_self _))
    obtain ⟨m, rfl⟩ : ∃ m, n = m + 1 := ⟨n - 1, by omega⟩
    obtain ⟨lb, lo, rfl, hc0⟩ := hcl 0 (by omega)
    have hlb := hN _ _ _ rfl
    have hlb2 : lb < w2.heap.size := lt_of_cell hc0
    have HL : Hid (∀ j, j < m + 1 → w2.cell? ⟨lb, lo + j, none⟩ = some (.string (L j))) := Lib.hid (fun j hj => by
      obtain ⟨b', o', e1, e2⟩ := hcl j hj
      cases e1
      exact e2)
    simp only [World.size_alloc] at hlb
    have hFR0 : FR w2.heap.size (w.heap.size + 2) w2 ⟨#[]⟩ [] [] (.slice none 0 0) (.slice none 0 0) :=
      ⟨by have := hf.below hb; rwa [hsz] at this, by omega, World.ownsRow_nil _ _ _ _, World.ownsRow_nil _ _ _ _, fun k e => by cases e⟩
    have HF0 := Lib.hid hFR0
    have hB3 := below_step hb3 hb
    have hw12 : w1.heap.size ≤ w2.heap.size := hB3.size
    have hm1 : ((m + 1 : Nat) : Int) - 1 = (m : Int) := by omega
    have hm8 : m ≤ 8000 := by omega
    have hlne : lb ≠ w.heap.size + 2 := by omega
    clear hsp hn0 hnS hcl hc0 hN hFR0 hf hb3 hb hcut hnc hlc
    go_wp2_with fail
    go_loopw [6] (fun iv wr => ∃ (k : Nat) (p : ByteArray) (R X : List (ByteArray × ByteArray)) (rv xv : Value), iv = .int .i64 k ∧ k ≤ m ∧ R.length ≤ k ∧ X.length ≤ k ∧ Hid (FR w2.heap.size (w.heap.size + 2) wr p R X rv xv) ∧ Hid (ShortB 8000 p R X) ∧ Hid (∀ j, j < m + 1 → wr.cell? ⟨lb, lo + j, none⟩ = some (.string (L j))) ∧ Below w1.heap.size w1 wr ∧ w2.heap.size ≤ wr.heap.size ∧ Hid (refLines (flOf p R X) k ((lstF (m + 1) L).drop k) = refLines noFl 0 (lstF (m + 1) L))) (fun iv _ => m + 1 - (intOf iv).toNat)
    case atStart => exact ⟨0, ⟨#[]⟩, [], [], _, _, rfl, Nat.zero_le _, Nat.le_refl _, Nat.le_refl _, HF0, Lib.hid ⟨by decide, fun m hm => (by simp at hm), fun m hm => (by simp at hm)⟩, HL, hB3, Nat.le_refl _, Lib.hid (by rw [List.drop_zero]; rfl)⟩
    case round =>
      obtain ⟨k, p, R, X, rv, xv, rfl, hk, hRk, hXk, HFR, HSH, HLc, hBr, hwr2, HR⟩ := hrel
      have ck := HLc.out k (by omega)
      have hkn : (k : Int) < ((m + 1 : Nat) : Int) := by omega
      have hk0 : (0 : Int) ≤ (k : Int) := by omega
      have HDR := Lib.hid (lstF_drop1 L (show k < m + 1 by omega))
      clear HF0 HL hB3
      by_cases hlast : k = m
      · have hkm : ((k : Int) == (m : Int)) = true := by rw [hlast]; simp
        have hdr : refLines (flOf p R X) k [(L k).data.toList] = refLines noFl 0 (lstF (m + 1) L) := by
          rw [← HR.out, HDR.out, List.drop_eq_nil_of_le (by rw [lstF_length]; omega)]
        by_cases hx : (L k).data.toList = []
        · have e1 : (L k).toList.isEmpty = true := by rw [toList_data, hx]; rfl
          by_cases hz : k = 0
          · have e2 : ((k : Int) == 0) = true := by simp; omega
            have HF := Lib.hid (fileRead_bad (k := k) (g := noFl) H8.out (HRL.out.symm.trans (hdr.symm.trans (by unfold refLines; rw [if_pos (.inr hz)]))))
            clear hx hdr hz hlast
            have HB := Lib.hid (below_step hB hBr)
            obtain ⟨y0, y1, y2, yf⟩ := hy.below hBr
            obtain ⟨g0, g1, gf⟩ := hg.below hBr
            go_wp2_with fail
            refine bodyPost_ret (v := .tuple #[.agg #[.string ⟨#[]⟩, .slice none 0 0, .slice none 0 0], fltV (1, (k : Int))]) (by simp [results, Tryz.results21, fltV, go_sem, *]) rfl ?_
            exact rreadOut_err HF.out (below_st5 HB.out _ _ _ _ _)
          · have e2 : ((k : Int) == 0) = false := by simp; omega
            have HRd : Hid (readF (s.data.toList.length + 1) noFl 0 s.data.toList = (flOf p R X, none)) := Lib.hid (HRL.out.symm.trans (hdr.symm.trans (by unfold refLines; rw [if_neg (fun h => h.elim (fun h => h hx) hz)])))
            have hM1 := modsAt_own HFR.out.r
            have hM2 := modsAt_own HFR.out.x
            have hgr1 : ∀ q n m, rv = .slice (some q) n m → q.block ≠ w.heap.size ∧ q.block ≠ w.heap.size + 1 := fun q n m e => by
              have := own_ge HFR.out.r q n m e
              omega
            have hgr2 : ∀ q n m, xv = .slice (some q) n m → q.block ≠ w.heap.size ∧ q.block ≠ w.heap.size + 1 := fun q n m e => by
              have := own_ge HFR.out.x q n m e
              omega
            have hff := refFault_calls p rv xv (mdTs R) (mdTs X) wr hM1 hM2 (by have := HSH.out.1; omega) (short_of HSH.out.2.1 (by decide) (by omega)) (short_of HSH.out.2.2 (by decide) (by omega))
            have hbx := HFR.out.box
            have hb6 := below_step hB hBr
            obtain ⟨a1, n1', c1, rfl⟩ := own_form HFR.out.r
            obtain ⟨a2, n2', c2, rfl⟩ := own_form HFR.out.x
            generalize hr0 : fileErr (flOf p R X) = r at *
            have HR0 := Lib.hid hr0
            replace hff := Lib.hid hff
            have HM := Lib.hid (And.intro hM1 hM2)
            have HGR := Lib.hid (And.intro hgr1 hgr2)
            clear hr0 hM1 hM2 hgr1 hgr2 HFR HSH HLc HR HDR hdr hx hz hlast
            obtain ⟨b0, b1, b2, bf⟩ := id hbx
            go_wp2_with fail
            refine hff.out.mono ?_
            rintro e w4 ⟨rfl, hb⟩
            replace hb : Below wr.heap.size wr w4 := hb
            rw [show fileErr ⟨p.data.toList, mdTs R, mdTs X⟩ = r from HR0.out]
            obtain ⟨rc, rat⟩ := r
            have hs4 : w.heap.size + 2 < w4.heap.size := Nat.lt_of_lt_of_le (lt_of_cell b0 : w.heap.size + 2 < wr.heap.size) hb.size
            have hbf := below_alloc w4 (.cells #[.int .i64 (rc : Nat), .int .i64 rat] 35)
            have hf2 := box2_alloc w4 (.int .i64 (rc : Nat)) (.int .i64 rat) 35
            replace hb := below_step hb hbf
            have hbx4 := hbx.below hb
            have hy4 := (hy.below hBr).below hb
            have hg4 := (hg.below hBr).below hb
            have hB4 := below_step hb6 hb
            have HM4 := Lib.hid (And.intro (HM.out.1.below hb) (HM.out.2.below hb))
            unfold fltV
            clear b0 b1 b2 bf hff hbf HM hb hb6 hy hg hB hBr hbx
            have n3 : w4.heap.size ≠ w.heap.size := by omega
            have n4 : w4.heap.size ≠ w.heap.size + 1 := by omega
            have n5 : w4.heap.size ≠ w.heap.size + 2 := by omega
            by_cases h0 : rc = 0
            · have HF := Lib.hid (fileRead_ok H8.out HRd.out (by rw [HR0.out]; exact h0))
              subst h0
              replace hf2 : Box2 (w4.alloc (.cells #[.int .i64 0, .int .i64 rat] 35)) w4.heap.size (.int .i64 0) (.int .i64 rat) := hf2
              replace hbx4 : Box3f (w4.alloc (.cells #[.int .i64 0, .int .i64 rat] 35)) (w.heap.size + 2) (.string p) (.slice a1 n1' c1) (.slice a2 n2' c2) := hbx4
              replace hy4 : Box3f (w4.alloc (.cells #[.int .i64 0, .int .i64 rat] 35)) w.heap.size (.string ⟨#[]⟩) (.slice none 0 0) (.slice none 0 0) := hy4
              replace hg4 : Box2 (w4.alloc (.cells #[.int .i64 0, .int .i64 rat] 35)) (w.heap.size + 1) (.int .i64 0) (.int .i64 0) := hg4
              replace hB4 : Below w.heap.size w (w4.alloc (.cells #[.int .i64 0, .int .i64 rat] 35)) := hB4
              replace HM4 : Hid (ModsAt (w4.alloc (.cells #[.int .i64 0, .int .i64 rat] 35)) (.slice a1 n1' c1) (mdTs R) ∧ ModsAt (w4.alloc (.cells #[.int .i64 0, .int .i64 rat] 35)) (.slice a2 n2' c2) (mdTs X)) := HM4
              have hfi := fun W => refFine_calls W
              unfold fltV at hfi
              replace hfi := Lib.hid hfi
              clear HR0 HRd
              obtain ⟨f0, f1, ff⟩ := id hf2
              obtain ⟨b0, b1, b2, bf⟩ := id hbx4
              go_wp2_with fail
              generalize w4.alloc (.cells #[.int .i64 0, .int .i64 rat] 35) = w5 at *
              go_region_with (go_at_call 72; refine (hfi.out _).mono ?_; rintro e w6 ⟨rfl, hb6⟩; have hB6 := below_step hB4.drew hb6; have hM6 := And.intro (HM4.out.1.belowd hb6) (HM4.out.2.belowd hb6); obtain ⟨d0, d1, d2, df⟩ := hbx4.belowd hb6; obtain ⟨y0, y1, y2, yf⟩ := hy4.belowd hb6; obtain ⟨g0, g1, gf⟩ := box2_belowd hg4 hb6; replace hB6 := Lib.hid hB6; replace hM6 := Lib.hid hM6)
              all_goals
                go_wp2_with fail
                refine bodyPost_ret (v := .tuple #[.agg #[.string p, .slice a1 n1' c1, .slice a2 n2' c2], fltV (0, -1)]) (by simp [results, Tryz.results21, fltV, go_sem, *]) rfl ?_
                unfold RReadOut
                rw [HF.out]
                exact ⟨⟨p, _, _, rfl, rfl, mods_st5 hM6.out.1 HGR.out.1 _ _ _ _ _, mods_st5 hM6.out.2 HGR.out.2 _ _ _ _ _⟩, below_st5 hB6.out _ _ _ _ _⟩
            · have HF := Lib.hid (fileRead_err H8.out HRd.out (by rw [HR0.out]; exact h0))
              have hc9 : (0 : Int) < (rc : Int) := by omega
              have hba := fun W => refBare_calls rc W
              unfold fltV at hba
              replace HF : Hid (fileRead s.data.toList = (noFl, rc, -1)) := Lib.hid (by rw [HF.out, HR0.out])
              replace hba := Lib.hid hba
              obtain ⟨f0, f1, ff⟩ := id hf2
              clear h0 HR0 HRd HM4 HGR
              go_wp2_with fail
              generalize w4.alloc (.cells #[.int .i64 (rc : Nat), .int .i64 rat] 35) = w5 at *
              refine (hba.out _).mono ?_
              rintro e w6 ⟨rfl, hb⟩
              have HB := Lib.hid (below_step hB4 hb)
              obtain ⟨y0, y1, y2, yf⟩ := hy4.below hb
              obtain ⟨g0, g1, gf⟩ := hg4.below hb
              clear f0 f1 ff hf2 hbx4 hy4 hg4 hB4 hb hba n3 n4 n5
              go_wp2_with fail
              refine bodyPost_ret (v := .tuple #[.agg #[.string ⟨#[]⟩, .slice none 0 0, .slice none 0 0], fltV (rc, -1)]) (by simp [results, Tryz.results21, fltV, go_sem, *]) rfl ?_
              exact rreadOut_err HF.out (below_st5 HB.out _ _ _ _ _)
        · have e1 : (L k).toList.isEmpty = false := by
            rw [toList_data]
            cases h3 : (L k).data.toList with
            | nil => exact absurd h3 hx
            | cons _ _ => rfl
          have HF := Lib.hid (fileRead_bad (k := k) (g := noFl) H8.out (HRL.out.symm.trans (hdr.symm.trans (by unfold refLines; rw [if_pos (.inl hx)]))))
          clear hx hdr hlast
          have HB := Lib.hid (below_step hB hBr)
          obtain ⟨y0, y1, y2, yf⟩ := hy.below hBr
          obtain ⟨g0, g1, gf⟩ := hg.below hBr
          go_wp2_with fail
          refine bodyPost_ret (v := .tuple #[.agg #[.string ⟨#[]⟩, .slice none 0 0, .slice none 0 0], fltV (1, (k : Int))]) (by simp [results, Tryz.results21, fltV, go_sem, *]) rfl ?_
          exact rreadOut_err HF.out (below_st5 HB.out _ _ _ _ _)
      · have hkm : ((k : Int) == (m : Int)) = false := by simp; omega
        have hcp := refCut_calls (L k) 32 wr (by have := hLs.out k (by omega); omega)
        rw [show ((32 : UInt8).toNat : Int) = 32 from rfl] at hcp
        have hne : (lstF (m + 1) L).drop (k + 1) ≠ [] := fun e => by
          have := congrArg List.length e
          rw [List.length_drop, lstF_length, List.length_nil] at this
          omega
        have HST : Hid (refLines noFl 0 (lstF (m + 1) L) = if (lineF (flOf p R X) (L k).data.toList k).1 = true then refLines (lineF (flOf p R X) (L k).data.toList k).2 (k + 1) ((lstF (m + 1) L).drop (k + 1)) else (noFl, some k)) := Lib.hid (by rw [← HR.out, HDR.out, refLines_cons hne])
        have HBD : Hid ((lineF (flOf p R X) (L k).data.toList k).1 = false → fileRead s.data.toList = (noFl, 1, (k : Int))) := Lib.hid (fun h => fileRead_bad (k := k) (g := noFl) H8.out (HRL.out.symm.trans (HST.out.trans (if_neg (by rw [h]; decide)))))
        have hwk := wrap_nat (k + 1) (by omega)
        have hLk8 := hLs.out k (by omega)
        replace hcp := Lib.hid hcp
        clear HR HDR hne
        go_wp2_with fail
        refine hcp.out.mono ?_
        rintro e w3 ⟨⟨v, rfl, hP, -⟩, hb⟩
        obtain ⟨pa, q, pcap, W, rfl, hps, hpc, hpm, hpl⟩ := hP
        have HPS := Lib.hid hps
        have HW : Hid (∀ j, j < q → (W j).size ≤ 8000) := Lib.hid (fun j hj => by
          have := lstF_mem_le (sub := [32]) (by simp) hps.symm j hj
          rw [← size_eq] at this
          omega)
        have hBr3 := below_step hBr hb
        have HFR3 := Lib.hid (HFR.out.below hb)
        have HLc3 : Hid (∀ j, j < m + 1 → w3.cell? ⟨lb, lo + j, none⟩ = some (.string (L j))) := Lib.hid (fun j hj => Below.cell_some hb (HLc.out j hj))
        have hb23 := hb
        have hws := hwr2
        clear hps hb ck HFR HLc hBr hcp hLk8
        by_cases hz : k = 0
        · have hkz : ((k : Int) == 0) = true := by simp; omega
          have HLF : Hid (lineF (flOf p R X) (L k).data.toList k = (decide (q = 2 ∧ (lstF q W).head? = some modW), { flOf p R X with path := (lstF q W).getLast?.getD [] })) := Lib.hid (by
            unfold lineF
            rw [if_pos hz, HPS.out, lstF_length])
          by_cases hq : q = 2
          · subst hq
            obtain ⟨pb, po, rfl, c0⟩ := hpl 0 (by decide)
            rw [Nat.add_zero] at c0
            obtain ⟨_, _, e1, c1⟩ := hpl 1 (by decide)
            cases e1
            by_cases hm : (W 0).data.toList = modW
            · have e0 : W 0 = ⟨#[109, 111, 100, 117, 108, 101]⟩ := bytes_eq.1 hm
              have HT : Hid (lineF (flOf p R X) (L k).data.toList k = (true, { flOf p R X with path := (W 1).data.toList })) := Lib.hid (by
                rw [HLF.out, lstF_two]
                simp [hm])
              rw [e0] at c0
              obtain ⟨b0, b1, b2, bf⟩ := HFR3.out.box
              clear hpl hm e0 HLF HBD hz
              go_wp2_with fail
              go_roundw
              case rel =>
                refine ⟨k + 1, W 1, R, X, rv, xv, by go_num, by omega, by omega, by omega, Lib.hid (HFR3.out.path _), Lib.hid ⟨HW.out 1 (by decide), HSH.out.2⟩, Lib.hid (fun j hj => by rw [set_blk _ hlne]; exact HLc3.out j hj), hBr3.setCell (p := ⟨w.heap.size + 2, 0, none⟩) (by show w1.heap.size ≤ w.heap.size + 2; omega) _, by have := hb23.size; simp; omega, Lib.hid ?_⟩
                rw [HST.out, HT.out, if_pos rfl]
                rfl
              case measure => simp [intOf]; omega
            · obtain ⟨e1, e2⟩ := lit_ne' (l := [109, 111, 100, 117, 108, 101]) hm
              have e3 : ((W 0).toList != [109, 111, 100, 117, 108, 101]) = true := by unfold bne; rw [e1]; rfl
              have HF := Lib.hid (HBD.out (by rw [HLF.out, lstF_two]; simp [hm]))
              clear hpl hm HLF HBD hz
              have HB := Lib.hid (below_step hB hBr3)
              obtain ⟨y0, y1, y2, yf⟩ := hy.below hBr3
              obtain ⟨g0, g1, gf⟩ := hg.below hBr3
              go_wp2_with fail
              refine bodyPost_ret (v := .tuple #[.agg #[.string ⟨#[]⟩, .slice none 0 0, .slice none 0 0], fltV (1, (k : Int))]) (by simp [results, Tryz.results21, fltV, go_sem, *]) rfl ?_
              exact rreadOut_err HF.out (below_st5 HB.out _ _ _ _ _)
          · have hq2 : ((q : Int) == 2) = false := by simp; omega
            have hq3 : ((q : Int) != 2) = true := by simp; omega
            have HF := Lib.hid (HBD.out (by rw [HLF.out]; simp [hq]))
            clear hpl HLF HBD hz hq
            have HB := Lib.hid (below_step hB hBr3)
            obtain ⟨y0, y1, y2, yf⟩ := hy.below hBr3
            obtain ⟨g0, g1, gf⟩ := hg.below hBr3
            go_wp2_with fail
            refine bodyPost_ret (v := .tuple #[.agg #[.string ⟨#[]⟩, .slice none 0 0, .slice none 0 0], fltV (1, (k : Int))]) (by simp [results, Tryz.results21, fltV, go_sem, *]) rfl ?_
            exact rreadOut_err HF.out (below_st5 HB.out _ _ _ _ _)
        · have hkz : ((k : Int) == 0) = false := by simp; omega
          by_cases hq : q = 3
          · subst hq
            obtain ⟨pb, po, rfl, c0⟩ := hpl 0 (by decide)
            rw [Nat.add_zero] at c0
            obtain ⟨_, _, e1, c1⟩ := hpl 1 (by decide)
            cases e1
            obtain ⟨_, _, e1, c2⟩ := hpl 2 (by decide)
            cases e1
            have HSP : Hid (split (L k).data.toList [32] = [(W 0).data.toList, (W 1).data.toList, (W 2).data.toList]) := Lib.hid (by rw [HPS.out]; rfl)
            have HLF := Lib.hid (lineF_three (f := flOf p R X) hz HSP.out)
            have hba := below_alloc w3 (.cells #[.string ⟨#[]⟩, .string ⟨#[]⟩] 26)
            have hba' := below_alloc w3 (.cells #[.string (W 1), .string (W 2)] 26)
            have k1 := Below.cell_some hba c1
            have k2 := Below.cell_some hba c2
            have k0 := Below.cell_some hba c0
            clear hpl
            go_wp2_with fail
            go_region
            all_goals
              have hbz := hba'.drew
              have hBz := below_step hBr3 hbz
              have HFz := Lib.hid (HFR3.out.below hbz)
              have HLz : Hid (∀ j, j < m + 1 → (w3.alloc (.cells #[.string (W 1), .string (W 2)] 26)).drew.cell? ⟨lb, lo + j, none⟩ = some (.string (L j))) := Lib.hid (fun j hj => Below.cell_some hbz (HLc3.out j hj))
              have z0 := Below.cell_some hbz c0
              obtain ⟨y3, y4, _⟩ := box2_alloc w3 (.string (W 1)) (.string (W 2)) 26
              replace y3 : (w3.alloc (.cells #[.string (W 1), .string (W 2)] 26)).drew.cell? ⟨w3.heap.size, 0, none⟩ = some (.string (W 1)) := y3
              replace y4 : (w3.alloc (.cells #[.string (W 1), .string (W 2)] 26)).drew.cell? ⟨w3.heap.size, 1, none⟩ = some (.string (W 2)) := y4
              have hw2z : w2.heap.size ≤ (w3.alloc (.cells #[.string (W 1), .string (W 2)] 26)).drew.heap.size := Nat.le_trans hws (Nat.le_trans hb23.size hbz.size)
              generalize (w3.alloc (.cells #[.string (W 1), .string (W 2)] 26)).drew = wz at *
              clear hba hba' hbz c0 c1 c2 k0 k1 k2 HFR3 HLc3 hBr3 hb23
              obtain ⟨ar, nr, cr, rfl⟩ := own_form HFz.out.r
              obtain ⟨ax, nx, cx, rfl⟩ := own_form HFz.out.x
              obtain ⟨b0, b1, b2, bf⟩ := id HFz.out.box
              have hnx := own_lenF HFz.out.x
              by_cases hrq : (W 0).data.toList = reqW
              · have e0 : W 0 = ⟨#[114, 101, 113, 117, 105, 114, 101]⟩ := bytes_eq.1 hrq
                by_cases hX : X = []
                · subst hX
                  replace hnx : nx = 0 := hnx
                  subst hnx
                  have HT : Hid (lineF (flOf p R []) (L k).data.toList k = (true, flOf p (R ++ [(W 1, W 2)]) [])) := Lib.hid (by
                    rw [HLF.out, if_pos ⟨hrq, rfl⟩]
                    simp [flOf, mdTs])
                  rw [e0] at z0
                  clear hrq e0 HLF HBD hz
                  go_wp2_with (at_builtin; refine wpList_append_own_at _ rfl _ _ 22 rfl w2.heap.size 26 i0 (.agg #[.string ⟨#[]⟩, .string ⟨#[]⟩]) 2 32 Tryz.underlying22 hi0 hz0 hz1 hz2 rfl (by decide) _ _ _ rfl (HFz.out.r.alloc _) ⟨wz.heap.size, 0, none⟩ 1 1 [.string (W 1), .string (W 2)] rfl rfl (cell_two_new _ _ _ _) (by intro u hu; simp at hu; rcases hu with rfl | rfl <;> rfl) (by unfold maxLen; omega) (by omega) (by simp; omega) ?_; intro o7 w7 hown7 hgrow7 _ hat7; (obtain ⟨q0, q1, q2, qf⟩ := HFz.out.boxGrown hgrow7 (fun e => HFz.out.nr e.symm)); (have qf1 := qf 1); (obtain ⟨a7, n7, c7, rfl⟩ := own_form hown7); (replace hown7 := Lib.hid hown7); (replace hgrow7 := Lib.hid hgrow7); (replace hat7 := Lib.hid hat7))
                  go_roundw
                  case rel =>
                    refine ⟨k + 1, p, R ++ [(W 1, W 2)], [], .slice a7 n7 c7, .slice ax 0 cx, by go_num, by omega, by simp; omega, Nat.zero_le _, Lib.hid (HFz.out.addR hown7.out hgrow7.out hat7.out), Lib.hid ⟨HSH.out.1, fun m hm => ?_, HSH.out.2.2⟩, Lib.hid (fun j hj => ?_), ?_, ?_, Lib.hid ?_⟩
                    · rcases List.mem_append.1 hm with h | h
                      · exact HSH.out.2.1 m h
                      · simp at h; subst h; exact ⟨HW.out 1 (by decide), HW.out 2 (by decide)⟩
                    · rw [set_blk _ hlne]
                      exact hgrow7.out.cell (Below.cell_some (below_alloc wz _) (HLz.out j hj)) (fun e => by have h9 : w2.heap.size ≤ lb := (HFz.out.r.lt _ e.symm).1; omega)
                    · exact (((hBz.alloc hBz.size _).grown hgrow7.out (by have := hBz.size; simp; omega) (fun q e => Nat.le_trans hw12 (HFz.out.r.lt q e).1)).setCell (p := ⟨w.heap.size + 2, 1, none⟩) (by show w1.heap.size ≤ w.heap.size + 2; omega) _)
                    · have := hgrow7.out.size; simp at this ⊢; omega
                    · rw [HST.out, HT.out, if_pos rfl]
                  case measure => simp [intOf]; omega
                · have hXn : ((nx : Int) == 0) = false := by
                    have : X.length ≠ 0 := fun e => hX (List.eq_nil_of_length_eq_zero e)
                    simp; omega
                  have HF := Lib.hid (HBD.out (by
                    rw [HLF.out, if_neg (fun h => hX (by have := h.2; simpa [flOf, mdTs] using this)), if_neg (by rw [hrq]; decide)]))
                  rw [e0] at z0
                  clear hrq e0 HLF HBD hz hX hnx
                  have HB := Lib.hid (below_step hB hBz)
                  obtain ⟨y0, y1, y2, yf⟩ := hy.below hBz
                  obtain ⟨g0, g1, gf⟩ := hg.below hBz
                  go_wp2_with fail
                  refine bodyPost_ret (v := .tuple #[.agg #[.string ⟨#[]⟩, .slice none 0 0, .slice none 0 0], fltV (1, (k : Int))]) (by simp [results, Tryz.results21, fltV, go_sem, *]) rfl ?_
                  exact rreadOut_err HF.out (below_st5 HB.out _ _ _ _ _)
              · obtain ⟨q1, q2⟩ := lit_ne' (l := [114, 101, 113, 117, 105, 114, 101]) hrq
                by_cases hex : (W 0).data.toList = excW
                · have e0 : W 0 = ⟨#[101, 120, 99, 108, 117, 100, 101]⟩ := bytes_eq.1 hex
                  have HT : Hid (lineF (flOf p R X) (L k).data.toList k = (true, flOf p R (X ++ [(W 1, W 2)]))) := Lib.hid (by
                    rw [HLF.out, if_neg (fun h => hrq h.1), if_pos hex]
                    simp [flOf, mdTs])
                  rw [e0] at z0
                  clear hrq hex q1 q2 e0 HLF HBD hz
                  subst hnx
                  go_wp2_with (at_builtin; refine wpList_append_own_at _ rfl _ _ 22 rfl w2.heap.size 26 i0 (.agg #[.string ⟨#[]⟩, .string ⟨#[]⟩]) 2 32 Tryz.underlying22 hi0 hz0 hz1 hz2 rfl (by decide) _ _ _ rfl (HFz.out.x.alloc _) ⟨wz.heap.size, 0, none⟩ 1 1 [.string (W 1), .string (W 2)] rfl rfl (cell_two_new _ _ _ _) (by intro u hu; simp at hu; rcases hu with rfl | rfl <;> rfl) (by unfold maxLen; omega) (by omega) (by simp; omega) ?_; intro o7 w7 hown7 hgrow7 _ hat7; (obtain ⟨q0, q1, q2, qf⟩ := HFz.out.boxGrown hgrow7 (fun e => HFz.out.nx e.symm)); (have qf1 := qf 2); (obtain ⟨a7, n7, c7, rfl⟩ := own_form hown7); (replace hown7 := Lib.hid hown7); (replace hgrow7 := Lib.hid hgrow7); (replace hat7 := Lib.hid hat7))
                  go_roundw
                  case rel =>
                    refine ⟨k + 1, p, R, X ++ [(W 1, W 2)], .slice ar nr cr, .slice a7 n7 c7, by go_num, by omega, by omega, by simp; omega, Lib.hid (HFz.out.addX hown7.out hgrow7.out hat7.out), Lib.hid ⟨HSH.out.1, HSH.out.2.1, fun m hm => ?_⟩, Lib.hid (fun j hj => ?_), ?_, ?_, Lib.hid ?_⟩
                    · rcases List.mem_append.1 hm with h | h
                      · exact HSH.out.2.2 m h
                      · simp at h; subst h; exact ⟨HW.out 1 (by decide), HW.out 2 (by decide)⟩
                    · rw [set_blk _ hlne]
                      exact hgrow7.out.cell (Below.cell_some (below_alloc wz _) (HLz.out j hj)) (fun e => by have h9 : w2.heap.size ≤ lb := (HFz.out.x.lt _ e.symm).1; omega)
                    · exact (((hBz.alloc hBz.size _).grown hgrow7.out (by have := hBz.size; simp; omega) (fun q e => Nat.le_trans hw12 (HFz.out.x.lt q e).1)).setCell (p := ⟨w.heap.size + 2, 2, none⟩) (by show w1.heap.size ≤ w.heap.size + 2; omega) _)
                    · have := hgrow7.out.size; simp at this ⊢; omega
                    · rw [HST.out, HT.out, if_pos rfl]
                  case measure => simp [intOf]; omega
                · obtain ⟨q3, q4⟩ := lit_ne' (l := [101, 120, 99, 108, 117, 100, 101]) hex
                  have HF := Lib.hid (HBD.out (by rw [HLF.out, if_neg (fun h => hrq h.1), if_neg hex]))
                  clear hrq hex HLF HBD hz hnx
                  have HB := Lib.hid (below_step hB hBz)
                  obtain ⟨y0, y1, y2, yf⟩ := hy.below hBz
                  obtain ⟨g0, g1, gf⟩ := hg.below hBz
                  go_wp2_with fail
                  refine bodyPost_ret (v := .tuple #[.agg #[.string ⟨#[]⟩, .slice none 0 0, .slice none 0 0], fltV (1, (k : Int))]) (by simp [results, Tryz.results21, fltV, go_sem, *]) rfl ?_
                  exact rreadOut_err HF.out (below_st5 HB.out _ _ _ _ _)
          · have hq2 : ((q : Int) == 3) = false := by simp; omega
            have hq3 : ((q : Int) != 3) = true := by simp; omega
            have HF := Lib.hid (HBD.out (lineF_not hz (by rw [HPS.out, lstF_length]; exact hq)))
            clear hpl HBD hz hq
            have HB := Lib.hid (below_step hB hBr3)
            obtain ⟨y0, y1, y2, yf⟩ := hy.below hBr3
            obtain ⟨g0, g1, gf⟩ := hg.below hBr3
            go_wp2_with fail
            refine bodyPost_ret (v := .tuple #[.agg #[.string ⟨#[]⟩, .slice none 0 0, .slice none 0 0], fltV (1, (k : Int))]) (by simp [results, Tryz.results21, fltV, go_sem, *]) rfl ?_
            exact rreadOut_err HF.out (below_st5 HB.out _ _ _ _ _)
end Go.Proofs.Pw

/- errors.As and errors.Is at this program's errors: sentinels of errors.New's make, and *api.Fault round one. (Turned out of the guide's worked texts ToyasAs and SentryIs: their lines at this program's numbers; as_miss, the Fault's road through Unwrap are new.) Conditions: the sentinels' rows as errors.New lays them; errors.errorType holds its handle. -/
namespace Go.Proofs.Pw
open Go.RowKit Go.Extern.Stop Go.Stop Go.Extern

theorem Tryz.is_typeOf (v : Value) (w : World) : (Extern.ReflectliteType.typeOf #[.iface 283 v]).run Tryz.prog w = .ok (.iface 215 (.agg #[.pointer (some ⟨19, 283, none⟩)])) w := by kernel_rfl
theorem Tryz.is_comparable (w : World) : (Extern.ReflectliteType.method (fun t => do Rtype.noPackHeld "Comparable" t; pure (.bool (← typeInfo t).comparable)) #[.agg #[.pointer (some ⟨19, 283, none⟩)]]).run Tryz.prog w = .ok (.bool true) w := by kernel_rfl
theorem Tryz.is_callComparable (w : World) : (callFunc 312 #[.agg #[.pointer (some ⟨19, 283, none⟩)]]).run Tryz.prog w = .ok (.value (.bool true)) w := by
  have h := @run_callFunc_extern Tryz.prog 312 _ (Extern.ReflectliteType.method fun t => do Rtype.noPackHeld "Comparable" t; pure (.bool (← typeInfo t).comparable)) Tryz.func312 (by kernel_rfl) (by kernel_rfl) (by kernel_rfl) (by kernel_rfl)
  rw [h, Tryz.is_comparable]
  rfl
theorem Tryz.is_methodComparable (v : Value) (w : World) : (Go.method 427 215 v "Comparable").run Tryz.prog w = .ok (312, v) w := by kernel_rfl
theorem Tryz.is_comp : (Tryz.prog.info? 283).map (·.comparable) = some true := by kernel_rfl
theorem Tryz.is_size : (Tryz.prog.info? 285).map (·.size) = some 1 := by kernel_rfl
theorem Tryz.no_isE (v : Value) (xT : TypeId) (w : World) : (Instr.typeAssert (.iface 283 v) xT 226 true).run Tryz.prog w = .ok (.tuple #[.nilIface, .bool false]) w := run_typeAssert_lacksB Tryz.underlying226 (by kernel_rfl) (by kernel_rfl) v xT w
theorem Tryz.no_asE (v : Value) (xT : TypeId) (w : World) : (Instr.typeAssert (.iface 283 v) xT 219 true).run Tryz.prog w = .ok (.tuple #[.nilIface, .bool false]) w := run_typeAssert_lacksB Tryz.underlying219 (by kernel_rfl) (by kernel_rfl) v xT w
theorem Tryz.no_unwrapE (v : Value) (xT : TypeId) (w : World) : (Instr.typeAssert (.iface 283 v) xT 222 true).run Tryz.prog w = .ok (.tuple #[.nilIface, .bool false]) w := run_typeAssert_lacksB Tryz.underlying222 (by kernel_rfl) (by kernel_rfl) v xT w
theorem Tryz.no_unwrapsE (v : Value) (xT : TypeId) (w : World) : (Instr.typeAssert (.iface 283 v) xT 224 true).run Tryz.prog w = .ok (.tuple #[.nilIface, .bool false]) w := run_typeAssert_lacksB Tryz.underlying224 (by kernel_rfl) (by kernel_rfl) v xT w
theorem Tryz.no_isF (v : Value) (xT : TypeId) (w : World) : (Instr.typeAssert (.iface 102 v) xT 226 true).run Tryz.prog w = .ok (.tuple #[.nilIface, .bool false]) w := run_typeAssert_lacksB Tryz.underlying226 (by kernel_rfl) (by kernel_rfl) v xT w
theorem Tryz.has_unwrapF (v : Value) (xT : TypeId) (w : World) : (Instr.typeAssert (.iface 102 v) xT 222 true).run Tryz.prog w = .ok (.tuple #[.iface 102 v, .bool true]) w := run_typeAssert_hasB Tryz.underlying222 (by kernel_rfl) v xT w
theorem Tryz.method_unwrapF (v : Value) (w : World) : (Go.method 427 102 v "Unwrap").run Tryz.prog w = .ok (306, v) w := by kernel_rfl

/-- errors.Is(x, x), x a pointer to an errors.errorString. -/
theorem is_same (a : Addr) (w : World) :
    Calls Tryz.prog 119 #[.iface 283 (.pointer (some a)), .iface 283 (.pointer (some a))] w fun e w' => e = .returned (.bool true) ∧ w = w' := by
  obtain ⟨i, hi, hcmp⟩ := Option.map_eq_some_iff.1 Tryz.is_comp
  obtain ⟨j, hj, hjs⟩ := Option.map_eq_some_iff.1 Tryz.is_size
  have h8 := @run_callFunc_extern Tryz.prog 161 _ Extern.ReflectliteType.typeOf Tryz.func161 (by kernel_rfl) (by kernel_rfl) (by kernel_rfl) (by kernel_rfl)
  have h32 := Tryz.is_callComparable
  have tT := Tryz.is_typeOf
  have mR := Tryz.is_methodComparable
  have heq := run_eql_iface_ptr_same (P := Tryz.prog) w a Tryz.underlying32 Tryz.underlying283 hi hcmp hj
  go_enter Tryz.func119, Tryz.ntmps119
  go_wp2
  refine wp_loop_rounds 1 ?_
  rw [rounds_succ]
  go_wp2
  go_ret
  exact ⟨rfl, rfl⟩

/-- errors.Is(x, y), two different pointers to errors.errorString. -/
theorem is_other (a b : Addr) (ca cb : Array Value) (ta tb : TypeId) (w : World) (hne : a ≠ b) (ha : w.heap[a.block]? = some (.cells ca ta (0, 0))) (hb : w.heap[b.block]? = some (.cells cb tb (0, 0))) :
    Calls Tryz.prog 119 #[.iface 283 (.pointer (some a)), .iface 283 (.pointer (some b))] w fun e w' => e = .returned (.bool false) ∧ w = w' := by
  obtain ⟨i, hi, hcmp⟩ := Option.map_eq_some_iff.1 Tryz.is_comp
  obtain ⟨j, hj, hjs⟩ := Option.map_eq_some_iff.1 Tryz.is_size
  have h8 := @run_callFunc_extern Tryz.prog 161 _ Extern.ReflectliteType.typeOf Tryz.func161 (by kernel_rfl) (by kernel_rfl) (by kernel_rfl) (by kernel_rfl)
  have h32 := Tryz.is_callComparable
  have tT := Tryz.is_typeOf
  have mR := Tryz.is_methodComparable
  have nE := Tryz.no_isE
  have uE := Tryz.no_unwrapE
  have vE := Tryz.no_unwrapsE
  have heq := run_eql_iface_ptr_other (P := Tryz.prog) w Tryz.underlying32 Tryz.underlying283 hi hcmp hj (by rw [hjs]; decide) hne ha hb
  go_enter Tryz.func119, Tryz.ntmps119
  go_wp2
  refine wp_loop_rounds 1 ?_
  rw [rounds_succ]
  go_wp2
  go_ret
  exact ⟨rfl, rfl⟩

/-- errors.Is(f, x), f a *api.Fault round x itself. -/
theorem is_fault_same (pb : Nat) (b : Addr) (w : World) (h1 : w.cell? ⟨pb, 1, none⟩ = some (.iface 283 (.pointer (some b)))) :
    Calls Tryz.prog 119 #[.iface 102 (.pointer (some ⟨pb, 0, none⟩)), .iface 283 (.pointer (some b))] w fun e w' => e = .returned (.bool true) ∧ w = w' := by
  obtain ⟨i, hi, hcmp⟩ := Option.map_eq_some_iff.1 Tryz.is_comp
  obtain ⟨j, hj, hjs⟩ := Option.map_eq_some_iff.1 Tryz.is_size
  have h8 := @run_callFunc_extern Tryz.prog 161 _ Extern.ReflectliteType.typeOf Tryz.func161 (by kernel_rfl) (by kernel_rfl) (by kernel_rfl) (by kernel_rfl)
  have h32 := Tryz.is_callComparable
  have tT := Tryz.is_typeOf
  have mR := Tryz.is_methodComparable
  have nF := Tryz.no_isF
  have uF := Tryz.has_unwrapF
  have mU := Tryz.method_unwrapF
  have heq := run_eql_iface_ptr_same (P := Tryz.prog) w b Tryz.underlying32 Tryz.underlying283 hi hcmp hj
  have hty := run_eql_iface_types (P := Tryz.prog) 102 283 (.pointer (some ⟨pb, 0, none⟩)) (.pointer (some b)) Tryz.underlying32 (by decide) w
  go_enter Tryz.func119, Tryz.ntmps119
  go_wp2
  refine wp_loop_rounds 2 ?_
  rw [rounds_succ]
  go_wp2
  rw [rounds_succ]
  go_wp2
  go_ret
  exact ⟨rfl, rfl⟩

/-- errors.Is(f, x), f a *api.Fault round another sentinel. -/
theorem is_fault_other (pb : Nat) (b a : Addr) (ca cb : Array Value) (ta tb : TypeId) (w : World) (h1 : w.cell? ⟨pb, 1, none⟩ = some (.iface 283 (.pointer (some a)))) (hne : a ≠ b) (ha : w.heap[a.block]? = some (.cells ca ta (0, 0))) (hb : w.heap[b.block]? = some (.cells cb tb (0, 0))) :
    Calls Tryz.prog 119 #[.iface 102 (.pointer (some ⟨pb, 0, none⟩)), .iface 283 (.pointer (some b))] w fun e w' => e = .returned (.bool false) ∧ w = w' := by
  obtain ⟨i, hi, hcmp⟩ := Option.map_eq_some_iff.1 Tryz.is_comp
  obtain ⟨j, hj, hjs⟩ := Option.map_eq_some_iff.1 Tryz.is_size
  have h8 := @run_callFunc_extern Tryz.prog 161 _ Extern.ReflectliteType.typeOf Tryz.func161 (by kernel_rfl) (by kernel_rfl) (by kernel_rfl) (by kernel_rfl)
  have h32 := Tryz.is_callComparable
  have tT := Tryz.is_typeOf
  have mR := Tryz.is_methodComparable
  have nE := Tryz.no_isE
  have uE := Tryz.no_unwrapE
  have vE := Tryz.no_unwrapsE
  have nF := Tryz.no_isF
  have uF := Tryz.has_unwrapF
  have mU := Tryz.method_unwrapF
  have heq := run_eql_iface_ptr_other (P := Tryz.prog) w Tryz.underlying32 Tryz.underlying283 hi hcmp hj (by rw [hjs]; decide) hne ha hb
  have hty := run_eql_iface_types (P := Tryz.prog) 102 283 (.pointer (some ⟨pb, 0, none⟩)) (.pointer (some b)) Tryz.underlying32 (by decide) w
  go_enter Tryz.func119, Tryz.ntmps119
  go_wp2
  refine wp_loop_rounds 2 ?_
  rw [rounds_succ]
  go_wp2
  rw [rounds_succ]
  go_wp2
  go_ret
  exact ⟨rfl, rfl⟩
end Go.Proofs.Pw

/- errors.As and errors.Is at this program's errors: sentinels of errors.New's make, and *api.Fault round one. (Turned out of the guide's worked texts ToyasAs and SentryIs: their lines at this program's numbers; as_miss, the Fault's road through Unwrap are new.) Conditions: the sentinels' rows as errors.New lays them; errors.errorType holds its handle. -/
namespace Go.Proofs.Pw
open Go.RowKit Go.Extern.Stop Go.Stop Go.Extern

theorem as_nil (t : Value) (w : World) :
    Calls Tryz.prog 118 #[.nilIface, t] w fun e w' => e = .returned (.bool false) ∧ w' = w := by
  go_enter Tryz.func118, Tryz.ntmps118
  go_wp2
  go_ret
  exact ⟨rfl, rfl⟩

theorem Tryz.as_valueOf27 (t : Addr) (w : World) : (ReflectliteValue.unpack (.iface 146 (.pointer (some t)))).run Tryz.prog w
    = .ok (.agg #[.pointer (some ⟨19, 146, none⟩), .pointer (some ⟨w.heap.size, 0, none⟩), .int .u64 150]) (w.alloc (.cells #[.pointer (some t)] 146)) := by kernel_rfl
theorem Tryz.as_type27 (a : Addr) (w : World) : (ReflectliteValue.methodAny (ReflectliteValue.valueError "reflectlite.Value.Type" 0) (fun t _ _ _ => ReflectliteType.toType t) #[.agg #[.pointer (some ⟨19, 146, none⟩), .pointer (some a), .int .u64 150]]).run Tryz.prog w
    = .ok (.iface 215 (.agg #[.pointer (some ⟨19, 146, none⟩)])) w := by kernel_rfl
theorem Tryz.as_methodKind (h : Value) (w : World) : (Go.method 427 215 (.agg #[h]) "Kind").run Tryz.prog w = .ok (301, h) w := by kernel_rfl
theorem Tryz.as_kind27 (w : World) : ((ReflectliteType.abiMethod fun t => (fun a : Nat => Value.int IntKind.u8 (a : Int)) <$> Rtype.kind t) #[.pointer (some ⟨19, 146, none⟩)]).run Tryz.prog w = .ok (.int .u8 22) w := by kernel_rfl
theorem Tryz.as_kind25 (w : World) : ((ReflectliteType.abiMethod fun t => (fun a : Nat => Value.int IntKind.u8 (a : Int)) <$> Rtype.kind t) #[.pointer (some ⟨19, 102, none⟩)]).run Tryz.prog w = .ok (.int .u8 22) w := by kernel_rfl

theorem rlm (z : Sem Value) (f : TypeId → Addr → Nat → Nat → Sem Value) (v : Value) :
    ReflectliteValue.method z f #[v] = (do match ← ReflectliteValue.parts v with | none => z | some (t, a, fl) => f t a fl (fl % 32)) := rfl
theorem Tryz.as_parts27 (a : Addr) (w : World) : (ReflectliteValue.parts (.agg #[.pointer (some ⟨19, 146, none⟩), .pointer (some a), .int .u64 150])).run Tryz.prog w = .ok (some (146, a, 150)) w := by kernel_rfl
/-- (Value).IsNil at the Value of a **p.E that is not nil. -/
theorem Tryz.as_isNil27 (a p : Addr) (W : World) (ha : W.cell? a = some (.pointer (some p))) :
    (ReflectliteValue.method (ReflectliteValue.valueError "reflectlite.Value.IsNil" 0) ReflectliteValue.isNil #[.agg #[.pointer (some ⟨19, 146, none⟩), .pointer (some a), .int .u64 150]]).run Tryz.prog W = .ok (.bool false) W := by
  rw [rlm]
  simp only [Sem.run_bind, Tryz.as_parts27, Result.andThen]
  simp [ReflectliteValue.isNil, loadVar, isAgg, underlying, Tryz.underlying146, ha, Result.andThen]

theorem Tryz.as_methodElem (h : Value) (w : World) : (Go.method 427 215 (.agg #[h]) "Elem").run Tryz.prog w = .ok (313, .agg #[h]) w := by kernel_rfl
theorem Tryz.as_methodImplements (h : Value) (w : World) : (Go.method 427 215 (.agg #[h]) "Implements").run Tryz.prog w = .ok (314, .agg #[h]) w := by kernel_rfl
theorem Tryz.as_methodAssignableTo (h : Value) (w : World) : (Go.method 427 215 (.agg #[h]) "AssignableTo").run Tryz.prog w = .ok (311, .agg #[h]) w := by kernel_rfl
theorem Tryz.as_elem27 (w : World) : (ReflectliteType.method ReflectliteType.elem #[.agg #[.pointer (some ⟨19, 146, none⟩)]]).run Tryz.prog w = .ok (.iface 215 (.agg #[.pointer (some ⟨19, 102, none⟩)])) w := by kernel_rfl
theorem Tryz.as_implements25 (w : World) : (ReflectliteType.relation "Implements" ReflectliteType.implements_ #[.agg #[.pointer (some ⟨19, 102, none⟩)], .iface 215 (.agg #[.pointer (some ⟨19, 32, none⟩)])]).run Tryz.prog w = .ok (.bool true) w := by kernel_rfl
theorem Tryz.as_typeOf25 (v : Value) (w : World) : (ReflectliteType.typeOf #[.iface 102 v]).run Tryz.prog w = .ok (.iface 215 (.agg #[.pointer (some ⟨19, 102, none⟩)])) w := by kernel_rfl
theorem Tryz.as_assignable25 (w : World) : (ReflectliteType.relation "AssignableTo" ReflectliteType.assignableTo #[.agg #[.pointer (some ⟨19, 102, none⟩)], .iface 215 (.agg #[.pointer (some ⟨19, 102, none⟩)])]).run Tryz.prog w = .ok (.bool true) w := by kernel_rfl
theorem Tryz.as_valueOf25 (e : Addr) (w : World) : (ReflectliteValue.unpack (.iface 102 (.pointer (some e)))).run Tryz.prog w
    = .ok (.agg #[.pointer (some ⟨19, 102, none⟩), .pointer (some ⟨w.heap.size, 0, none⟩), .int .u64 150]) (w.alloc (.cells #[.pointer (some e)] 102)) := by kernel_rfl

theorem Tryz.as_elemOf27 (w : World) : (Rtype.elem? 146).run Tryz.prog w = .ok (some 102) w := by kernel_rfl
theorem Tryz.as_mk25 (p : Addr) (w : World) : (ReflectliteValue.mk 102 p ReflectliteValue.flagAddr).run Tryz.prog w = .ok (.agg #[.pointer (some ⟨19, 102, none⟩), .pointer (some p), .int .u64 406]) w := by kernel_rfl
/-- (Value).Elem at the Value of a **p.E that is not nil: the Value of the *p.E variable that it points to, addressable. -/
theorem Tryz.as_elemV27 (a p : Addr) (W : World) (ha : W.cell? a = some (.pointer (some p))) :
    (ReflectliteValue.method (ReflectliteValue.valueError "reflectlite.Value.Elem" 0) ReflectliteValue.elem #[.agg #[.pointer (some ⟨19, 146, none⟩), .pointer (some a), .int .u64 150]]).run Tryz.prog W
      = .ok (.agg #[.pointer (some ⟨19, 102, none⟩), .pointer (some p), .int .u64 406]) W := by
  rw [rlm]
  simp only [Sem.run_bind, Tryz.as_parts27, Result.andThen]
  simp [ReflectliteValue.elem, loadVar, isAgg, underlying, Tryz.underlying146, ha, Result.andThen, Tryz.as_elemOf27, Tryz.as_mk25]
theorem rls (v x : Value) : ReflectliteValue.set #[v, x] = (do
    let (some (dst, a, fl), some (src, b, _)) := (← ReflectliteValue.parts v, ← ReflectliteValue.parts x)
      | unsupported (.noEntry "extern/(internal/reflectlite.Value).Set.zeroValue")
    if fl / ReflectliteValue.flagAddr % 2 == 0 then unsupported (.noEntry "extern/(internal/reflectlite.Value).Set.unaddressable")
    let val ← loadVar src b
    if ← Rtype.directlyAssignable dst src then storeVar dst a val
    else if ← Rtype.implements dst src then
      if (← Rtype.kind src) == 20 then
        match val with
        | .nilIface => unsupported (.noEntry "extern/reflectlite: a nil value of one interface type handed on as a value of another")
        | _ => storeVar dst a val
      else storeVar dst a (.iface src val)
    else panicString ("reflectlite.Set: value of type " ++ (← Rtype.spelt src) ++ " is not assignable to type " ++ (← Rtype.spelt dst))
    pure (.tuple #[])) := rfl
theorem Tryz.as_parts25a (a : Addr) (w : World) : (ReflectliteValue.parts (.agg #[.pointer (some ⟨19, 102, none⟩), .pointer (some a), .int .u64 406])).run Tryz.prog w = .ok (some (102, a, 406)) w := by kernel_rfl
theorem Tryz.as_parts25 (a : Addr) (w : World) : (ReflectliteValue.parts (.agg #[.pointer (some ⟨19, 102, none⟩), .pointer (some a), .int .u64 150])).run Tryz.prog w = .ok (some (102, a, 150)) w := by kernel_rfl
theorem Tryz.as_direct25 (w : World) : (Rtype.directlyAssignable 102 102).run Tryz.prog w = .ok true w := by kernel_rfl
theorem Tryz.as_size25 (w : World) : (sizeOf 102).run Tryz.prog w = .ok 1 w := by kernel_rfl
/-- (Value).Set: the *p.E variable at 'ta' gets what the Value's own variable 'b' holds. -/
theorem Tryz.as_set25 (ta b e : Addr) (old : Value) (W : World) (hb : W.cell? b = some (.pointer (some e))) (ht : W.cell? ta = some old) (hf : W.frozen? ta = false) :
    (ReflectliteValue.set #[.agg #[.pointer (some ⟨19, 102, none⟩), .pointer (some ta), .int .u64 406], .agg #[.pointer (some ⟨19, 102, none⟩), .pointer (some b), .int .u64 150]]).run Tryz.prog W
      = .ok (.tuple #[]) (W.setCell ta (.pointer (some e))) := by
  rw [rls]
  simp only [Sem.run_bind, Tryz.as_parts25a, Tryz.as_parts25, Result.andThen]
  simp [ReflectliteValue.flagAddr, loadVar, isAgg, underlying, Tryz.underlying102, hb, Result.andThen, Tryz.as_direct25, storeVar, Value.cells, storeCells, Addr.add]
  rw [run_store Tryz.prog W ta _ _ (by rfl)]
  simp [ht, hf]

set_option maxHeartbeats 4000000 in
theorem as_hit (e t : Addr) (old : Value) (w : World) (hg : w.cell? ⟨10, 0, none⟩ = some (.iface 215 (.agg #[.pointer (some ⟨19, 32, none⟩)]))) (ht0 : w.cell? t = some old) (hf0 : w.frozen? t = false) :
    Calls Tryz.prog 118 #[.iface 102 (.pointer (some e)), .iface 146 (.pointer (some t))] w fun ev w' => ev = .returned (.bool true) ∧ w' = ((((w.alloc (.cells #[.pointer (some t)] 146)).alloc (.cells #[.pointer (some ⟨19, 146, none⟩), .pointer (some ⟨w.heap.size, 0, none⟩), .int .u64 150] 180)).alloc (.cells #[.pointer (some ⟨19, 146, none⟩), .pointer (some ⟨w.heap.size, 0, none⟩), .int .u64 150] 180)).alloc (.cells #[.pointer (some e)] 102)).setCell t (.pointer (some e)) := by
  have h6 := @run_callFunc_extern Tryz.prog 157 _ (fun args => ReflectliteValue.unpack (args.getD 0 (.tuple #[]))) Tryz.func157 (by kernel_rfl) (by kernel_rfl) (by kernel_rfl) (by kernel_rfl)
  have h7 := @run_callFunc_extern Tryz.prog 158 _ (ReflectliteValue.methodAny (ReflectliteValue.valueError "reflectlite.Value.Type" 0) (fun t _ _ _ => ReflectliteType.toType t)) Tryz.func158 (by kernel_rfl) (by kernel_rfl) (by kernel_rfl) (by kernel_rfl)
  have h8 := @run_callFunc_extern Tryz.prog 159 _ (ReflectliteValue.method (ReflectliteValue.valueError "reflectlite.Value.IsNil" 0) ReflectliteValue.isNil) Tryz.func159 (by kernel_rfl) (by kernel_rfl) (by kernel_rfl) (by kernel_rfl)
  have h27 := @run_callFunc_extern Tryz.prog 301 _ (ReflectliteType.abiMethod fun t => do pure (.int .u8 (← Rtype.kind t))) Tryz.func301 (by kernel_rfl) (by kernel_rfl) (by kernel_rfl) (by kernel_rfl)
  have h37 := @run_callFunc_extern Tryz.prog 313 _ (ReflectliteType.method ReflectliteType.elem) Tryz.func313 (by kernel_rfl) (by kernel_rfl) (by kernel_rfl) (by kernel_rfl)
  have h38 := @run_callFunc_extern Tryz.prog 314 _ (ReflectliteType.relation "Implements" ReflectliteType.implements_) Tryz.func314 (by kernel_rfl) (by kernel_rfl) (by kernel_rfl) (by kernel_rfl)
  have h10 := @run_callFunc_extern Tryz.prog 161 _ ReflectliteType.typeOf Tryz.func161 (by kernel_rfl) (by kernel_rfl) (by kernel_rfl) (by kernel_rfl)
  have h35 := @run_callFunc_extern Tryz.prog 311 _ (ReflectliteType.relation "AssignableTo" ReflectliteType.assignableTo) Tryz.func311 (by kernel_rfl) (by kernel_rfl) (by kernel_rfl) (by kernel_rfl)
  have h11 := @run_callFunc_extern Tryz.prog 197 _ (ReflectliteValue.method (ReflectliteValue.valueError "reflectlite.Value.Elem" 0) ReflectliteValue.elem) Tryz.func197 (by kernel_rfl) (by kernel_rfl) (by kernel_rfl) (by kernel_rfl)
  have h12 := @run_callFunc_extern Tryz.prog 198 _ ReflectliteValue.set Tryz.func198 (by kernel_rfl) (by kernel_rfl) (by kernel_rfl) (by kernel_rfl)
  have tO := Tryz.as_typeOf25
  have mA := Tryz.as_methodAssignableTo
  have a25 := Tryz.as_assignable25
  have v25 := Tryz.as_valueOf25
  have f6 := Tryz.as_valueOf27
  have f7 := Tryz.as_type27
  have mK := Tryz.as_methodKind
  have mE := Tryz.as_methodElem
  have mI := Tryz.as_methodImplements
  have k27 := Tryz.as_kind27
  have k25 := Tryz.as_kind25
  have e27 := Tryz.as_elem27
  have i25 := Tryz.as_implements25
  have n8 := Tryz.as_isNil27 ⟨w.heap.size, 0, none⟩ t ((w.alloc (.cells #[.pointer (some t)] 146)).alloc (.cells #[.pointer (some ⟨19, 146, none⟩), .pointer (some ⟨w.heap.size, 0, none⟩), .int .u64 150] 180)) (by simp)
  have hlt : 10 < w.heap.size := World.block_lt_of_cell? w _ hg
  have hg2 : ((w.alloc (.cells #[.pointer (some t)] 146)).alloc (.cells #[.pointer (some ⟨19, 146, none⟩), .pointer (some ⟨w.heap.size, 0, none⟩), .int .u64 150] 180)).cell? ⟨10, 0, none⟩ = some (.iface 215 (.agg #[.pointer (some ⟨19, 32, none⟩)])) := by
    rw [World.cell?_alloc_lt _ _ ⟨10, 0, none⟩ (by simp; omega), World.cell?_alloc_lt _ _ ⟨10, 0, none⟩ hlt]; exact hg
  have htl : t.block < w.heap.size := by
    rcases Nat.lt_or_ge t.block w.heap.size with h | h
    · exact h
    · simp [World.cell?, Array.getElem?_eq_none h] at ht0
  have el := Tryz.as_elemV27 ⟨w.heap.size, 0, none⟩ t (((w.alloc (.cells #[.pointer (some t)] 146)).alloc (.cells #[.pointer (some ⟨19, 146, none⟩), .pointer (some ⟨w.heap.size, 0, none⟩), .int .u64 150] 180)).alloc (.cells #[.pointer (some ⟨19, 146, none⟩), .pointer (some ⟨w.heap.size, 0, none⟩), .int .u64 150] 180)) (by rw [World.cell?_alloc_lt _ _ ⟨w.heap.size, 0, none⟩ (by simp; omega)]; simp)
  have st := Tryz.as_set25 t ⟨w.heap.size + 1 + 1 + 1, 0, none⟩ e old ((((w.alloc (.cells #[.pointer (some t)] 146)).alloc (.cells #[.pointer (some ⟨19, 146, none⟩), .pointer (some ⟨w.heap.size, 0, none⟩), .int .u64 150] 180)).alloc (.cells #[.pointer (some ⟨19, 146, none⟩), .pointer (some ⟨w.heap.size, 0, none⟩), .int .u64 150] 180)).alloc (.cells #[.pointer (some e)] 102))
    (by rw [World.cell?_alloc_at _ _ _ _ (by simp)]; rfl)
    (by rw [World.cell?_alloc_lt _ _ t (by simp; omega), World.cell?_alloc_lt _ _ t (by simp; omega), World.cell?_alloc_lt _ _ t (by simp; omega), World.cell?_alloc_lt _ _ t htl]; exact ht0)
    (by rw [World.frozen?_alloc_old _ _ t (by simp; omega), World.frozen?_alloc_old _ _ t (by simp; omega), World.frozen?_alloc_old _ _ t (by simp; omega), World.frozen?_alloc_old _ _ t (Nat.ne_of_lt htl)]; exact hf0)
  go_enter Tryz.func118, Tryz.ntmps118
  go_wp2
  refine wp_loop_rounds 1 ?_
  rw [rounds_succ]
  go_wp2
  go_ret
  exact ⟨rfl, rfl⟩


theorem Tryz.as_assignableE (w : World) : (ReflectliteType.relation "AssignableTo" ReflectliteType.assignableTo #[.agg #[.pointer (some ⟨19, 283, none⟩)], .iface 215 (.agg #[.pointer (some ⟨19, 102, none⟩)])]).run Tryz.prog w = .ok (.bool false) w := by kernel_rfl
set_option maxHeartbeats 4000000 in
theorem as_miss (e t : Addr) (old : Value) (w : World) (hg : w.cell? ⟨10, 0, none⟩ = some (.iface 215 (.agg #[.pointer (some ⟨19, 32, none⟩)]))) (ht0 : w.cell? t = some old) (_hf0 : w.frozen? t = false) :
    Calls Tryz.prog 118 #[.iface 283 (.pointer (some e)), .iface 146 (.pointer (some t))] w fun ev w' => ev = .returned (.bool false) ∧ Below w.heap.size w w' := by
  have h6 := @run_callFunc_extern Tryz.prog 157 _ (fun args => ReflectliteValue.unpack (args.getD 0 (.tuple #[]))) Tryz.func157 (by kernel_rfl) (by kernel_rfl) (by kernel_rfl) (by kernel_rfl)
  have h7 := @run_callFunc_extern Tryz.prog 158 _ (ReflectliteValue.methodAny (ReflectliteValue.valueError "reflectlite.Value.Type" 0) (fun t _ _ _ => ReflectliteType.toType t)) Tryz.func158 (by kernel_rfl) (by kernel_rfl) (by kernel_rfl) (by kernel_rfl)
  have h8 := @run_callFunc_extern Tryz.prog 159 _ (ReflectliteValue.method (ReflectliteValue.valueError "reflectlite.Value.IsNil" 0) ReflectliteValue.isNil) Tryz.func159 (by kernel_rfl) (by kernel_rfl) (by kernel_rfl) (by kernel_rfl)
  have h27 := @run_callFunc_extern Tryz.prog 301 _ (ReflectliteType.abiMethod fun t => do pure (.int .u8 (← Rtype.kind t))) Tryz.func301 (by kernel_rfl) (by kernel_rfl) (by kernel_rfl) (by kernel_rfl)
  have h37 := @run_callFunc_extern Tryz.prog 313 _ (ReflectliteType.method ReflectliteType.elem) Tryz.func313 (by kernel_rfl) (by kernel_rfl) (by kernel_rfl) (by kernel_rfl)
  have h38 := @run_callFunc_extern Tryz.prog 314 _ (ReflectliteType.relation "Implements" ReflectliteType.implements_) Tryz.func314 (by kernel_rfl) (by kernel_rfl) (by kernel_rfl) (by kernel_rfl)
  have h10 := @run_callFunc_extern Tryz.prog 161 _ ReflectliteType.typeOf Tryz.func161 (by kernel_rfl) (by kernel_rfl) (by kernel_rfl) (by kernel_rfl)
  have h35 := @run_callFunc_extern Tryz.prog 311 _ (ReflectliteType.relation "AssignableTo" ReflectliteType.assignableTo) Tryz.func311 (by kernel_rfl) (by kernel_rfl) (by kernel_rfl) (by kernel_rfl)
  have tO := Tryz.is_typeOf
  have aE := Tryz.as_assignableE
  have nA := Tryz.no_asE
  have uE := Tryz.no_unwrapE
  have vE := Tryz.no_unwrapsE
  have mA := Tryz.as_methodAssignableTo
  have f6 := Tryz.as_valueOf27
  have f7 := Tryz.as_type27
  have mK := Tryz.as_methodKind
  have mE := Tryz.as_methodElem
  have mI := Tryz.as_methodImplements
  have k27 := Tryz.as_kind27
  have k25 := Tryz.as_kind25
  have e27 := Tryz.as_elem27
  have i25 := Tryz.as_implements25
  have n8 := Tryz.as_isNil27 ⟨w.heap.size, 0, none⟩ t ((w.alloc (.cells #[.pointer (some t)] 146)).alloc (.cells #[.pointer (some ⟨19, 146, none⟩), .pointer (some ⟨w.heap.size, 0, none⟩), .int .u64 150] 180)) (by simp)
  have hlt : 10 < w.heap.size := World.block_lt_of_cell? w _ hg
  have hg2 : ((w.alloc (.cells #[.pointer (some t)] 146)).alloc (.cells #[.pointer (some ⟨19, 146, none⟩), .pointer (some ⟨w.heap.size, 0, none⟩), .int .u64 150] 180)).cell? ⟨10, 0, none⟩ = some (.iface 215 (.agg #[.pointer (some ⟨19, 32, none⟩)])) := by
    rw [World.cell?_alloc_lt _ _ ⟨10, 0, none⟩ (by simp; omega), World.cell?_alloc_lt _ _ ⟨10, 0, none⟩ hlt]; exact hg
  have htl : t.block < w.heap.size := by
    rcases Nat.lt_or_ge t.block w.heap.size with h | h
    · exact h
    · simp [World.cell?, Array.getElem?_eq_none h] at ht0
  go_enter Tryz.func118, Tryz.ntmps118
  go_wp2
  refine wp_loop_rounds 1 ?_
  rw [rounds_succ]
  go_wp2
  go_ret
  exact ⟨rfl, (((Below.refl _ _).alloc (Nat.le_refl _) _).alloc (by simp) _).alloc (by simp; omega) _⟩


end Go.Proofs.Pw

/- plain.Code: the number of an error. Conditions: the ten sentinels of package api lie as errors.New lays them, each at its own place; errors.errorType holds its handle. -/
namespace Go.Proofs.Pw
open Go.RowKit

structure EnvC (A : Nat → Addr) (w : World) : Prop where
  errs : EnvE allErrs A w
  handle : w.cell? ⟨10, 0, none⟩ = some (.iface 215 (.agg #[.pointer (some ⟨19, 32, none⟩)]))
theorem EnvC.below {A : Nat → Addr} {w w' : World} (h : EnvC A w) (hb : Below w.heap.size w w') : EnvC A w' := ⟨h.errs.below hb, Below.cell_same hb h.handle⟩

theorem Tryz.isIface_error : Tryz.prog.isIface 32 = true := by kernel_rfl

theorem code_nil (w : World) : Calls Tryz.prog 59 #[.nilIface] w fun e w' => e = .returned (.tuple #[.int .i64 0, .int .i64 (-1)]) ∧ w = w' := by
  go_enter Tryz.func59, Tryz.ntmps59
  go_wp2_with fail
  go_ret2
  exact ⟨rfl, rfl⟩

def ten (A : Nat → Addr) : Array Value := #[errP (A 1), errP (A 2), errP (A 3), errP (A 4), errP (A 5), errP (A 6), errP (A 7), errP (A 8), errP (A 9), errP (A 10)]
where errP (a : Addr) : Value := .iface 283 (.pointer (some a))
theorem ten_get (A : Nat → Addr) : ∀ i, i < 10 → (ten A)[i]? = some (.iface 283 (.pointer (some (A (i + 1)))))
  | 0, _ | 1, _ | 2, _ | 3, _ | 4, _ | 5, _ | 6, _ | 7, _ | 8, _ | 9, _ => rfl
  | _ + 10, h => absurd h (by omega)

/-- what plain.Code says of an error of errors.New's make -/
def CodeIs (A : Nat → Addr) (a : Addr) (n : Int) : Prop := (∃ k : Nat, 1 ≤ k ∧ k ≤ 10 ∧ a = A k ∧ n = k) ∨ ((∀ k : Nat, 1 ≤ k → k ≤ 10 → a ≠ A k) ∧ n = -1)

set_option maxHeartbeats 1000000 in
set_option maxRecDepth 100000 in
theorem code_any (a : Addr) (c : Array Value) (ta : TypeId) (A : Nat → Addr) (w : World) (hE : EnvC A w) (ha : w.heap[a.block]? = some (.cells c ta (0, 0))) :
    Calls Tryz.prog 59 #[.iface 283 (.pointer (some a))] w fun e w' =>
      (∃ n : Int, e = .returned (.tuple #[.int .i64 n, .int .i64 (-1)]) ∧ CodeIs A a n) ∧ Below w.heap.size w w' := by
  have hT := Tryz.isIface_error
  have hb0 : Below w.heap.size w (w.alloc (.cells #[.pointer none] 102)) := (Below.refl _ _).alloc (Nat.le_refl _) _
  have hE0 := hE.below hb0
  have ha0 := Below.row_same hb0 ha
  have ht0 : (w.alloc (.cells #[.pointer none] 102)).cell? ⟨w.heap.size, 0, none⟩ = some (.pointer none) := by simp
  have hf0 : (w.alloc (.cells #[.pointer none] 102)).frozen? ⟨w.heap.size, 0, none⟩ = false := by simp
  have hz0 : w.heap.size ≤ (w.alloc (.cells #[.pointer none] 102)).heap.size := hb0.size
  go_enter Tryz.func59, Tryz.ntmps59
  go_wp2_with fail
  refine (as_miss a ⟨w.heap.size, 0, none⟩ (.pointer none) _ hE0.handle ht0 hf0).mono ?_
  rintro e w1 ⟨rfl, hb1⟩
  have hb01 := hb0.trans (hb1.mono hz0)
  have hE1 := hE0.below hb1
  have ha1 := Below.row_same hb1 ha0
  have g1 := hE1.errs.var 1 (mem_allErrs (by decide) (by decide))
  have g2 := hE1.errs.var 2 (mem_allErrs (by decide) (by decide))
  have g3 := hE1.errs.var 3 (mem_allErrs (by decide) (by decide))
  have g4 := hE1.errs.var 4 (mem_allErrs (by decide) (by decide))
  have g5 := hE1.errs.var 5 (mem_allErrs (by decide) (by decide))
  have g6 := hE1.errs.var 6 (mem_allErrs (by decide) (by decide))
  have g7 := hE1.errs.var 7 (mem_allErrs (by decide) (by decide))
  have g8 := hE1.errs.var 8 (mem_allErrs (by decide) (by decide))
  have g9 := hE1.errs.var 9 (mem_allErrs (by decide) (by decide))
  have g10 := hE1.errs.var 10 (mem_allErrs (by decide) (by decide))
  simp only [errG] at g1 g2 g3 g4 g5 g6 g7 g8 g9 g10
  clear ht0 hf0 hE0 hb0 ha0 hb1
  go_wp2_with fail
  have hbt : Below w.heap.size w (w1.alloc (.cells (ten A) 32)) := hb01.alloc hb01.size _
  have hbu : Below w1.heap.size w1 (w1.alloc (.cells (ten A) 32)) := (Below.refl _ _).alloc (Nat.le_refl _) _
  have hE2 := hE1.below hbu
  have ha2 := Below.row_same hbu ha1
  have hcells : ∀ i, i < 10 → (w1.alloc (.cells (ten A) 32)).cell? ⟨w1.heap.size, i, none⟩ = some (.iface 283 (.pointer (some (A (i + 1))))) := fun i hi => by
    rw [World.cell?_alloc_at _ _ _ _ rfl]; exact ten_get A i hi
  obtain ⟨W, hW⟩ : ∃ W, W = w1.alloc (.cells (ten A) 32) := ⟨_, rfl⟩
  have hgoal : w1.alloc (.cells #[.iface 283 (.pointer (some (A 1))), .iface 283 (.pointer (some (A 2))), .iface 283 (.pointer (some (A 3))), .iface 283 (.pointer (some (A 4))), .iface 283 (.pointer (some (A 5))), .iface 283 (.pointer (some (A 6))), .iface 283 (.pointer (some (A 7))), .iface 283 (.pointer (some (A 8))), .iface 283 (.pointer (some (A 9))), .iface 283 (.pointer (some (A 10)))] 32) = W := by rw [hW]; rfl
  rw [hgoal]
  rw [← hW] at hbt hE2 ha2 hcells
  clear hgoal hW hbu hE1 ha1 g1 g2 g3 g4 g5 g6 g7 g8 g9 g10 hE ha
  go_loop [3, 28] (fun t i => ∃ k : Nat, k ≤ 10 ∧ t = .int .i64 (-1) ∧ i = .int .i64 k ∧ Hid (∀ j, j < k → a ≠ A (j + 1))) (fun _ i => 10 - (intOf i).toNat)
  case atStart => exact ⟨0, by omega, rfl, rfl, fun _ h => absurd h (Nat.not_lt_zero _)⟩
  case round =>
    obtain ⟨k, hk, rfl, rfl, HA⟩ := hrel
    by_cases hlt : k < 10
    · have hck := hcells k hlt
      obtain ⟨cb, tb, hcb⟩ := hE2.errs.row (k + 1) (mem_allErrs (by omega) (by omega))
      by_cases hsame : a = A (k + 1)
      · subst hsame
        go_wp2_with (go_at_call 119; refine (is_same _ _).mono ?_; rintro e w2 ⟨rfl, rfl⟩)
        go_ret2
        exact ⟨⟨(k : Int) + 1, rfl, .inl ⟨k + 1, by omega, by omega, rfl, by omega⟩⟩, hbt⟩
      · go_wp2_with (go_at_call 119; refine (is_other _ _ _ _ _ _ _ hsame ha2 hcb).mono ?_; rintro e w2 ⟨rfl, rfl⟩)
        go_round
        case rel =>
          refine ⟨k + 1, by omega, rfl, by go_num, ?_⟩
          intro j hj
          rcases Nat.lt_or_ge j k with h | h
          · exact HA.out j h
          · obtain rfl : j = k := by omega
            exact hsame
        case measure => simp [intOf]; omega
    · obtain rfl : k = 10 := by omega
      go_wp2_with fail
      go_ret2
      refine ⟨⟨-1, rfl, .inr ⟨fun k h1 h2 => ?_, rfl⟩⟩, hbt⟩
      have := HA.out (k - 1) (by omega)
      rwa [Nat.sub_add_cancel h1] at this
/-- errors.As hits: what is good of the world behind it. -/
theorem as_hit2 (e t : Addr) (old : Value) (w : World) (hg : w.cell? ⟨10, 0, none⟩ = some (.iface 215 (.agg #[.pointer (some ⟨19, 32, none⟩)]))) (ht0 : w.cell? t = some old) (hf0 : w.frozen? t = false) :
    Calls Tryz.prog 118 #[.iface 102 (.pointer (some e)), .iface 146 (.pointer (some t))] w fun ev w' => ev = .returned (.bool true) ∧ w'.cell? t = some (.pointer (some e)) ∧ Below t.block w w' := by
  have hlt : t.block < w.heap.size := World.block_lt_of_cell? w _ ht0
  refine (as_hit e t old w hg ht0 hf0).mono fun ev w' ⟨h1, h2⟩ => ⟨h1, ?_, ?_⟩
  · rw [h2]
    exact World.cell?_setCell_same _ _ _ (u := old) (by rw [World.cell?_alloc_lt _ _ t (by simp; omega), World.cell?_alloc_lt _ _ t (by simp; omega), World.cell?_alloc_lt _ _ t (by simp; omega), World.cell?_alloc_lt _ _ t hlt]; exact ht0)
  · rw [h2]
    exact ((((((Below.refl _ _).alloc (by omega) _).alloc (by simp; omega) _).alloc (by simp; omega) _).alloc (by simp; omega) _)).setCell (Nat.le_refl _) _

set_option maxHeartbeats 1000000 in
set_option maxRecDepth 100000 in
theorem code_fault (pb : Nat) (at_ : Int) (n : Nat) (A : Nat → Addr) (w : World) (hE : EnvC A w) (h1 : 1 ≤ n) (h2 : n ≤ 10) (hp0 : w.cell? ⟨pb, 0, none⟩ = some (.int .i64 at_)) (hp1 : w.cell? ⟨pb, 1, none⟩ = some (errV A n)) :
    Calls Tryz.prog 59 #[.iface 102 (.pointer (some ⟨pb, 0, none⟩))] w fun e w' => e = .returned (.tuple #[.int .i64 n, .int .i64 at_]) ∧ Below w.heap.size w w' := by
  have hT := Tryz.isIface_error
  have hb0 : Below w.heap.size w (w.alloc (.cells #[.pointer none] 102)) := (Below.refl _ _).alloc (Nat.le_refl _) _
  have hE0 := hE.below hb0
  rw [errV_pos A (by omega)] at hp1
  have hq0 := Below.cell_same hb0 hp0
  have hq1 := Below.cell_same hb0 hp1
  have hpl : pb < w.heap.size := World.block_lt_of_cell? w _ hp0
  have ht0 : (w.alloc (.cells #[.pointer none] 102)).cell? ⟨w.heap.size, 0, none⟩ = some (.pointer none) := by simp
  have hf0 : (w.alloc (.cells #[.pointer none] 102)).frozen? ⟨w.heap.size, 0, none⟩ = false := by simp
  have hz0 : w.heap.size ≤ (w.alloc (.cells #[.pointer none] 102)).heap.size := hb0.size
  go_enter Tryz.func59, Tryz.ntmps59
  go_wp2_with fail
  refine (as_hit2 ⟨pb, 0, none⟩ ⟨w.heap.size, 0, none⟩ (.pointer none) _ hE0.handle ht0 hf0).mono ?_
  rintro e w1 ⟨rfl, hc1, hb1⟩
  have hb01 : Below w.heap.size w w1 := hb0.trans hb1
  have hE1 := hE.below hb01
  have hr0 := Below.cell_same hb01 hp0
  have hr1 := Below.cell_same hb01 hp1
  have g1 := hE1.errs.var 1 (mem_allErrs (by decide) (by decide))
  have g2 := hE1.errs.var 2 (mem_allErrs (by decide) (by decide))
  have g3 := hE1.errs.var 3 (mem_allErrs (by decide) (by decide))
  have g4 := hE1.errs.var 4 (mem_allErrs (by decide) (by decide))
  have g5 := hE1.errs.var 5 (mem_allErrs (by decide) (by decide))
  have g6 := hE1.errs.var 6 (mem_allErrs (by decide) (by decide))
  have g7 := hE1.errs.var 7 (mem_allErrs (by decide) (by decide))
  have g8 := hE1.errs.var 8 (mem_allErrs (by decide) (by decide))
  have g9 := hE1.errs.var 9 (mem_allErrs (by decide) (by decide))
  have g10 := hE1.errs.var 10 (mem_allErrs (by decide) (by decide))
  simp only [errG] at g1 g2 g3 g4 g5 g6 g7 g8 g9 g10
  clear ht0 hf0 hE0 hb0 hq0 hq1 hb1 hp0 hp1
  go_wp2_with fail
  have hbt : Below w.heap.size w (w1.alloc (.cells (ten A) 32)) := hb01.alloc hb01.size _
  have hbu : Below w1.heap.size w1 (w1.alloc (.cells (ten A) 32)) := (Below.refl _ _).alloc (Nat.le_refl _) _
  have hE2 := hE1.below hbu
  have hs1 := Below.cell_same hbu hr1
  have hcells : ∀ i, i < 10 → (w1.alloc (.cells (ten A) 32)).cell? ⟨w1.heap.size, i, none⟩ = some (.iface 283 (.pointer (some (A (i + 1))))) := fun i hi => by
    rw [World.cell?_alloc_at _ _ _ _ rfl]; exact ten_get A i hi
  obtain ⟨W, hW⟩ : ∃ W, W = w1.alloc (.cells (ten A) 32) := ⟨_, rfl⟩
  have hgoal : w1.alloc (.cells #[.iface 283 (.pointer (some (A 1))), .iface 283 (.pointer (some (A 2))), .iface 283 (.pointer (some (A 3))), .iface 283 (.pointer (some (A 4))), .iface 283 (.pointer (some (A 5))), .iface 283 (.pointer (some (A 6))), .iface 283 (.pointer (some (A 7))), .iface 283 (.pointer (some (A 8))), .iface 283 (.pointer (some (A 9))), .iface 283 (.pointer (some (A 10)))] 32) = W := by rw [hW]; rfl
  rw [hgoal]
  rw [← hW] at hbt hE2 hs1 hcells
  clear hgoal hW hbu hE1 g1 g2 g3 g4 g5 g6 g7 g8 g9 g10 hE hr0 hr1 hc1
  go_loop [3, 28] (fun t i => ∃ k : Nat, t = .int .i64 at_ ∧ i = .int .i64 k ∧ k < n) (fun _ i => 10 - (intOf i).toNat)
  case atStart => exact ⟨0, rfl, rfl, by omega⟩
  case round =>
    obtain ⟨k, rfl, rfl, hk⟩ := hrel
    have hlt : k < 10 := by omega
    have hck := hcells k hlt
    obtain ⟨cb, tb, hcb⟩ := hE2.errs.row (k + 1) (mem_allErrs (by omega) (by omega))
    obtain ⟨ca, ta, hca⟩ := hE2.errs.row n (mem_allErrs (by omega) (by omega))
    by_cases hsame : n = k + 1
    · subst hsame
      go_wp2_with (go_at_call 119; refine (is_fault_same _ _ _ hs1).mono ?_; rintro e w2 ⟨rfl, rfl⟩)
      go_ret2
      exact ⟨rfl, hbt⟩
    · have hne : A n ≠ A (k + 1) := fun e => hsame (hE2.errs.inj _ (mem_allErrs (by omega) (by omega)) _ (mem_allErrs (by omega) (by omega)) e)
      go_wp2_with (go_at_call 119; refine (is_fault_other _ _ _ _ _ _ _ _ hs1 hne hca hcb).mono ?_; rintro e w2 ⟨rfl, rfl⟩)
      go_round
      case rel => exact ⟨k + 1, rfl, by go_num, by omega⟩
      case measure => simp [intOf]; omega
end Go.Proofs.Pw

/- coded of the statements' first package: an error's number. -/
namespace Go.Proofs.Pw
open Go.RowKit

theorem code_calls (i : Nat) (A : Nat → Addr) (w : World) (hE : EnvC A w) (hi : i ≤ 10) :
    Calls Tryz.prog 59 #[errV A i] w fun e w' => e = .returned (.tuple #[.int .i64 (i : Nat), .int .i64 (-1)]) ∧ Below w.heap.size w w' := by
  rcases Nat.eq_zero_or_pos i with rfl | h1
  · refine (code_nil w).mono ?_
    rintro e w' ⟨rfl, rfl⟩
    exact ⟨rfl, Below.refl _ _⟩
  · rw [errV_pos A (by omega)]
    obtain ⟨c, tc, hc⟩ := hE.errs.row i (mem_allErrs h1 hi)
    refine (code_any _ _ _ _ _ hE hc).mono ?_
    rintro e w1 ⟨⟨m, rfl, hm⟩, hb1⟩
    obtain rfl : m = i := by
      rcases hm with ⟨j, hj1, hj2, ha, rfl⟩ | ⟨h, _⟩
      · have := hE.errs.inj _ (mem_allErrs h1 hi) _ (mem_allErrs hj1 hj2) ha
        rw [this]
      · exact absurd rfl (h i h1 hi)
    exact ⟨rfl, hb1⟩

theorem coded_calls (i j : Nat) (A : Nat → Addr) (w : World) (hE : EnvC A w) (hi : i ≤ 10) :
    Calls Tryz.prog 25 #[errV A i, .int .i64 (j : Nat)] w fun e w' => e = .returned (.bool (decide (i = j))) ∧ Below w.heap.size w w' := by
  have hc := code_calls i A w hE hi
  generalize errV A i = v at hc ⊢
  by_cases hij : i = j
  · subst hij
    go_enter Tryz.func25, Tryz.ntmps25
    go_wp2_with fail
    refine hc.mono ?_
    rintro e w1 ⟨rfl, hb1⟩
    go_wp2_with fail
    go_ret
    exact ⟨by simp, hb1⟩
  · have hq : ((i : Int) == (j : Int)) = false := beq_eq_false_iff_ne.2 (by omega)
    have HD := Lib.hid (decide_eq_false hij)
    clear hij
    go_enter Tryz.func25, Tryz.ntmps25
    go_wp2_with fail
    refine hc.mono ?_
    rintro e w1 ⟨rfl, hb1⟩
    go_wp2_with fail
    go_ret
    rw [HD.out]
    exact ⟨rfl, hb1⟩
end Go.Proofs.Pw

/- faulted of the statements: an error's number and place are those of a fault. -/
namespace Go.Proofs.Pw
open Go.RowKit
open Go.Lib hiding intOf

theorem codeF_calls (A : Nat → Addr) (v : Value) (r : Nat × Int) (w : World) (hE : EnvC A w) (h : FaultAt A w v r) (hr : r.1 ≤ 10) :
    Calls Tryz.prog 59 #[v] w fun e w' => e = .returned (.tuple #[.int .i64 (r.1 : Nat), .int .i64 r.2]) ∧ Below w.heap.size w w' := by
  rcases h with ⟨h1, h2, rfl⟩ | ⟨h1, h2, rfl⟩ | ⟨h1, b, rfl, c3, c4⟩
  · rw [h1, h2]
    refine (code_nil w).mono ?_
    rintro e w' ⟨rfl, rfl⟩
    exact ⟨rfl, Below.refl _ _⟩
  · rw [h2]
    exact code_calls r.1 A w hE hr
  · exact code_fault b r.2 r.1 A w hE (by omega) hr c3 c4

theorem faulted1_calls (A : Nat → Addr) (v : Value) (r : Nat × Int) (w : World) (hE : EnvC A w) (h : FaultAt A w v r) (hr : r.1 ≤ 10) :
    Calls Tryz.prog 15 #[v, .agg #[.int .i64 (r.1 : Nat), .int .i64 r.2]] w fun e w' => e = .returned (.bool true) ∧ Below w.heap.size w w' := by
  have hB7 := below_alloc w (.cells #[.int .i64 (r.1 : Nat), .int .i64 r.2] 35)
  have hz := box2_alloc w (.int .i64 (r.1 : Nat)) (.int .i64 r.2) 35
  have hc := codeF_calls A v r _ (hE.below hB7) (h.below hB7) hr
  by_cases h0 : r.1 = 0
  · have h2 : r.2 = -1 := by
      rcases h with h | h | h
      · exact h.2.1
      · exact absurd h0 h.1
      · exact absurd h0 h.1
    rw [h0, h2] at hc hB7 hz ⊢
    clear h0 h2 h
    replace hc := Lib.hid hc
    go_enter Tryz.func15, Tryz.ntmps15
    obtain ⟨z0, z1, z2⟩ := id hz
    go_wp2_with fail
    refine (hc.out).mono ?_
    rintro e w1 ⟨rfl, hb⟩
    replace hB7 := below_step hB7 hb
    replace hz := hz.below hb
    clear hb
    obtain ⟨z0, z1, z2⟩ := id hz
    go_wp2_with fail
    go_ret
    exact ⟨rfl, hB7⟩
  · have hq : ((r.1 : Int) == 0) = false := beq_eq_false_iff_ne.2 (by omega)
    generalize r.2 = x at hc hz hB7 ⊢
    generalize r.1 = n at *
    clear h0 h
    replace hc := Lib.hid hc
    go_enter Tryz.func15, Tryz.ntmps15
    obtain ⟨z0, z1, z2⟩ := id hz
    go_wp2_with fail
    refine (hc.out).mono ?_
    rintro e w1 ⟨rfl, hb⟩
    replace hB7 := below_step hB7 hb
    replace hz := hz.below hb
    clear hb
    obtain ⟨z0, z1, z2⟩ := id hz
    go_wp2_with fail
    go_ret
    exact ⟨rfl, hB7⟩
theorem faulted2_calls (A : Nat → Addr) (v : Value) (r : Nat × Int) (w : World) (hE : EnvC A w) (h : FaultAt A w v r) (hr : r.1 ≤ 10) :
    Calls Tryz.prog 34 #[v, .agg #[.int .i64 (r.1 : Nat), .int .i64 r.2]] w fun e w' => e = .returned (.bool true) ∧ Below w.heap.size w w' := by
  have hB7 := below_alloc w (.cells #[.int .i64 (r.1 : Nat), .int .i64 r.2] 35)
  have hz := box2_alloc w (.int .i64 (r.1 : Nat)) (.int .i64 r.2) 35
  have hc := codeF_calls A v r _ (hE.below hB7) (h.below hB7) hr
  by_cases h0 : r.1 = 0
  · have h2 : r.2 = -1 := by
      rcases h with h | h | h
      · exact h.2.1
      · exact absurd h0 h.1
      · exact absurd h0 h.1
    rw [h0, h2] at hc hB7 hz ⊢
    clear h0 h2 h
    replace hc := Lib.hid hc
    go_enter Tryz.func34, Tryz.ntmps34
    obtain ⟨z0, z1, z2⟩ := id hz
    go_wp2_with fail
    refine (hc.out).mono ?_
    rintro e w1 ⟨rfl, hb⟩
    replace hB7 := below_step hB7 hb
    replace hz := hz.below hb
    clear hb
    obtain ⟨z0, z1, z2⟩ := id hz
    go_wp2_with fail
    go_ret
    exact ⟨rfl, hB7⟩
  · have hq : ((r.1 : Int) == 0) = false := beq_eq_false_iff_ne.2 (by omega)
    generalize r.2 = x at hc hz hB7 ⊢
    generalize r.1 = n at *
    clear h0 h
    replace hc := Lib.hid hc
    go_enter Tryz.func34, Tryz.ntmps34
    obtain ⟨z0, z1, z2⟩ := id hz
    go_wp2_with fail
    refine (hc.out).mono ?_
    rintro e w1 ⟨rfl, hb⟩
    replace hB7 := below_step hB7 hb
    replace hz := hz.below hb
    clear hb
    obtain ⟨z0, z1, z2⟩ := id hz
    go_wp2_with fail
    go_ret
    exact ⟨rfl, hB7⟩
end Go.Proofs.Pw

/- FileTells: its walk, of what is not too long. -/
namespace Go.Proofs.Pw
open Go.RowKit
open Go.Lib hiding intOf

/-- the drawn region's condition -/
theorem held5 {w W : World} {b c : Nat} {u0 u1 u2 v0 v1 v2 : Value} (h1 : Box3f w b u0 u1 u2) (h2 : Box3f w c v0 v1 v2) (hb : Below w.heap.size w W) :
    (W.cell? ⟨b, 0, none⟩ = some u0 ∧ W.cell? ⟨b, 1, none⟩ = some u1 ∧ W.cell? ⟨b, 2, none⟩ = some u2 ∧ W.cell? ⟨c, 0, none⟩ = some v0 ∧ W.cell? ⟨c, 1, none⟩ = some v1 ∧ W.cell? ⟨c, 2, none⟩ = some v2) ∧ Below w.heap.size w W :=
  ⟨⟨(h1.below hb).c0, (h1.below hb).c1, (h1.below hb).c2, (h2.below hb).c0, (h2.below hb).c1, (h2.below hb).c2⟩, hb⟩



set_option maxHeartbeats 8000000 in
set_option maxRecDepth 100000 in
theorem fileTells_main (ks : List Nat) (A : Nat → Addr) (hks : FileKs ks) (p s mp mv : ByteArray) (rv xv : Value) (R X : List Md) (w : World) (hE : EnvP ks A w) (hEC : EnvC A w) (hr : ModsAt w rv R) (hx : ModsAt w xv X)
    (h1 : p.size ≤ 90) (h2 : longMods R 25 = false) (h3 : longMods X 25 = false) (h0 : s.size ≤ 600 ∨ s.size = 8001) (h4 : mp.size ≤ 90) (h5 : mv.size ≤ 60) :
    Calls Tryz.prog 3 #[.agg #[.string p, rv, xv], .string s, .agg #[.string mp, .string mv]] w fun e w' => e = .returned (.bool true) ∧ Below w.heap.size w w' := by
  have HR := longMods_no h2
  have HX := longMods_no h3
  have hsr : Short R := short_ofB ⟨by omega, fun m hm => by have := HR.2 m hm; omega⟩
  have hsx : Short X := short_ofB ⟨by omega, fun m hm => by have := HX.2 m hm; omega⟩
  have how := fun W (hb : Below w.heap.size w W) => ownFile_calls p rv xv R X W (hr.below hb) (hx.below hb) hsr.1 hsx.1
  have hck := fun v1 v2 W hW m1 m2 => fileCheck_calls ks A hks p v1 v2 R X W hW m1 m2 (by omega) hsr hsx
  have hrf := fun W (hb : Below w.heap.size w W) => refFault_calls p rv xv R X W (hr.below hb) (hx.below hb) (by omega) hsr hsx
  have htx := fun v1 v2 W hW m1 m2 => fileText_calls ks A hks p v1 v2 R X W hW m1 m2 (by omega) hsr hsx
  have hrt := fun W (hb : Below w.heap.size w W) => refText_calls p rv xv R X W (hr.below hb) (hx.below hb) (by omega) hsr hsx
  have hrd := fun W hW => fileRead_calls ks A hks s W hW (by omega)
  have hrr := fun W => refRead_calls s W (by omega)
  have hst := fun v1 v2 W hW m1 m2 => fileSet_calls ks A hks p mp mv v1 v2 R X W hW m1 m2 (by omega) hsr hsx (by have := hsr.1; have := HR.1; omega) (by omega) (by omega)
  have hso := fun W (hb : Below w.heap.size w W) => setOf_calls p mp mv rv xv R X W (hr.below hb) (hx.below hb) (by omega) hsr hsx (by omega) (by omega)
  have hdr := fun v1 v2 W hW m1 m2 => fileDrop_calls ks A hks p mp v1 v2 R X W hW m1 m2 (by omega) hsr hsx (by have := hsr.1; have := HR.1; omega)
  have hdo := fun W (hb : Below w.heap.size w W) => dropOf_calls p mp rv xv R X W (hr.below hb) (hx.below hb) (by omega) hsr hsx
  have lF := fileErr_le ⟨p.data.toList, R, X⟩
  have lG := fileRead_le s.data.toList
  have lS := fileSet_le ⟨p.data.toList, R, X⟩ (mp.data.toList, mv.data.toList)
  have lD := fileDrop_le ⟨p.data.toList, R, X⟩ mp.data.toList
  generalize fileErr ⟨p.data.toList, R, X⟩ = F at hck hrf lF
  generalize (⟨(fileText ⟨p.data.toList, R, X⟩).toArray⟩ : ByteArray) = TX at htx hrt
  unfold ReadOut at hrd
  unfold RReadOut at hrr
  unfold SetOut at hst hdr
  unfold RSetOut at hso hdo
  generalize fileRead s.data.toList = G at hrd hrr lG
  generalize fileSet ⟨p.data.toList, R, X⟩ (mp.data.toList, mv.data.toList) = SG at hst hso lS
  generalize fileDrop ⟨p.data.toList, R, X⟩ mp.data.toList = DG at hdr hdo lD
  obtain ⟨⟨gp, gr, gx⟩, gk, ga⟩ := G
  obtain ⟨⟨sp, sr, sx⟩, sk⟩ := SG
  obtain ⟨⟨dp, dr, dx⟩, dk⟩ := DG
  obtain ⟨FV, hFV⟩ : ∃ FV, FV = fltV F := ⟨_, rfl⟩
  have hfa := fun (W : World) (ev : Value) (h1 : EnvC A W) (h2 : FaultAt A W ev F) => faulted1_calls A ev F W h1 h2 lF
  rw [show (Value.agg #[.int .i64 (F.1 : Nat), .int .i64 F.2]) = FV from hFV.symm] at hfa
  rw [← hFV] at hrf
  have hfg := fun (W : World) (ev : Value) (h1 : EnvC A W) (h2 : FaultAt A W ev (gk, ga)) => faulted1_calls A ev (gk, ga) W h1 h2 lG
  have hcs := fun (W : World) (h1 : EnvC A W) => coded_calls sk sk A W h1 lS
  have hcd := fun (W : World) (h1 : EnvC A W) => coded_calls dk dk A W h1 lD
  simp only [decide_true] at hcs hcd
  generalize errV A sk = es at hst hcs
  generalize errV A dk = ed at hdr hcd
  unfold fltV at hrr
  simp only at hrr hrd hst hso hdr hdo hfg
  have hsm := fun (q : ByteArray) (r1 x1 r2 x2 : Value) (R1 X1 : List Md) (W : World) (g1 : ModsAt W r1 R1) (g2 : ModsAt W x1 X1) (g3 : ModsAt W r2 R1) (g4 : ModsAt W x2 X1) => sameFile_calls q q r1 x1 r2 x2 R1 X1 R1 X1 W g1 g2 g3 g4
  simp only [decide_true, Bool.and_self] at hsm
  have hE0 := Lib.hid (fun W (hb : Below w.heap.size w W) => hE.below hb)
  have hEC0 := Lib.hid (fun W (hb : Below w.heap.size w W) => hEC.below hb)
  replace how := Lib.hid how
  replace hck := Lib.hid hck
  replace hrf := Lib.hid hrf
  replace htx := Lib.hid htx
  replace hrt := Lib.hid hrt
  replace hrd := Lib.hid hrd
  replace hrr := Lib.hid hrr
  replace hst := Lib.hid hst
  replace hso := Lib.hid hso
  replace hdr := Lib.hid hdr
  replace hdo := Lib.hid hdo
  replace hfa := Lib.hid hfa
  replace hfg := Lib.hid hfg
  replace hcs := Lib.hid hcs
  replace hcd := Lib.hid hcd
  replace hsm := Lib.hid hsm
  clear HR HX hsr hsx lF lG lS lD hFV hEC
  obtain ⟨a1, n1, c1, _, _, rfl, -⟩ := id hr
  obtain ⟨a3, n3, c3, _, _, rfl, -⟩ := id hx
  have hb1 := below_alloc w (.cells #[.string p, .slice a1 n1 c1, .slice a3 n3 c3] 24)
  have hb2 := below_alloc (w.alloc (.cells #[.string p, .slice a1 n1 c1, .slice a3 n3 c3] 24)) (.cells #[.string mp, .string mv] 26)
  have hB := below_step hb1 hb2
  have hz := (box3f_alloc w (.string p) (.slice a1 n1 c1) (.slice a3 n3 c3) 24).below hb2
  have cm0 : ((w.alloc (.cells #[.string p, .slice a1 n1 c1, .slice a3 n3 c3] 24)).alloc (.cells #[.string mp, .string mv] 26)).cell? ⟨(w.alloc (.cells #[.string p, .slice a1 n1 c1, .slice a3 n3 c3] 24)).heap.size, 0, none⟩ = some (.string mp) := by simp
  have cm1 : ((w.alloc (.cells #[.string p, .slice a1 n1 c1, .slice a3 n3 c3] 24)).alloc (.cells #[.string mp, .string mv] 26)).cell? ⟨(w.alloc (.cells #[.string p, .slice a1 n1 c1, .slice a3 n3 c3] 24)).heap.size, 1, none⟩ = some (.string mv) := by simp
  simp only [World.size_alloc] at cm0 cm1
  have hfd := filed_calls ks A hks _ (hE.below hB)
  have hl1 : ∀ W, ModsAt W (.slice a1 n1 c1) R → Calls Tryz.prog 13 #[.slice a1 n1 c1, .int .i64 25] W fun e w' => e = .returned (.int .i64 (longI R 25)) ∧ Below W.heap.size W w' := fun W h => (longMods_calls _ R 25 W h).mono fun _ _ ⟨h1, h2⟩ => ⟨h1, h2 ▸ Below.refl _ _⟩
  have hl2 : ∀ W, ModsAt W (.slice a3 n3 c3) X → Calls Tryz.prog 13 #[.slice a3 n3 c3, .int .i64 25] W fun e w' => e = .returned (.int .i64 (longI X 25)) ∧ Below W.heap.size W w' := fun W h => (longMods_calls _ X 25 W h).mono fun _ _ ⟨h1, h2⟩ => ⟨h1, h2 ▸ Below.refl _ _⟩
  replace hfd := Lib.hid hfd
  clear hb1 hb2
  obtain ⟨z0, z1, z2, zf⟩ := id hz
  go_enter Tryz.func3, Tryz.ntmps3
  go_wp2_with fail
  refine hfd.out.mono ?_
  generalize hw2 : (w.alloc (.cells #[.string p, .slice a1 n1 c1, .slice a3 n3 c3] 24)).alloc (.cells #[.string mp, .string mv] 26) = w2 at *
  clear hw2 hfd
  rintro e w3 ⟨rfl, hb⟩
  replace hz := hz.below hb
  replace cm0 := Below.cell_some hb cm0
  replace cm1 := Below.cell_some hb cm1
  replace hB := below_step hB hb
  clear hb z0 z1 z2 zf
  obtain ⟨z0, z1, z2, zf⟩ := id hz
  rw [longI_no h2] at hl1
  rw [longI_no h3] at hl2
  have hq1 := Lib.hid (decide_eq_false (p := (90 : Int) < (p.size : Int)) (by omega))
  have hq4 := Lib.hid (decide_eq_false (p := (90 : Int) < (mp.size : Int)) (by omega))
  have hq5 := Lib.hid (decide_eq_false (p := (60 : Int) < (mv.size : Int)) (by omega))
  replace hl1 := Lib.hid hl1
  replace hl2 := Lib.hid hl2
  rcases h0 with h0 | h0
  · have hq2 := Lib.hid (decide_eq_false (p := (600 : Int) < (s.size : Int)) (by omega))
    clear h0 h1 h2 h3 h4 h5
    go_wp2_with fail
    have q1 := hq1.out
    try have q2 := hq2.out
    try have q3 := hq3.out
    try have q4 := hq4.out
    try have q5 := hq5.out
    have kR := Lib.hid (fun d os => hr.below (below_step hB (below_patch w3 d os)))
    have kX := Lib.hid (fun d os => hx.below (below_step hB (below_patch w3 d os)))
    have kqz0 := fun d os => cell_patch (d := d) (os := os) z0
    have kqz1 := fun d os => cell_patch (d := d) (os := os) z1
    have kqz2 := fun d os => cell_patch (d := d) (os := os) z2
    have kqcm0 := fun d os => cell_patch (d := d) (os := os) cm0
    have kqcm1 := fun d os => cell_patch (d := d) (os := os) cm1
    refine wp_region_quiet_patch (by kernel_rfl) (by kernel_rfl) ?_
    repeat (go_big_quiet_step (first | (go_at_call_of 13 (Value.slice a1 n1 c1); exact Calls.patch_of (hl1.out _ (kR.out _ _))) | (go_at_call_of 13 (Value.slice a3 n3 c3); exact Calls.patch_of (hl2.out _ (kX.out _ _)))))
    refine wpQuiet_nil ?_
    intro _ hw'
    obtain ⟨⟨dq, osq⟩, hw''⟩ := hw'
    subst hw''
    clear kqz0 kqz1 kqz2 kqcm0 kqcm1
    have hb := below_patch w3 dq osq
    replace hz := hz.below hb
    replace cm0 := Below.cell_some hb cm0
    replace cm1 := Below.cell_some hb cm1
    replace hB := below_step hB hb
    clear hb
    generalize patch w3 dq osq = w4 at hz cm0 cm1 hB ⊢
    clear z0 z1 z2 zf hl1 hl2 kR kX q1
    try clear q2 hq2
    try clear q3 hq3
    try clear q4 hq4
    try clear q5 hq5
    clear hq1
    obtain ⟨z0, z1, z2, zf⟩ := id hz
    go_wp2_with fail
    refine (how.out _ hB).mono ?_
    rintro e w5 ⟨⟨v1, v2, rfl, hM1, hM2⟩, hb⟩
    obtain ⟨a5, n5, c5, _, _, rfl, -⟩ := id hM1
    obtain ⟨a6, n6, c6, _, _, rfl, -⟩ := id hM2
    have hbO := below_alloc w5 (.cells #[.string p, .slice a5 n5 c5, .slice a6 n6 c6] 24)
    have ho := box3f_alloc w5 (.string p) (.slice a5 n5 c5) (.slice a6 n6 c6) 24
    have hs5 : w.heap.size + 1 < w5.heap.size := Nat.lt_of_lt_of_le (lt_of_cell cm0) hb.size
    replace hb := below_step hb hbO
    replace hM1 := hM1.below hbO
    replace hM2 := hM2.below hbO
    replace hz := hz.below hb
    replace cm0 := Below.cell_some hb cm0
    replace cm1 := Below.cell_some hb cm1
    replace hB := below_step hB hb
    obtain ⟨z0, z1, z2, zf⟩ := id hz
    obtain ⟨o0, o1, o2, of⟩ := id ho
    clear how hb hbO
    go_wp2_with fail
    generalize w5.alloc (.cells #[.string p, .slice a5 n5 c5, .slice a6 n6 c6] 24) = w6 at *
    generalize w5.heap.size = bo at *
    have hbW := (Below.refl w6.heap.size w6).drew
    clear z0 z1 z2 zf o0 o1 o2 of
    go_region_held2 (fun W => (W.cell? ⟨w.heap.size, 0, none⟩ = some (.string p) ∧ W.cell? ⟨w.heap.size, 1, none⟩ = some (.slice a1 n1 c1) ∧ W.cell? ⟨w.heap.size, 2, none⟩ = some (.slice a3 n3 c3) ∧ W.cell? ⟨bo, 0, none⟩ = some (.string p) ∧ W.cell? ⟨bo, 1, none⟩ = some (.slice a5 n5 c5) ∧ W.cell? ⟨bo, 2, none⟩ = some (.slice a6 n6 c6)) ∧ Below w6.heap.size w6 W) (exact held5 hz ho hbW) (first
      | (go_at_call 16; refine (hck.out _ _ _ (hE0.out _ (below_step hB hbW)) (hM1.below hbW) (hM2.below hbW)).mono ?_; rintro e w7 ⟨⟨ev, rfl, hv⟩, hb7⟩; replace hbW := below_step hbW hb7)
      | (go_at_call 17; refine (hrf.out _ (below_step hB hbW)).mono ?_; rintro e w7 ⟨rfl, hb7⟩; replace hbW := below_step hbW hb7; try replace hv := hv.below hb7)
      | (go_at_call 15; refine (hfa.out _ _ (hEC0.out _ (below_step hB hbW)) hv).mono ?_; rintro e w7 ⟨rfl, hb7⟩; replace hbW := below_step hbW hb7)
      | (go_at_call 18; refine (htx.out _ _ _ (hE0.out _ (below_step hB hbW)) (hM1.below hbW) (hM2.below hbW)).mono ?_; rintro e w7 ⟨rfl, hb7⟩; replace hbW := below_step hbW hb7)
      | (go_at_call 19; refine (hrt.out _ (below_step hB hbW)).mono ?_; rintro e w7 ⟨rfl, hb7⟩; replace hbW := below_step hbW hb7))
    all_goals
      clear hv hck hrf htx hrt hfa hb7
      replace hz := hz.below hbW
      replace ho := ho.below hbW
      replace cm0 := Below.cell_some hbW cm0
      replace cm1 := Below.cell_some hbW cm1
      replace hM1 := hM1.below hbW
      replace hM2 := hM2.below hbW
      replace hB := below_step hB hbW
      clear hbW
      go_wp2_with fail
      refine (hrd.out _ (hE0.out _ hB)).mono ?_
      rintro e w8 ⟨⟨p1, r1, x1, ev8, rfl, hp1, hr1, hx1, hf1⟩, hb⟩
      obtain ⟨a7, n7, c7, _, _, rfl, -⟩ := id hr1
      obtain ⟨a8, n8, c8, _, _, rfl, -⟩ := id hx1
      have hbX := below_alloc w8 (.cells #[.string p1, .slice a7 n7 c7, .slice a8 n8 c8] 24)
      have hxb := box3f_alloc w8 (.string p1) (.slice a7 n7 c7) (.slice a8 n8 c8) 24
      have hs8 : bo < w8.heap.size := Nat.lt_of_lt_of_le (lt_of_cell ho.c0) hb.size
      replace hb := below_step hb hbX
      replace hr1 := hr1.below hbX
      replace hx1 := hx1.below hbX
      replace hf1 := hf1.below hbX
      replace hz := hz.below hb
      replace ho := ho.below hb
      replace cm0 := Below.cell_some hb cm0
      replace cm1 := Below.cell_some hb cm1
      replace hM1 := hM1.below hb
      replace hM2 := hM2.below hb
      replace hB := below_step hB hb
      clear hb
      clear hrd hbX
      go_wp2_with fail
      generalize w8.alloc (.cells #[.string p1, .slice a7 n7 c7, .slice a8 n8 c8] 24) = w9 at *
      generalize w8.heap.size = bx at *
      refine (hrr.out _).mono ?_
      rintro e w10 ⟨⟨p2, r2, x2, rfl, hp2, hr2, hx2⟩, hb⟩
      obtain rfl : p2 = p1 := bytes_eq.1 (hp2.trans hp1.symm)
      obtain ⟨a10, n10, c10, _, _, rfl, -⟩ := id hr2
      obtain ⟨a11, n11, c11, _, _, rfl, -⟩ := id hx2
      have hs10 : bx < w10.heap.size := Nat.lt_of_lt_of_le (lt_of_cell hxb.c0) hb.size
      replace hz := hz.below hb
      replace ho := ho.below hb
      replace cm0 := Below.cell_some hb cm0
      replace cm1 := Below.cell_some hb cm1
      replace hM1 := hM1.below hb
      replace hM2 := hM2.below hb
      replace hxb := hxb.below hb
      replace hr1 := hr1.below hb
      replace hx1 := hx1.below hb
      replace hf1 := hf1.below hb
      replace hB := below_step hB hb
      clear hb
      clear hrr hp1 hp2
      have hbY1 := below_alloc w10 (.cells #[.string p2, .slice a10 n10 c10, .slice a11 n11 c11] 24)
      have hbY2 := below_alloc (w10.alloc (.cells #[.string p2, .slice a10 n10 c10, .slice a11 n11 c11] 24)) (.cells #[.int .i64 (gk : Nat), .int .i64 ga] 35)
      have hyb := (box3f_alloc w10 (.string p2) (.slice a10 n10 c10) (.slice a11 n11 c11) 24).below hbY2
      have hfb := box2_alloc (w10.alloc (.cells #[.string p2, .slice a10 n10 c10, .slice a11 n11 c11] 24)) (.int .i64 (gk : Nat)) (.int .i64 ga) 35
      simp only [World.size_alloc] at hfb
      have hb := below_step hbY1 hbY2
      replace hr2 := hr2.below hb
      replace hx2 := hx2.below hb
      replace hz := hz.below hb
      replace ho := ho.below hb
      replace cm0 := Below.cell_some hb cm0
      replace cm1 := Below.cell_some hb cm1
      replace hM1 := hM1.below hb
      replace hM2 := hM2.below hb
      replace hxb := hxb.below hb
      replace hr1 := hr1.below hb
      replace hx1 := hx1.below hb
      replace hf1 := hf1.below hb
      replace hB := below_step hB hb
      clear hb
      clear hbY1 hbY2
      obtain ⟨u0, u1, u2, uf⟩ := id hxb
      obtain ⟨y0, y1, y2, yf⟩ := id hyb
      go_wp2_with fail
      generalize (w10.alloc (.cells #[.string p2, .slice a10 n10 c10, .slice a11 n11 c11] 24)).alloc (.cells #[.int .i64 (gk : Nat), .int .i64 ga] 35) = w11 at *
      generalize w10.heap.size = bY at *
      refine (hsm.out _ _ _ _ _ _ _ _ hr1 hx1 hr2 hx2).mono ?_
      rintro e w12 ⟨rfl, hb⟩
      replace hz := hz.below hb
      replace ho := ho.below hb
      replace cm0 := Below.cell_some hb cm0
      replace cm1 := Below.cell_some hb cm1
      replace hM1 := hM1.below hb
      replace hM2 := hM2.below hb
      replace hxb := hxb.below hb
      replace hyb := hyb.below hb
      replace hfb := hfb.below hb
      replace hf1 := hf1.below hb
      replace hB := below_step hB hb
      clear hb
      clear u0 u1 u2 uf y0 y1 y2 yf hr1 hx1 hr2 hx2
      obtain ⟨f0, f1, ff⟩ := id hfb
      go_wp2_with fail
      refine (hfg.out _ _ (hEC0.out _ hB) hf1).mono ?_
      rintro e w13 ⟨rfl, hb⟩
      replace hz := hz.below hb
      replace ho := ho.below hb
      replace cm0 := Below.cell_some hb cm0
      replace cm1 := Below.cell_some hb cm1
      replace hM1 := hM1.below hb
      replace hM2 := hM2.below hb
      replace hxb := hxb.below hb
      replace hyb := hyb.below hb
      replace hB := below_step hB hb
      clear hb
      clear f0 f1 ff hf1 hfb hfg
      obtain ⟨o0, o1, o2, of⟩ := id ho
      go_wp2_with fail
      refine (hst.out _ _ _ (hE0.out _ hB) hM1 hM2).mono ?_
      rintro e w14 ⟨⟨p3, r3, x3, rfl, hp3, hr3, hx3⟩, hb⟩
      obtain ⟨a12, n12, c12, _, _, rfl, -⟩ := id hr3
      obtain ⟨a13, n13, c13, _, _, rfl, -⟩ := id hx3
      replace hz := hz.below hb
      replace ho := ho.below hb
      replace cm0 := Below.cell_some hb cm0
      replace cm1 := Below.cell_some hb cm1
      replace hM1 := hM1.below hb
      replace hM2 := hM2.below hb
      replace hxb := hxb.below hb
      replace hyb := hyb.below hb
      replace hB := below_step hB hb
      clear hb
      clear hst o0 o1 o2 of
      obtain ⟨u0, u1, u2, uf⟩ := id hxb
      replace hr3 := ModsAt.st_away hxb hr3 (.string p3) (.slice a12 n12 c12) (.slice a13 n13 c13)
      replace hx3 := ModsAt.st_away hxb hx3 (.string p3) (.slice a12 n12 c12) (.slice a13 n13 c13)
      replace hM1 := ModsAt.st_away hxb hM1 (.string p3) (.slice a12 n12 c12) (.slice a13 n13 c13)
      replace hM2 := ModsAt.st_away hxb hM2 (.string p3) (.slice a12 n12 c12) (.slice a13 n13 c13)
      replace hz := hz.sto (c := bx) (by omega) (.string p3) (.slice a12 n12 c12) (.slice a13 n13 c13)
      replace ho := ho.sto (c := bx) (by omega) (.string p3) (.slice a12 n12 c12) (.slice a13 n13 c13)
      replace hyb := hyb.sto (c := bx) (by omega) (.string p3) (.slice a12 n12 c12) (.slice a13 n13 c13)
      replace cm0 := cell_sto (c := bx) cm0 (by omega) (.string p3) (.slice a12 n12 c12) (.slice a13 n13 c13)
      replace cm1 := cell_sto (c := bx) cm1 (by omega) (.string p3) (.slice a12 n12 c12) (.slice a13 n13 c13)
      replace hB := below_sto hB (b := bx) (by omega) (.string p3) (.slice a12 n12 c12) (.slice a13 n13 c13)
      replace hxb := hxb.st (.string p3) (.slice a12 n12 c12) (.slice a13 n13 c13)
      unfold st3 at hr3 hx3 hM1 hM2 hz ho hyb cm0 cm1 hB hxb
      obtain ⟨z0, z1, z2, zf⟩ := id hz
      go_wp2_with fail
      generalize ((w14.setCell ⟨bx, 0, none⟩ (.string p3)).setCell ⟨bx, 1, none⟩ (.slice a12 n12 c12)).setCell ⟨bx, 2, none⟩ (.slice a13 n13 c13) = w15 at *
      clear u0 u1 u2 uf z0 z1 z2 zf
      refine (hso.out _ hB).mono ?_
      rintro e w16 ⟨⟨p4, r4, x4, rfl, hp4, hr4, hx4⟩, hb⟩
      obtain rfl : p4 = p3 := bytes_eq.1 (hp4.trans hp3.symm)
      obtain ⟨a14, n14, c14, _, _, rfl, -⟩ := id hr4
      obtain ⟨a15, n15, c15, _, _, rfl, -⟩ := id hx4
      replace hz := hz.below hb
      replace ho := ho.below hb
      replace cm0 := Below.cell_some hb cm0
      replace cm1 := Below.cell_some hb cm1
      replace hM1 := hM1.below hb
      replace hM2 := hM2.below hb
      replace hxb := hxb.below hb
      replace hyb := hyb.below hb
      replace hr3 := hr3.below hb
      replace hx3 := hx3.below hb
      replace hB := below_step hB hb
      clear hb
      clear hso hp3 hp4
      obtain ⟨y0, y1, y2, yf⟩ := id hyb
      replace hr4 := ModsAt.st_away hyb hr4 (.string p4) (.slice a14 n14 c14) (.slice a15 n15 c15)
      replace hx4 := ModsAt.st_away hyb hx4 (.string p4) (.slice a14 n14 c14) (.slice a15 n15 c15)
      replace hr3 := ModsAt.st_away hyb hr3 (.string p4) (.slice a14 n14 c14) (.slice a15 n15 c15)
      replace hx3 := ModsAt.st_away hyb hx3 (.string p4) (.slice a14 n14 c14) (.slice a15 n15 c15)
      replace hM1 := ModsAt.st_away hyb hM1 (.string p4) (.slice a14 n14 c14) (.slice a15 n15 c15)
      replace hM2 := ModsAt.st_away hyb hM2 (.string p4) (.slice a14 n14 c14) (.slice a15 n15 c15)
      replace hz := hz.sto (c := bY) (by omega) (.string p4) (.slice a14 n14 c14) (.slice a15 n15 c15)
      replace ho := ho.sto (c := bY) (by omega) (.string p4) (.slice a14 n14 c14) (.slice a15 n15 c15)
      replace hxb := hxb.sto (c := bY) (by omega) (.string p4) (.slice a14 n14 c14) (.slice a15 n15 c15)
      replace cm0 := cell_sto (c := bY) cm0 (by omega) (.string p4) (.slice a14 n14 c14) (.slice a15 n15 c15)
      replace cm1 := cell_sto (c := bY) cm1 (by omega) (.string p4) (.slice a14 n14 c14) (.slice a15 n15 c15)
      replace hB := below_sto hB (b := bY) (by omega) (.string p4) (.slice a14 n14 c14) (.slice a15 n15 c15)
      replace hyb := hyb.st (.string p4) (.slice a14 n14 c14) (.slice a15 n15 c15)
      unfold st3 at hr4 hx4 hr3 hx3 hM1 hM2 hz ho hxb cm0 cm1 hB hyb
      obtain ⟨u0, u1, u2, uf⟩ := id hxb
      go_wp2_with fail
      generalize ((w16.setCell ⟨bY, 0, none⟩ (.string p4)).setCell ⟨bY, 1, none⟩ (.slice a14 n14 c14)).setCell ⟨bY, 2, none⟩ (.slice a15 n15 c15) = w17 at *
      clear u0 u1 u2 uf y0 y1 y2 yf
      refine (hsm.out _ _ _ _ _ _ _ _ hr3 hx3 hr4 hx4).mono ?_
      rintro e w18 ⟨rfl, hb⟩
      replace hz := hz.below hb
      replace ho := ho.below hb
      replace cm0 := Below.cell_some hb cm0
      replace cm1 := Below.cell_some hb cm1
      replace hM1 := hM1.below hb
      replace hM2 := hM2.below hb
      replace hxb := hxb.below hb
      replace hyb := hyb.below hb
      replace hB := below_step hB hb
      clear hb
      clear hr3 hx3 hr4 hx4
      go_wp2_with fail
      refine (hcs.out _ (hEC0.out _ hB)).mono ?_
      rintro e w19 ⟨rfl, hb⟩
      replace hz := hz.below hb
      replace ho := ho.below hb
      replace cm0 := Below.cell_some hb cm0
      replace cm1 := Below.cell_some hb cm1
      replace hM1 := hM1.below hb
      replace hM2 := hM2.below hb
      replace hxb := hxb.below hb
      replace hyb := hyb.below hb
      replace hB := below_step hB hb
      clear hb
      clear hcs
      obtain ⟨o0, o1, o2, of⟩ := id ho
      go_wp2_with fail
      refine (hdr.out _ _ _ (hE0.out _ hB) hM1 hM2).mono ?_
      rintro e w20 ⟨⟨p5, r5, x5, rfl, hp5, hr5, hx5⟩, hb⟩
      obtain ⟨a16, n16, c16, _, _, rfl, -⟩ := id hr5
      obtain ⟨a17, n17, c17, _, _, rfl, -⟩ := id hx5
      replace hz := hz.below hb
      replace ho := ho.below hb
      replace cm0 := Below.cell_some hb cm0
      replace cm1 := Below.cell_some hb cm1
      replace hM1 := hM1.below hb
      replace hM2 := hM2.below hb
      replace hxb := hxb.below hb
      replace hyb := hyb.below hb
      replace hB := below_step hB hb
      clear hb
      clear hdr o0 o1 o2 of
      obtain ⟨u0, u1, u2, uf⟩ := id hxb
      replace hr5 := ModsAt.st_away hxb hr5 (.string p5) (.slice a16 n16 c16) (.slice a17 n17 c17)
      replace hx5 := ModsAt.st_away hxb hx5 (.string p5) (.slice a16 n16 c16) (.slice a17 n17 c17)
      replace hM1 := ModsAt.st_away hxb hM1 (.string p5) (.slice a16 n16 c16) (.slice a17 n17 c17)
      replace hM2 := ModsAt.st_away hxb hM2 (.string p5) (.slice a16 n16 c16) (.slice a17 n17 c17)
      replace hz := hz.sto (c := bx) (by omega) (.string p5) (.slice a16 n16 c16) (.slice a17 n17 c17)
      replace ho := ho.sto (c := bx) (by omega) (.string p5) (.slice a16 n16 c16) (.slice a17 n17 c17)
      replace hyb := hyb.sto (c := bx) (by omega) (.string p5) (.slice a16 n16 c16) (.slice a17 n17 c17)
      replace cm0 := cell_sto (c := bx) cm0 (by omega) (.string p5) (.slice a16 n16 c16) (.slice a17 n17 c17)
      replace cm1 := cell_sto (c := bx) cm1 (by omega) (.string p5) (.slice a16 n16 c16) (.slice a17 n17 c17)
      replace hB := below_sto hB (b := bx) (by omega) (.string p5) (.slice a16 n16 c16) (.slice a17 n17 c17)
      replace hxb := hxb.st (.string p5) (.slice a16 n16 c16) (.slice a17 n17 c17)
      unfold st3 at hr5 hx5 hM1 hM2 hz ho hyb cm0 cm1 hB hxb
      obtain ⟨z0, z1, z2, zf⟩ := id hz
      go_wp2_with fail
      generalize ((w20.setCell ⟨bx, 0, none⟩ (.string p5)).setCell ⟨bx, 1, none⟩ (.slice a16 n16 c16)).setCell ⟨bx, 2, none⟩ (.slice a17 n17 c17) = w21 at *
      clear u0 u1 u2 uf z0 z1 z2 zf
      refine (hdo.out _ hB).mono ?_
      rintro e w22 ⟨⟨p6, r6, x6, rfl, hp6, hr6, hx6⟩, hb⟩
      obtain rfl : p6 = p5 := bytes_eq.1 (hp6.trans hp5.symm)
      obtain ⟨a18, n18, c18, _, _, rfl, -⟩ := id hr6
      obtain ⟨a19, n19, c19, _, _, rfl, -⟩ := id hx6
      replace hz := hz.below hb
      replace ho := ho.below hb
      replace cm0 := Below.cell_some hb cm0
      replace cm1 := Below.cell_some hb cm1
      replace hM1 := hM1.below hb
      replace hM2 := hM2.below hb
      replace hxb := hxb.below hb
      replace hyb := hyb.below hb
      replace hr5 := hr5.below hb
      replace hx5 := hx5.below hb
      replace hB := below_step hB hb
      clear hb
      clear hdo hp5 hp6
      obtain ⟨y0, y1, y2, yf⟩ := id hyb
      replace hr6 := ModsAt.st_away hyb hr6 (.string p6) (.slice a18 n18 c18) (.slice a19 n19 c19)
      replace hx6 := ModsAt.st_away hyb hx6 (.string p6) (.slice a18 n18 c18) (.slice a19 n19 c19)
      replace hr5 := ModsAt.st_away hyb hr5 (.string p6) (.slice a18 n18 c18) (.slice a19 n19 c19)
      replace hx5 := ModsAt.st_away hyb hx5 (.string p6) (.slice a18 n18 c18) (.slice a19 n19 c19)
      replace hM1 := ModsAt.st_away hyb hM1 (.string p6) (.slice a18 n18 c18) (.slice a19 n19 c19)
      replace hM2 := ModsAt.st_away hyb hM2 (.string p6) (.slice a18 n18 c18) (.slice a19 n19 c19)
      replace hz := hz.sto (c := bY) (by omega) (.string p6) (.slice a18 n18 c18) (.slice a19 n19 c19)
      replace ho := ho.sto (c := bY) (by omega) (.string p6) (.slice a18 n18 c18) (.slice a19 n19 c19)
      replace hxb := hxb.sto (c := bY) (by omega) (.string p6) (.slice a18 n18 c18) (.slice a19 n19 c19)
      replace cm0 := cell_sto (c := bY) cm0 (by omega) (.string p6) (.slice a18 n18 c18) (.slice a19 n19 c19)
      replace cm1 := cell_sto (c := bY) cm1 (by omega) (.string p6) (.slice a18 n18 c18) (.slice a19 n19 c19)
      replace hB := below_sto hB (b := bY) (by omega) (.string p6) (.slice a18 n18 c18) (.slice a19 n19 c19)
      replace hyb := hyb.st (.string p6) (.slice a18 n18 c18) (.slice a19 n19 c19)
      unfold st3 at hr6 hx6 hr5 hx5 hM1 hM2 hz ho hxb cm0 cm1 hB hyb
      obtain ⟨u0, u1, u2, uf⟩ := id hxb
      go_wp2_with fail
      generalize ((w22.setCell ⟨bY, 0, none⟩ (.string p6)).setCell ⟨bY, 1, none⟩ (.slice a18 n18 c18)).setCell ⟨bY, 2, none⟩ (.slice a19 n19 c19) = w23 at *
      clear u0 u1 u2 uf y0 y1 y2 yf
      refine (hsm.out _ _ _ _ _ _ _ _ hr5 hx5 hr6 hx6).mono ?_
      rintro e w24 ⟨rfl, hb⟩
      replace hz := hz.below hb
      replace ho := ho.below hb
      replace hM1 := hM1.below hb
      replace hM2 := hM2.below hb
      replace hB := below_step hB hb
      clear hb
      clear hr5 hx5 hr6 hx6 hxb hyb cm0 cm1
      obtain ⟨z0, z1, z2, zf⟩ := id hz
      obtain ⟨o0, o1, o2, of⟩ := id ho
      go_wp2_with fail
      refine (hsm.out _ _ _ _ _ _ _ _ hM1 hM2 (hr.below hB) (hx.below hB)).mono ?_
      rintro e w25 ⟨rfl, hb⟩
      replace hB := below_step hB hb
      clear hb z0 z1 z2 zf o0 o1 o2 of
      go_wp2_with fail
      refine (hcd.out _ (hEC0.out _ hB)).mono ?_
      rintro e w26 ⟨rfl, hb⟩
      replace hB := below_step hB hb
      go_wp2_with fail
      go_ret
      exact ⟨rfl, hB⟩
  · have hq2 := Lib.hid (decide_eq_true (p := (600 : Int) < (s.size : Int)) (by omega))
    have hq3 := Lib.hid (show ((s.size : Int) != 8001) = false by rw [show (s.size : Int) = 8001 by omega]; rfl)
    clear h0 h1 h2 h3 h4 h5
    go_wp2_with fail
    have q1 := hq1.out
    try have q2 := hq2.out
    try have q3 := hq3.out
    try have q4 := hq4.out
    try have q5 := hq5.out
    have kR := Lib.hid (fun d os => hr.below (below_step hB (below_patch w3 d os)))
    have kX := Lib.hid (fun d os => hx.below (below_step hB (below_patch w3 d os)))
    have kqz0 := fun d os => cell_patch (d := d) (os := os) z0
    have kqz1 := fun d os => cell_patch (d := d) (os := os) z1
    have kqz2 := fun d os => cell_patch (d := d) (os := os) z2
    have kqcm0 := fun d os => cell_patch (d := d) (os := os) cm0
    have kqcm1 := fun d os => cell_patch (d := d) (os := os) cm1
    refine wp_region_quiet_patch (by kernel_rfl) (by kernel_rfl) ?_
    repeat (go_big_quiet_step (first | (go_at_call_of 13 (Value.slice a1 n1 c1); exact Calls.patch_of (hl1.out _ (kR.out _ _))) | (go_at_call_of 13 (Value.slice a3 n3 c3); exact Calls.patch_of (hl2.out _ (kX.out _ _)))))
    refine wpQuiet_nil ?_
    intro _ hw'
    obtain ⟨⟨dq, osq⟩, hw''⟩ := hw'
    subst hw''
    clear kqz0 kqz1 kqz2 kqcm0 kqcm1
    have hb := below_patch w3 dq osq
    replace hz := hz.below hb
    replace cm0 := Below.cell_some hb cm0
    replace cm1 := Below.cell_some hb cm1
    replace hB := below_step hB hb
    clear hb
    generalize patch w3 dq osq = w4 at hz cm0 cm1 hB ⊢
    clear z0 z1 z2 zf hl1 hl2 kR kX q1
    try clear q2 hq2
    try clear q3 hq3
    try clear q4 hq4
    try clear q5 hq5
    clear hq1
    obtain ⟨z0, z1, z2, zf⟩ := id hz
    go_wp2_with fail
    refine (how.out _ hB).mono ?_
    rintro e w5 ⟨⟨v1, v2, rfl, hM1, hM2⟩, hb⟩
    obtain ⟨a5, n5, c5, _, _, rfl, -⟩ := id hM1
    obtain ⟨a6, n6, c6, _, _, rfl, -⟩ := id hM2
    have hbO := below_alloc w5 (.cells #[.string p, .slice a5 n5 c5, .slice a6 n6 c6] 24)
    have ho := box3f_alloc w5 (.string p) (.slice a5 n5 c5) (.slice a6 n6 c6) 24
    have hs5 : w.heap.size + 1 < w5.heap.size := Nat.lt_of_lt_of_le (lt_of_cell cm0) hb.size
    replace hb := below_step hb hbO
    replace hM1 := hM1.below hbO
    replace hM2 := hM2.below hbO
    replace hz := hz.below hb
    replace cm0 := Below.cell_some hb cm0
    replace cm1 := Below.cell_some hb cm1
    replace hB := below_step hB hb
    obtain ⟨z0, z1, z2, zf⟩ := id hz
    obtain ⟨o0, o1, o2, of⟩ := id ho
    clear how hb hbO
    go_wp2_with fail
    generalize w5.alloc (.cells #[.string p, .slice a5 n5 c5, .slice a6 n6 c6] 24) = w6 at *
    generalize w5.heap.size = bo at *
    have hbW := (Below.refl w6.heap.size w6).drew
    clear z0 z1 z2 zf o0 o1 o2 of
    go_region_held2 (fun W => (W.cell? ⟨w.heap.size, 0, none⟩ = some (.string p) ∧ W.cell? ⟨w.heap.size, 1, none⟩ = some (.slice a1 n1 c1) ∧ W.cell? ⟨w.heap.size, 2, none⟩ = some (.slice a3 n3 c3) ∧ W.cell? ⟨bo, 0, none⟩ = some (.string p) ∧ W.cell? ⟨bo, 1, none⟩ = some (.slice a5 n5 c5) ∧ W.cell? ⟨bo, 2, none⟩ = some (.slice a6 n6 c6)) ∧ Below w6.heap.size w6 W) (exact held5 hz ho hbW) (first
      | (go_at_call 16; refine (hck.out _ _ _ (hE0.out _ (below_step hB hbW)) (hM1.below hbW) (hM2.below hbW)).mono ?_; rintro e w7 ⟨⟨ev, rfl, hv⟩, hb7⟩; replace hbW := below_step hbW hb7)
      | (go_at_call 17; refine (hrf.out _ (below_step hB hbW)).mono ?_; rintro e w7 ⟨rfl, hb7⟩; replace hbW := below_step hbW hb7; try replace hv := hv.below hb7)
      | (go_at_call 15; refine (hfa.out _ _ (hEC0.out _ (below_step hB hbW)) hv).mono ?_; rintro e w7 ⟨rfl, hb7⟩; replace hbW := below_step hbW hb7)
      | (go_at_call 18; refine (htx.out _ _ _ (hE0.out _ (below_step hB hbW)) (hM1.below hbW) (hM2.below hbW)).mono ?_; rintro e w7 ⟨rfl, hb7⟩; replace hbW := below_step hbW hb7)
      | (go_at_call 19; refine (hrt.out _ (below_step hB hbW)).mono ?_; rintro e w7 ⟨rfl, hb7⟩; replace hbW := below_step hbW hb7))
    all_goals
      clear hv hck hrf htx hrt hfa hb7
      replace hz := hz.below hbW
      replace ho := ho.below hbW
      replace cm0 := Below.cell_some hbW cm0
      replace cm1 := Below.cell_some hbW cm1
      replace hM1 := hM1.below hbW
      replace hM2 := hM2.below hbW
      replace hB := below_step hB hbW
      clear hbW
      go_wp2_with fail
      refine (hrd.out _ (hE0.out _ hB)).mono ?_
      rintro e w8 ⟨⟨p1, r1, x1, ev8, rfl, hp1, hr1, hx1, hf1⟩, hb⟩
      obtain ⟨a7, n7, c7, _, _, rfl, -⟩ := id hr1
      obtain ⟨a8, n8, c8, _, _, rfl, -⟩ := id hx1
      have hbX := below_alloc w8 (.cells #[.string p1, .slice a7 n7 c7, .slice a8 n8 c8] 24)
      have hxb := box3f_alloc w8 (.string p1) (.slice a7 n7 c7) (.slice a8 n8 c8) 24
      have hs8 : bo < w8.heap.size := Nat.lt_of_lt_of_le (lt_of_cell ho.c0) hb.size
      replace hb := below_step hb hbX
      replace hr1 := hr1.below hbX
      replace hx1 := hx1.below hbX
      replace hf1 := hf1.below hbX
      replace hz := hz.below hb
      replace ho := ho.below hb
      replace cm0 := Below.cell_some hb cm0
      replace cm1 := Below.cell_some hb cm1
      replace hM1 := hM1.below hb
      replace hM2 := hM2.below hb
      replace hB := below_step hB hb
      clear hb
      clear hrd hbX
      go_wp2_with fail
      generalize w8.alloc (.cells #[.string p1, .slice a7 n7 c7, .slice a8 n8 c8] 24) = w9 at *
      generalize w8.heap.size = bx at *
      refine (hrr.out _).mono ?_
      rintro e w10 ⟨⟨p2, r2, x2, rfl, hp2, hr2, hx2⟩, hb⟩
      obtain rfl : p2 = p1 := bytes_eq.1 (hp2.trans hp1.symm)
      obtain ⟨a10, n10, c10, _, _, rfl, -⟩ := id hr2
      obtain ⟨a11, n11, c11, _, _, rfl, -⟩ := id hx2
      have hs10 : bx < w10.heap.size := Nat.lt_of_lt_of_le (lt_of_cell hxb.c0) hb.size
      replace hz := hz.below hb
      replace ho := ho.below hb
      replace cm0 := Below.cell_some hb cm0
      replace cm1 := Below.cell_some hb cm1
      replace hM1 := hM1.below hb
      replace hM2 := hM2.below hb
      replace hxb := hxb.below hb
      replace hr1 := hr1.below hb
      replace hx1 := hx1.below hb
      replace hf1 := hf1.below hb
      replace hB := below_step hB hb
      clear hb
      clear hrr hp1 hp2
      have hbY1 := below_alloc w10 (.cells #[.string p2, .slice a10 n10 c10, .slice a11 n11 c11] 24)
      have hbY2 := below_alloc (w10.alloc (.cells #[.string p2, .slice a10 n10 c10, .slice a11 n11 c11] 24)) (.cells #[.int .i64 (gk : Nat), .int .i64 ga] 35)
      have hyb := (box3f_alloc w10 (.string p2) (.slice a10 n10 c10) (.slice a11 n11 c11) 24).below hbY2
      have hfb := box2_alloc (w10.alloc (.cells #[.string p2, .slice a10 n10 c10, .slice a11 n11 c11] 24)) (.int .i64 (gk : Nat)) (.int .i64 ga) 35
      simp only [World.size_alloc] at hfb
      have hb := below_step hbY1 hbY2
      replace hr2 := hr2.below hb
      replace hx2 := hx2.below hb
      replace hz := hz.below hb
      replace ho := ho.below hb
      replace cm0 := Below.cell_some hb cm0
      replace cm1 := Below.cell_some hb cm1
      replace hM1 := hM1.below hb
      replace hM2 := hM2.below hb
      replace hxb := hxb.below hb
      replace hr1 := hr1.below hb
      replace hx1 := hx1.below hb
      replace hf1 := hf1.below hb
      replace hB := below_step hB hb
      clear hb
      clear hbY1 hbY2
      obtain ⟨u0, u1, u2, uf⟩ := id hxb
      obtain ⟨y0, y1, y2, yf⟩ := id hyb
      go_wp2_with fail
      generalize (w10.alloc (.cells #[.string p2, .slice a10 n10 c10, .slice a11 n11 c11] 24)).alloc (.cells #[.int .i64 (gk : Nat), .int .i64 ga] 35) = w11 at *
      generalize w10.heap.size = bY at *
      refine (hsm.out _ _ _ _ _ _ _ _ hr1 hx1 hr2 hx2).mono ?_
      rintro e w12 ⟨rfl, hb⟩
      replace hz := hz.below hb
      replace ho := ho.below hb
      replace cm0 := Below.cell_some hb cm0
      replace cm1 := Below.cell_some hb cm1
      replace hM1 := hM1.below hb
      replace hM2 := hM2.below hb
      replace hxb := hxb.below hb
      replace hyb := hyb.below hb
      replace hfb := hfb.below hb
      replace hf1 := hf1.below hb
      replace hB := below_step hB hb
      clear hb
      clear u0 u1 u2 uf y0 y1 y2 yf hr1 hx1 hr2 hx2
      obtain ⟨f0, f1, ff⟩ := id hfb
      go_wp2_with fail
      refine (hfg.out _ _ (hEC0.out _ hB) hf1).mono ?_
      rintro e w13 ⟨rfl, hb⟩
      replace hz := hz.below hb
      replace ho := ho.below hb
      replace cm0 := Below.cell_some hb cm0
      replace cm1 := Below.cell_some hb cm1
      replace hM1 := hM1.below hb
      replace hM2 := hM2.below hb
      replace hxb := hxb.below hb
      replace hyb := hyb.below hb
      replace hB := below_step hB hb
      clear hb
      clear f0 f1 ff hf1 hfb hfg
      obtain ⟨o0, o1, o2, of⟩ := id ho
      go_wp2_with fail
      refine (hst.out _ _ _ (hE0.out _ hB) hM1 hM2).mono ?_
      rintro e w14 ⟨⟨p3, r3, x3, rfl, hp3, hr3, hx3⟩, hb⟩
      obtain ⟨a12, n12, c12, _, _, rfl, -⟩ := id hr3
      obtain ⟨a13, n13, c13, _, _, rfl, -⟩ := id hx3
      replace hz := hz.below hb
      replace ho := ho.below hb
      replace cm0 := Below.cell_some hb cm0
      replace cm1 := Below.cell_some hb cm1
      replace hM1 := hM1.below hb
      replace hM2 := hM2.below hb
      replace hxb := hxb.below hb
      replace hyb := hyb.below hb
      replace hB := below_step hB hb
      clear hb
      clear hst o0 o1 o2 of
      obtain ⟨u0, u1, u2, uf⟩ := id hxb
      replace hr3 := ModsAt.st_away hxb hr3 (.string p3) (.slice a12 n12 c12) (.slice a13 n13 c13)
      replace hx3 := ModsAt.st_away hxb hx3 (.string p3) (.slice a12 n12 c12) (.slice a13 n13 c13)
      replace hM1 := ModsAt.st_away hxb hM1 (.string p3) (.slice a12 n12 c12) (.slice a13 n13 c13)
      replace hM2 := ModsAt.st_away hxb hM2 (.string p3) (.slice a12 n12 c12) (.slice a13 n13 c13)
      replace hz := hz.sto (c := bx) (by omega) (.string p3) (.slice a12 n12 c12) (.slice a13 n13 c13)
      replace ho := ho.sto (c := bx) (by omega) (.string p3) (.slice a12 n12 c12) (.slice a13 n13 c13)
      replace hyb := hyb.sto (c := bx) (by omega) (.string p3) (.slice a12 n12 c12) (.slice a13 n13 c13)
      replace cm0 := cell_sto (c := bx) cm0 (by omega) (.string p3) (.slice a12 n12 c12) (.slice a13 n13 c13)
      replace cm1 := cell_sto (c := bx) cm1 (by omega) (.string p3) (.slice a12 n12 c12) (.slice a13 n13 c13)
      replace hB := below_sto hB (b := bx) (by omega) (.string p3) (.slice a12 n12 c12) (.slice a13 n13 c13)
      replace hxb := hxb.st (.string p3) (.slice a12 n12 c12) (.slice a13 n13 c13)
      unfold st3 at hr3 hx3 hM1 hM2 hz ho hyb cm0 cm1 hB hxb
      obtain ⟨z0, z1, z2, zf⟩ := id hz
      go_wp2_with fail
      generalize ((w14.setCell ⟨bx, 0, none⟩ (.string p3)).setCell ⟨bx, 1, none⟩ (.slice a12 n12 c12)).setCell ⟨bx, 2, none⟩ (.slice a13 n13 c13) = w15 at *
      clear u0 u1 u2 uf z0 z1 z2 zf
      refine (hso.out _ hB).mono ?_
      rintro e w16 ⟨⟨p4, r4, x4, rfl, hp4, hr4, hx4⟩, hb⟩
      obtain rfl : p4 = p3 := bytes_eq.1 (hp4.trans hp3.symm)
      obtain ⟨a14, n14, c14, _, _, rfl, -⟩ := id hr4
      obtain ⟨a15, n15, c15, _, _, rfl, -⟩ := id hx4
      replace hz := hz.below hb
      replace ho := ho.below hb
      replace cm0 := Below.cell_some hb cm0
      replace cm1 := Below.cell_some hb cm1
      replace hM1 := hM1.below hb
      replace hM2 := hM2.below hb
      replace hxb := hxb.below hb
      replace hyb := hyb.below hb
      replace hr3 := hr3.below hb
      replace hx3 := hx3.below hb
      replace hB := below_step hB hb
      clear hb
      clear hso hp3 hp4
      obtain ⟨y0, y1, y2, yf⟩ := id hyb
      replace hr4 := ModsAt.st_away hyb hr4 (.string p4) (.slice a14 n14 c14) (.slice a15 n15 c15)
      replace hx4 := ModsAt.st_away hyb hx4 (.string p4) (.slice a14 n14 c14) (.slice a15 n15 c15)
      replace hr3 := ModsAt.st_away hyb hr3 (.string p4) (.slice a14 n14 c14) (.slice a15 n15 c15)
      replace hx3 := ModsAt.st_away hyb hx3 (.string p4) (.slice a14 n14 c14) (.slice a15 n15 c15)
      replace hM1 := ModsAt.st_away hyb hM1 (.string p4) (.slice a14 n14 c14) (.slice a15 n15 c15)
      replace hM2 := ModsAt.st_away hyb hM2 (.string p4) (.slice a14 n14 c14) (.slice a15 n15 c15)
      replace hz := hz.sto (c := bY) (by omega) (.string p4) (.slice a14 n14 c14) (.slice a15 n15 c15)
      replace ho := ho.sto (c := bY) (by omega) (.string p4) (.slice a14 n14 c14) (.slice a15 n15 c15)
      replace hxb := hxb.sto (c := bY) (by omega) (.string p4) (.slice a14 n14 c14) (.slice a15 n15 c15)
      replace cm0 := cell_sto (c := bY) cm0 (by omega) (.string p4) (.slice a14 n14 c14) (.slice a15 n15 c15)
      replace cm1 := cell_sto (c := bY) cm1 (by omega) (.string p4) (.slice a14 n14 c14) (.slice a15 n15 c15)
      replace hB := below_sto hB (b := bY) (by omega) (.string p4) (.slice a14 n14 c14) (.slice a15 n15 c15)
      replace hyb := hyb.st (.string p4) (.slice a14 n14 c14) (.slice a15 n15 c15)
      unfold st3 at hr4 hx4 hr3 hx3 hM1 hM2 hz ho hxb cm0 cm1 hB hyb
      obtain ⟨u0, u1, u2, uf⟩ := id hxb
      go_wp2_with fail
      generalize ((w16.setCell ⟨bY, 0, none⟩ (.string p4)).setCell ⟨bY, 1, none⟩ (.slice a14 n14 c14)).setCell ⟨bY, 2, none⟩ (.slice a15 n15 c15) = w17 at *
      clear u0 u1 u2 uf y0 y1 y2 yf
      refine (hsm.out _ _ _ _ _ _ _ _ hr3 hx3 hr4 hx4).mono ?_
      rintro e w18 ⟨rfl, hb⟩
      replace hz := hz.below hb
      replace ho := ho.below hb
      replace cm0 := Below.cell_some hb cm0
      replace cm1 := Below.cell_some hb cm1
      replace hM1 := hM1.below hb
      replace hM2 := hM2.below hb
      replace hxb := hxb.below hb
      replace hyb := hyb.below hb
      replace hB := below_step hB hb
      clear hb
      clear hr3 hx3 hr4 hx4
      go_wp2_with fail
      refine (hcs.out _ (hEC0.out _ hB)).mono ?_
      rintro e w19 ⟨rfl, hb⟩
      replace hz := hz.below hb
      replace ho := ho.below hb
      replace cm0 := Below.cell_some hb cm0
      replace cm1 := Below.cell_some hb cm1
      replace hM1 := hM1.below hb
      replace hM2 := hM2.below hb
      replace hxb := hxb.below hb
      replace hyb := hyb.below hb
      replace hB := below_step hB hb
      clear hb
      clear hcs
      obtain ⟨o0, o1, o2, of⟩ := id ho
      go_wp2_with fail
      refine (hdr.out _ _ _ (hE0.out _ hB) hM1 hM2).mono ?_
      rintro e w20 ⟨⟨p5, r5, x5, rfl, hp5, hr5, hx5⟩, hb⟩
      obtain ⟨a16, n16, c16, _, _, rfl, -⟩ := id hr5
      obtain ⟨a17, n17, c17, _, _, rfl, -⟩ := id hx5
      replace hz := hz.below hb
      replace ho := ho.below hb
      replace cm0 := Below.cell_some hb cm0
      replace cm1 := Below.cell_some hb cm1
      replace hM1 := hM1.below hb
      replace hM2 := hM2.below hb
      replace hxb := hxb.below hb
      replace hyb := hyb.below hb
      replace hB := below_step hB hb
      clear hb
      clear hdr o0 o1 o2 of
      obtain ⟨u0, u1, u2, uf⟩ := id hxb
      replace hr5 := ModsAt.st_away hxb hr5 (.string p5) (.slice a16 n16 c16) (.slice a17 n17 c17)
      replace hx5 := ModsAt.st_away hxb hx5 (.string p5) (.slice a16 n16 c16) (.slice a17 n17 c17)
      replace hM1 := ModsAt.st_away hxb hM1 (.string p5) (.slice a16 n16 c16) (.slice a17 n17 c17)
      replace hM2 := ModsAt.st_away hxb hM2 (.string p5) (.slice a16 n16 c16) (.slice a17 n17 c17)
      replace hz := hz.sto (c := bx) (by omega) (.string p5) (.slice a16 n16 c16) (.slice a17 n17 c17)
      replace ho := ho.sto (c := bx) (by omega) (.string p5) (.slice a16 n16 c16) (.slice a17 n17 c17)
      replace hyb := hyb.sto (c := bx) (by omega) (.string p5) (.slice a16 n16 c16) (.slice a17 n17 c17)
      replace cm0 := cell_sto (c := bx) cm0 (by omega) (.string p5) (.slice a16 n16 c16) (.slice a17 n17 c17)
      replace cm1 := cell_sto (c := bx) cm1 (by omega) (.string p5) (.slice a16 n16 c16) (.slice a17 n17 c17)
      replace hB := below_sto hB (b := bx) (by omega) (.string p5) (.slice a16 n16 c16) (.slice a17 n17 c17)
      replace hxb := hxb.st (.string p5) (.slice a16 n16 c16) (.slice a17 n17 c17)
      unfold st3 at hr5 hx5 hM1 hM2 hz ho hyb cm0 cm1 hB hxb
      obtain ⟨z0, z1, z2, zf⟩ := id hz
      go_wp2_with fail
      generalize ((w20.setCell ⟨bx, 0, none⟩ (.string p5)).setCell ⟨bx, 1, none⟩ (.slice a16 n16 c16)).setCell ⟨bx, 2, none⟩ (.slice a17 n17 c17) = w21 at *
      clear u0 u1 u2 uf z0 z1 z2 zf
      refine (hdo.out _ hB).mono ?_
      rintro e w22 ⟨⟨p6, r6, x6, rfl, hp6, hr6, hx6⟩, hb⟩
      obtain rfl : p6 = p5 := bytes_eq.1 (hp6.trans hp5.symm)
      obtain ⟨a18, n18, c18, _, _, rfl, -⟩ := id hr6
      obtain ⟨a19, n19, c19, _, _, rfl, -⟩ := id hx6
      replace hz := hz.below hb
      replace ho := ho.below hb
      replace cm0 := Below.cell_some hb cm0
      replace cm1 := Below.cell_some hb cm1
      replace hM1 := hM1.below hb
      replace hM2 := hM2.below hb
      replace hxb := hxb.below hb
      replace hyb := hyb.below hb
      replace hr5 := hr5.below hb
      replace hx5 := hx5.below hb
      replace hB := below_step hB hb
      clear hb
      clear hdo hp5 hp6
      obtain ⟨y0, y1, y2, yf⟩ := id hyb
      replace hr6 := ModsAt.st_away hyb hr6 (.string p6) (.slice a18 n18 c18) (.slice a19 n19 c19)
      replace hx6 := ModsAt.st_away hyb hx6 (.string p6) (.slice a18 n18 c18) (.slice a19 n19 c19)
      replace hr5 := ModsAt.st_away hyb hr5 (.string p6) (.slice a18 n18 c18) (.slice a19 n19 c19)
      replace hx5 := ModsAt.st_away hyb hx5 (.string p6) (.slice a18 n18 c18) (.slice a19 n19 c19)
      replace hM1 := ModsAt.st_away hyb hM1 (.string p6) (.slice a18 n18 c18) (.slice a19 n19 c19)
      replace hM2 := ModsAt.st_away hyb hM2 (.string p6) (.slice a18 n18 c18) (.slice a19 n19 c19)
      replace hz := hz.sto (c := bY) (by omega) (.string p6) (.slice a18 n18 c18) (.slice a19 n19 c19)
      replace ho := ho.sto (c := bY) (by omega) (.string p6) (.slice a18 n18 c18) (.slice a19 n19 c19)
      replace hxb := hxb.sto (c := bY) (by omega) (.string p6) (.slice a18 n18 c18) (.slice a19 n19 c19)
      replace cm0 := cell_sto (c := bY) cm0 (by omega) (.string p6) (.slice a18 n18 c18) (.slice a19 n19 c19)
      replace cm1 := cell_sto (c := bY) cm1 (by omega) (.string p6) (.slice a18 n18 c18) (.slice a19 n19 c19)
      replace hB := below_sto hB (b := bY) (by omega) (.string p6) (.slice a18 n18 c18) (.slice a19 n19 c19)
      replace hyb := hyb.st (.string p6) (.slice a18 n18 c18) (.slice a19 n19 c19)
      unfold st3 at hr6 hx6 hr5 hx5 hM1 hM2 hz ho hxb cm0 cm1 hB hyb
      obtain ⟨u0, u1, u2, uf⟩ := id hxb
      go_wp2_with fail
      generalize ((w22.setCell ⟨bY, 0, none⟩ (.string p6)).setCell ⟨bY, 1, none⟩ (.slice a18 n18 c18)).setCell ⟨bY, 2, none⟩ (.slice a19 n19 c19) = w23 at *
      clear u0 u1 u2 uf y0 y1 y2 yf
      refine (hsm.out _ _ _ _ _ _ _ _ hr5 hx5 hr6 hx6).mono ?_
      rintro e w24 ⟨rfl, hb⟩
      replace hz := hz.below hb
      replace ho := ho.below hb
      replace hM1 := hM1.below hb
      replace hM2 := hM2.below hb
      replace hB := below_step hB hb
      clear hb
      clear hr5 hx5 hr6 hx6 hxb hyb cm0 cm1
      obtain ⟨z0, z1, z2, zf⟩ := id hz
      obtain ⟨o0, o1, o2, of⟩ := id ho
      go_wp2_with fail
      refine (hsm.out _ _ _ _ _ _ _ _ hM1 hM2 (hr.below hB) (hx.below hB)).mono ?_
      rintro e w25 ⟨rfl, hb⟩
      replace hB := below_step hB hb
      clear hb z0 z1 z2 zf o0 o1 o2 of
      go_wp2_with fail
      refine (hcd.out _ (hEC0.out _ hB)).mono ?_
      rintro e w26 ⟨rfl, hb⟩
      replace hB := below_step hB hb
      go_wp2_with fail
      go_ret
      exact ⟨rfl, hB⟩
end Go.Proofs.Pw

/- FileTells: its walk, joined. -/
namespace Go.Proofs.Pw
open Go.RowKit
open Go.Lib hiding intOf

theorem fileTells_calls (ks : List Nat) (A : Nat → Addr) (hks : FileKs ks) (p s mp mv : ByteArray) (rv xv : Value) (R X : List Md) (w : World) (hE : EnvP ks A w) (hEC : EnvC A w) (hr : ModsAt w rv R) (hx : ModsAt w xv X) :
    Calls Tryz.prog 3 #[.agg #[.string p, rv, xv], .string s, .agg #[.string mp, .string mv]] w fun e w' => e = .returned (.bool true) ∧ Below w.heap.size w w' := by
  by_cases h : p.size ≤ 90 ∧ longMods R 25 = false ∧ longMods X 25 = false ∧ (s.size ≤ 600 ∨ s.size = 8001) ∧ mp.size ≤ 90 ∧ mv.size ≤ 60
  · exact fileTells_main ks A hks p s mp mv rv xv R X w hE hEC hr hx h.1 h.2.1 h.2.2.1 h.2.2.2.1 h.2.2.2.2.1 h.2.2.2.2.2
  · exact fileTells_long ks A hks p s mp mv rv xv R X w hE hr hx h
end Go.Proofs.Pw

/- From a row's listed variables to what the walks ask: the sentinels, each at its own place; errors.errorType's handle. -/
namespace Go.Proofs.Pw
open Go.RowKit Go.ChangeShapes

/-- a sentinel's datum -/
def sentD (text : List UInt8) : DataW Unit := .iface "*errors.errorString" (.ptr (.agg [.lit (.string text)]))

theorem Tryz.star : "*" ++ "errors.errorString" = "*errors.errorString" := by decide
theorem Tryz.rowES : ∀ u, Tryz.prog.typeName? 3 u = some "*errors.errorString" → u = 283 := fun u h =>
  typeName_ptr_named (P := Tryz.prog) (nm := "errors.errorString") (by rw [Tryz.star]; kernel_rfl) (by kernel_rfl) (by decide) u (by rw [Tryz.star]; exact h)

section
variable {W : World}

set_option maxRecDepth 100000 in
theorem sent_mem {n : String} {text : List UInt8} : ∀ {l : List (String × DataW Unit)} {ps : List MemPlace}, DataW.LaidVars Tryz.prog W l ps →
    (∀ b off, MemPlace.cell b off ∈ ps → (∃ c t, W.heap[b]? = some (.cells c t (0, 0))) ∧ ∀ u v, W.cell? ⟨b, off, none⟩ = some (.iface u v) → Value.okWide Tryz.prog W .any 0 u v) →
    (n, sentD text) ∈ l → (∀ g, Tryz.prog.globalNamed n = some g → (Tryz.prog.globals[g]?).map (·.type) = some 32) →
    ∃ (g : Nat) (a : Addr), Tryz.prog.globalNamed n = some g ∧ W.cell? ⟨g, 0, none⟩ = some (.iface 283 (.pointer (some a))) ∧ MemPlace.cell a.block a.off ∈ ps
  | [], _, _, _, hm, _ => by cases hm
  | (n0, d0) :: r, ps, h, hrows, hm, ht => by
    obtain ⟨g, t, cs, fuel, p, q, hg, htt, hv, hd, hq, rfl⟩ := h
    rcases List.mem_cons.1 hm with he | hm
    · obtain ⟨rfl, rfl⟩ := Prod.mk.injEq .. ▸ he
      obtain rfl := Option.some.inj ((ht g hg).symm.trans htt)
      obtain ⟨l0⟩ := cs
      have ok0 : ∀ u v, l0 = [.iface u v] → Value.okWide Tryz.prog W .any 0 u v := fun u v e => by
        subst e
        exact (hrows g 0 (by simp [MemPlace.row])).2 u v (by simpa using World.var?_cell hg hv 0)
      obtain ⟨a, s, rfl, _, _, _, rfl⟩ := errorString_of_trod Tryz.underlying32 Tryz.rowES Tryz.underlying283 Tryz.underlying285 rfl rfl Tryz.underlying9 (by kernel_rfl) (by kernel_rfl) hd ok0
      exact ⟨g, a, hg, by simpa using World.var?_cell hg hv 0, by simp [MemPlace.row]⟩
    · obtain ⟨g', a, h1, h2, h3⟩ := sent_mem hq (fun b off hm => hrows b off (List.mem_append_right _ hm)) hm ht
      exact ⟨g', a, h1, h2, List.mem_append_right _ h3⟩

set_option maxRecDepth 100000 in
theorem sent_ne {n n' : String} {text text' : List UInt8} (hnn : n ≠ n') : ∀ {l : List (String × DataW Unit)} {ps : List MemPlace}, DataW.LaidVars Tryz.prog W l ps → ps.Nodup →
    (∀ b off, MemPlace.cell b off ∈ ps → (∃ c t, W.heap[b]? = some (.cells c t (0, 0))) ∧ ∀ u v, W.cell? ⟨b, off, none⟩ = some (.iface u v) → Value.okWide Tryz.prog W .any 0 u v) →
    (n, sentD text) ∈ l → (n', sentD text') ∈ l → (∀ g, Tryz.prog.globalNamed n = some g → (Tryz.prog.globals[g]?).map (·.type) = some 32) → (∀ g, Tryz.prog.globalNamed n' = some g → (Tryz.prog.globals[g]?).map (·.type) = some 32) →
    ∀ (g g' : Nat) (a a' : Addr), Tryz.prog.globalNamed n = some g → Tryz.prog.globalNamed n' = some g' → W.cell? ⟨g, 0, none⟩ = some (.iface 283 (.pointer (some a))) → W.cell? ⟨g', 0, none⟩ = some (.iface 283 (.pointer (some a'))) → a ≠ a'
  | [], _, _, _, _, hm, _, _, _ => by cases hm
  | (n0, d0) :: r, ps, h, hnd, hrows, hm, hm', ht, ht' => by
    intro g g' a a' hg hg' hc hc'
    obtain ⟨g0, t0, cs, fuel, p, q, hg0, htt, hv, hd, hq, rfl⟩ := h
    have hrq : ∀ b off, MemPlace.cell b off ∈ q → (∃ c t, W.heap[b]? = some (.cells c t (0, 0))) ∧ ∀ u v, W.cell? ⟨b, off, none⟩ = some (.iface u v) → Value.okWide Tryz.prog W .any 0 u v := fun b off hm => hrows b off (List.mem_append_right _ hm)
    have head : ∀ {m : String} {tx : List UInt8} {gm : Nat} {am : Addr}, (m, sentD tx) = (n0, d0) → (∀ g, Tryz.prog.globalNamed m = some g → (Tryz.prog.globals[g]?).map (·.type) = some 32) → Tryz.prog.globalNamed m = some gm → W.cell? ⟨gm, 0, none⟩ = some (.iface 283 (.pointer (some am))) → MemPlace.cell am.block am.off ∈ p := by
      intro m tx gm am he htm hgm hcm
      obtain ⟨rfl, rfl⟩ := Prod.mk.injEq .. ▸ he
      obtain rfl := Option.some.inj (hg0.symm.trans hgm)
      obtain rfl := Option.some.inj ((htm g0 hg0).symm.trans htt)
      obtain ⟨l0⟩ := cs
      have ok0 : ∀ u v, l0 = [.iface u v] → Value.okWide Tryz.prog W .any 0 u v := fun u v e => by
        subst e
        exact (hrows g0 0 (by simp [MemPlace.row])).2 u v (by simpa using World.var?_cell hg0 hv 0)
      obtain ⟨a1, s, rfl, _, _, _, rfl⟩ := errorString_of_trod Tryz.underlying32 Tryz.rowES Tryz.underlying283 Tryz.underlying285 rfl rfl Tryz.underlying9 (by kernel_rfl) (by kernel_rfl) hd ok0
      have e := World.var?_cell hg0 hv 0
      rw [hcm] at e
      simp at e
      subst e
      simp [MemPlace.row]
    have tail : ∀ {m : String} {tx : List UInt8} {gm : Nat} {am : Addr}, (m, sentD tx) ∈ r → (∀ g, Tryz.prog.globalNamed m = some g → (Tryz.prog.globals[g]?).map (·.type) = some 32) → Tryz.prog.globalNamed m = some gm → W.cell? ⟨gm, 0, none⟩ = some (.iface 283 (.pointer (some am))) → MemPlace.cell am.block am.off ∈ q := by
      intro m tx gm am hmm htm hgm hcm
      obtain ⟨g2, a2, h1, h2, h3⟩ := sent_mem hq hrq hmm htm
      obtain rfl := Option.some.inj (hgm.symm.trans h1)
      rw [hcm] at h2
      simp at h2
      subst h2
      exact h3
    rw [List.nodup_append] at hnd
    have hpq : ∀ x, x ∈ p → x ∈ q → False := fun x hx hy => hnd.2.2 x (List.mem_append_right _ hx) x hy rfl
    rcases List.mem_cons.1 hm with he | hm
    · rcases List.mem_cons.1 hm' with he' | hm'
      · exact absurd ((Prod.mk.inj he).1.trans (Prod.mk.inj he').1.symm) hnn
      · intro e
        subst e
        exact hpq _ (head he ht hg hc) (tail hm' ht' hg' hc')
    · rcases List.mem_cons.1 hm' with he' | hm'
      · intro e
        subst e
        exact hpq _ (head he' ht' hg' hc') (tail hm ht hg hc)
      · exact sent_ne hnn hq hnd.2.1 hrq hm hm' ht ht' g g' a a' hg hg' hc hc'
end

/-- where the sentinel of a number lies, in a world -/
def errA (W : World) (k : Nat) : Addr := match W.cell? ⟨errG k, 0, none⟩ with
  | some (.iface _ (.pointer (some a))) => a
  | _ => default

/-- THE SENTINELS OF A LIST: names and texts by number. -/
theorem envE_of {W : World} {l : List (String × DataW Unit)} (h : laidMet Tryz.prog l W) (ks : List Nat) (nm : Nat → String) (tx : Nat → List UInt8)
    (hm : ∀ k ∈ ks, (nm k, sentD (tx k)) ∈ l) (hg : ∀ k ∈ ks, Tryz.prog.globalNamed (nm k) = some (errG k)) (ht : ∀ k ∈ ks, (Tryz.prog.globals[errG k]?).map (·.type) = some 32)
    (hne : ∀ j ∈ ks, ∀ k ∈ ks, j ≠ k → nm j ≠ nm k) : EnvE ks (errA W) W := by
  obtain ⟨ps, hv, hnd, hrows⟩ := h
  have htt : ∀ k ∈ ks, ∀ g, Tryz.prog.globalNamed (nm k) = some g → (Tryz.prog.globals[g]?).map (·.type) = some 32 := fun k hk g h => by
    obtain rfl := Option.some.inj ((hg k hk).symm.trans h)
    exact ht k hk
  have cell : ∀ k ∈ ks, W.cell? ⟨errG k, 0, none⟩ = some (.iface 283 (.pointer (some (errA W k)))) ∧ MemPlace.cell (errA W k).block (errA W k).off ∈ ps := fun k hk => by
    obtain ⟨g, a, h1, h2, h3⟩ := sent_mem hv hrows (hm k hk) (htt k hk)
    obtain rfl := Option.some.inj ((hg k hk).symm.trans h1)
    have e : errA W k = a := by unfold errA; rw [h2]
    rw [e]
    exact ⟨h2, h3⟩
  refine ⟨fun k hk => (cell k hk).1, fun k hk => (hrows _ _ (cell k hk).2).1, fun j hj k hk e => ?_⟩
  rcases Nat.decEq j k with hjk | hjk
  · exact absurd e (sent_ne (hne j hj k hk hjk) hv hnd hrows (hm j hj) (hm k hk) (htt j hj) (htt k hk) _ _ _ _ (hg j hj) (hg k hk) (cell j hj).1 (cell k hk).1)
  · exact hjk

theorem Tryz.et : Tryz.prog.globalNamed "errors.errorType" = some 10 := by kernel_rfl
theorem Tryz.rt : (Tryz.prog.cutTypes.find? (·.1 == "internal/reflectlite.rtype")).map (·.2) = some 215 := by kernel_rfl
theorem Tryz.oneRow : ((List.range 327).filter fun t => Tryz.prog.rowNamed t [101, 114, 114, 111, 114]) = [32] := by kernel_rfl
theorem Tryz.typesSize : Tryz.prog.types.size = 327 := by kernel_rfl

/-- errors.errorType's cell -/
theorem handle_of {W : World} {hs : List (String × DataW Unit)} (h : handlesMet Tryz.prog hs W)
    (hm : ("errors.errorType", (.iface "internal/reflectlite.rtype" (.agg [.ptr (.lit (.string [101, 114, 114, 111, 114]))]) : DataW Unit)) ∈ hs) :
    W.cell? ⟨10, 0, none⟩ = some (.iface 215 (.agg #[.pointer (some ⟨19, 32, none⟩)])) := by
  obtain ⟨name, u, ty, e1, e2, e3, e4, e5⟩ := h _ hm
  have en : name = [101, 114, 114, 111, 114] := (Option.some.inj e1).symm
  subst en
  obtain rfl := Option.some.inj (Tryz.rt.symm.trans e2)
  have hmm : ty ∈ (List.range 327).filter fun t => Tryz.prog.rowNamed t [101, 114, 114, 111, 114] := List.mem_filter.2 ⟨List.mem_range.2 (by rw [← Tryz.typesSize]; exact e3), e4⟩
  rw [Tryz.oneRow] at hmm
  obtain rfl := List.mem_singleton.1 hmm
  have hh : typeHandle Tryz.prog 32 = .pointer (some ⟨19, 32, none⟩) := by kernel_rfl
  rw [hh] at e5
  simpa using World.var?_cell Tryz.et e5 0
end Go.Proofs.Pw

/- From a row's listed variables to what packages ver and mod ask: the sentinels, strconv.ErrRange, the table of powers. -/
namespace Go.Proofs.Pw
open Go.RowKit Go.ChangeShapes

theorem tab_mem {W : World} {n : String} {k : IntKind} {zs : List Int} {g : Nat} {t e : TypeId} {m : Nat}
    (hg : Tryz.prog.globalNamed n = some g) (hty : (Tryz.prog.globals[g]?).map (·.type) = some t) (ht : Tryz.prog.underlying t = some (.array m e)) (he : Tryz.prog.underlying e = some (.int k)) (hce : Tryz.prog.cellsOf e = 1) (hct : Tryz.prog.cellsOf t = m) :
    ∀ {l : List (String × DataW Unit)} {ps : List MemPlace}, DataW.LaidVars Tryz.prog W l ps → (n, Lib.tabData k zs) ∈ l → Lib.TabIs Tryz.prog W n k zs
  | [], _, _, hm => by cases hm
  | (n0, d0) :: r, ps, h, hm => by
    obtain ⟨g', t', cs, fuel, p, q, hg', ht', hvar, hd, hq, rfl⟩ := h
    rcases List.mem_cons.1 hm with heq | hm
    · obtain ⟨rfl, rfl⟩ := Prod.mk.injEq .. ▸ heq
      obtain rfl := Option.some.inj (hg.symm.trans hg')
      obtain rfl := Option.some.inj (hty.symm.trans ht')
      unfold Lib.TabIs
      rw [hvar, ← Lib.cells_of_tab ht he hce hct hd]
    · exact tab_mem hg hty ht he hce hct hq hm

/-- an error's name and text by its number -/
def errNm : Nat → String
  | 1 => "pewholder/api.ErrText" | 2 => "pewholder/api.ErrBound" | 3 => "pewholder/api.ErrShape" | 4 => "pewholder/api.ErrMajor" | 5 => "pewholder/api.ErrNone"
  | 6 => "pewholder/api.ErrExist" | 7 => "pewholder/api.ErrFull" | 8 => "pewholder/api.ErrOrder" | 9 => "pewholder/api.ErrClash" | _ => "pewholder/api.ErrSum"
def errTx : Nat → List UInt8
  | 1 => [112, 101, 119, 104, 111, 108, 100, 101, 114, 58, 32, 116, 101, 120, 116]
  | 2 => [112, 101, 119, 104, 111, 108, 100, 101, 114, 58, 32, 98, 111, 117, 110, 100]
  | 3 => [112, 101, 119, 104, 111, 108, 100, 101, 114, 58, 32, 115, 104, 97, 112, 101]
  | 4 => [112, 101, 119, 104, 111, 108, 100, 101, 114, 58, 32, 109, 97, 106, 111, 114]
  | 5 => [112, 101, 119, 104, 111, 108, 100, 101, 114, 58, 32, 110, 111, 110, 101]
  | 6 => [112, 101, 119, 104, 111, 108, 100, 101, 114, 58, 32, 101, 120, 105, 115, 116]
  | 7 => [112, 101, 119, 104, 111, 108, 100, 101, 114, 58, 32, 102, 117, 108, 108]
  | 8 => [112, 101, 119, 104, 111, 108, 100, 101, 114, 58, 32, 111, 114, 100, 101, 114]
  | 9 => [112, 101, 119, 104, 111, 108, 100, 101, 114, 58, 32, 99, 108, 97, 115, 104]
  | _ => [112, 101, 119, 104, 111, 108, 100, 101, 114, 58, 32, 115, 117, 109]
def rangeTx : List UInt8 := [118, 97, 108, 117, 101, 32, 111, 117, 116, 32, 111, 102, 32, 114, 97, 110, 103, 101]

theorem maxLenEnv {W : World} (h : W.ShapedOpen Tryz.prog) : EnvM W := by
  obtain ⟨m, hm⟩ := Tryz.laysM143.s1_3 W h
  exact ⟨m, hm⟩

theorem envP_of {W : World} {l : List (String × DataW Unit)} (h : laidMet Tryz.prog l W) (hsh : W.ShapedOpen Tryz.prog) (ks : List Nat) (hks : 1 ∈ ks ∧ 2 ∈ ks)
    (hm : ∀ k ∈ ks, (errNm k, sentD (errTx k)) ∈ l) (hg : ∀ k ∈ ks, Tryz.prog.globalNamed (errNm k) = some (errG k)) (ht : ∀ k ∈ ks, (Tryz.prog.globals[errG k]?).map (·.type) = some 32)
    (hne : ∀ j ∈ ks, ∀ k ∈ ks, j ≠ k → errNm j ≠ errNm k) (hr : ("strconv.ErrRange", sentD rangeTx) ∈ l) (hp : ("internal/strconv.uint64pow10", Lib.tabData .u64 Lib.pow10Tab) ∈ l) : EnvP ks (errA W) W := by
  refine { m := maxLenEnv hsh, errs := envE_of h ks errNm errTx hm hg ht hne, has := hks, range := ?_, pow10 := ?_ }
  · obtain ⟨ps, hv, hnd, hrows⟩ := h
    obtain ⟨g, a, h1, h2, _⟩ := sent_mem hv hrows hr (fun g hg => by
      obtain rfl := Option.some.inj ((show Tryz.prog.globalNamed "strconv.ErrRange" = some 13 by kernel_rfl).symm.trans hg)
      kernel_rfl)
    obtain rfl := Option.some.inj ((show Tryz.prog.globalNamed "strconv.ErrRange" = some 13 by kernel_rfl).symm.trans h1)
    exact ⟨_, _, h2⟩
  · obtain ⟨ps, hv, _, _⟩ := h
    exact tab_mem (g := 16) (by kernel_rfl) (by kernel_rfl) (Tryz.underlying287) (Tryz.underlying208) (by kernel_rfl) (by kernel_rfl) hv hp

/-- a slice of texts that came in -/
theorem strsAt_open {w : World} {a : Addr} {len cap : Nat} {ss : List ByteArray} (hl : len ≤ cap) (hm : cap ≤ maxLen) (hlen : len ≤ ss.length) (hc : ∀ i, i < ss.length → w.cell? (a.add i) = some (.string (ss.getD i ByteArray.empty))) :
    StrsAt w (.slice (some a) len cap) (lstF len fun j => ss.getD j ByteArray.empty) := by
  refine ⟨some a, len, cap, _, rfl, rfl, hl, by unfold maxLen at hm; exact hm, fun j hj => ?_⟩
  have h0 := hc 0 (by omega)
  have hs : a.spot = none := by
    have e : a.add 0 = a := rfl
    rw [e] at h0
    unfold World.cell? at h0
    split at h0
    · split at h0
      · cases h0
      · rename_i h
        simpa using h
    · cases h0
  obtain ⟨b, o, s⟩ := a
  obtain rfl : s = none := hs
  refine ⟨b, o, rfl, ?_⟩
  have := hc j (by omega)
  have e : (⟨b, o, none⟩ : Addr).add j = ⟨b, o + j, none⟩ := by unfold Addr.add; split <;> simp_all
  rw [e] at this
  exact this

theorem wf64 {x : Int} (h : (Lit.int .i64 x).wf = true) : -9223372036854775808 ≤ x ∧ x ≤ 9223372036854775807 := by
  unfold Lit.wf at h
  simp only [Bool.and_eq_true, decide_eq_true_eq] at h
  exact h

set_option maxRecDepth 100000 in
theorem strsOpen {H : Type} {enc : TypeId × Value → H} {W : World} {base : Nat} {v : Value} {d : DataW H} {p : List MemPlace} (hv : Value.okWide Tryz.prog W .any base 61 v)
    (h : DataW.Trod enc Tryz.prog W 0 (fun _ => true) true 61 v d p) : ∃ l, StrsAt W v l := by
  obtain ⟨a0, len, cap, rfl⟩ := WideShapes.okWide_slice Tryz.underlying61 hv
  obtain ⟨fuel, hf⟩ := h
  rcases ChangeShapes.open_strings Tryz.underlying61 Tryz.underlying9 (by kernel_rfl) hf with ⟨hcs, _⟩ | ⟨a, len', cap', ss, hcs, _, hl, hm, hz, _, hcell, _⟩
  · simp [Value.cells] at hcs
    obtain ⟨rfl, rfl, rfl⟩ := hcs
    exact ⟨[], StrsAt.nil W⟩
  · simp [Value.cells] at hcs
    obtain ⟨rfl, rfl, rfl⟩ := hcs
    exact ⟨_, strsAt_open hl hm (by rw [hz, if_pos rfl]; exact hl) hcell⟩
end Go.Proofs.Pw

/- Arguments of the statements: a module, a slice of modules, as they lie in memory. -/
namespace Go.Proofs.Pw
open Go.RowKit Go.ChangeShapes Go.WideShapes

theorem spot_none {w : World} {a : Addr} {v : Value} (h : w.cell? a = some v) : a.spot = none := by
  unfold World.cell? at h
  split at h
  · split at h
    · cases h
    · rename_i hs
      simpa using hs
  · cases h
theorem add_off (b o i : Nat) : (⟨b, o, none⟩ : Addr).add i = ⟨b, o + i, none⟩ := by unfold Addr.add; split <;> simp_all
set_option maxRecDepth 100000 in
/-- a module's two cells -/
theorem mdTrod {H : Type} {enc : TypeId × Value → H} {w : World} {base : Nat} {spare : Nat → Bool} {held : Bool} {fuel : Nat} {cs : List Value} {x : DataW H × List MemPlace}
    (h : DataW.trod enc Tryz.prog w base spare held fuel 26 cs = some x) : ∃ p v : ByteArray, cs = [.string p, .string v] := by
  obtain ⟨xs, n, _, _, hl, hx, hf⟩ := DataW.trod_struct Tryz.underlying26 h
  have hc : Tryz.prog.cellsOf 26 = 2 := by kernel_rfl
  have hs : Tryz.prog.cellsOf 9 = 1 := by kernel_rfl
  have h0 : DataW.trod enc Tryz.prog w base spare held n 9 ((cs.drop 0).take (Tryz.prog.cellsOf 9)) = xs[0]? := hf 0 _ rfl
  have h1 : DataW.trod enc Tryz.prog w base spare held n 9 ((cs.drop 1).take (Tryz.prog.cellsOf 9)) = xs[1]? := hf 1 _ rfl
  match cs, hl.trans hc with
  | [c0, c1], _ =>
    rw [hs] at h0 h1
    match xs, hx with
    | [x0, x1], _ =>
      obtain ⟨p, e0, _⟩ := DataW.trod_string Tryz.underlying9 h0
      obtain ⟨v, e1, _⟩ := DataW.trod_string Tryz.underlying9 h1
      simp at e0 e1
      exact ⟨p, v, by rw [e0, e1]⟩

set_option maxRecDepth 100000 in
theorem mdOpen {H : Type} {enc : TypeId × Value → H} {W : World} {base : Nat} {v : Value} {d : DataW H} {p : List MemPlace} (hv : Value.okWide Tryz.prog W .any base 26 v)
    (h : DataW.Trod enc Tryz.prog W 0 (fun _ => true) true 26 v d p) : ∃ p v' : ByteArray, v = .agg #[.string p, .string v'] := by
  obtain ⟨cs, rfl, _⟩ := okWide_struct Tryz.underlying26 hv
  obtain ⟨fuel, hf⟩ := h
  obtain ⟨p, v', e⟩ := mdTrod hf
  obtain ⟨l⟩ := cs
  simp [Value.cells] at e
  exact ⟨p, v', by rw [e]⟩

set_option maxRecDepth 100000 in
/-- the cells of a slice of modules -/
theorem modsCells {H : Type} {enc : TypeId × Value → H} {W : World} {fuel : Nat} {cs : List Value} {x : DataW H × List MemPlace}
    (h : DataW.trod enc Tryz.prog W 0 (fun _ => true) true fuel 22 cs = some x) : ∃ a n cap l, cs = [.slice a n cap] ∧ ModsAt W (.slice a n cap) l := by
  rcases Go.Deep.open_slice Tryz.underlying22 h with ⟨rfl, _⟩ | ⟨a, len, cap, m, n, D, Pl, rfl, _, hl, hm, hmm, _, hi⟩
  · exact ⟨none, 0, 0, [], rfl, ModsAt.nil W⟩
  · have hc : Tryz.prog.cellsOf 26 = 2 := by kernel_rfl
    rw [if_pos rfl] at hmm
    have key : ∀ i, i < len → ∃ p v : ByteArray, W.cell? (a.add (i * 2)) = some (.string p) ∧ W.cell? (a.add (i * 2 + 1)) = some (.string v) := fun i h => by
      obtain ⟨cs', h1, h2⟩ := hi i (by omega)
      rw [hc] at h1
      obtain ⟨p, v, rfl⟩ := mdTrod h2
      obtain ⟨_, _, hat⟩ := World.cells?_some h1
      have a0 := hat 0 (by decide)
      have a1 := hat 1 (by decide)
      rw [Go.Deep.add_add] at a0 a1
      exact ⟨p, v, a0, a1⟩
    classical
    let P : Nat → ByteArray := fun i => if h : i < len then (key i h).choose else ByteArray.empty
    let V : Nat → ByteArray := fun i => if h : i < len then (key i h).choose_spec.choose else ByteArray.empty
    refine ⟨some a, len, cap, mdF len P V, rfl, some a, len, cap, P, V, rfl, rfl, hl, by unfold maxLen at hm; exact hm, fun j hj => ?_⟩
    have h0 := (key j hj).choose_spec.choose_spec
    have hs : a.spot = none := by
      have := (key 0 (by omega)).choose_spec.choose_spec.1
      exact spot_none (a := a) this
    obtain ⟨b, o, s⟩ := a
    obtain rfl : s = none := hs
    refine ⟨b, o, rfl, ?_, ?_⟩
    · refine (congrArg W.cell? (add_off b o (j * 2)).symm).trans (h0.1.trans ?_)
      show _ = some (Value.string (if h : j < len then (key j h).choose else ByteArray.empty))
      rw [dif_pos hj]
    · refine (congrArg W.cell? (add_off b o (j * 2 + 1)).symm).trans (h0.2.trans ?_)
      show _ = some (Value.string (if h : j < len then (key j h).choose_spec.choose else ByteArray.empty))
      rw [dif_pos hj]
set_option maxRecDepth 100000 in
theorem modsOpen {H : Type} {enc : TypeId × Value → H} {W : World} {base : Nat} {v : Value} {d : DataW H} {p : List MemPlace} (hv : Value.okWide Tryz.prog W .any base 22 v)
    (h : DataW.Trod enc Tryz.prog W 0 (fun _ => true) true 22 v d p) : ∃ l, ModsAt W v l := by
  obtain ⟨a0, len, cap, rfl⟩ := okWide_slice Tryz.underlying22 hv
  obtain ⟨fuel, hf⟩ := h
  obtain ⟨a, n, c, l, e, hM⟩ := modsCells hf
  simp [Value.cells] at e
  obtain ⟨rfl, rfl, rfl⟩ := e
  exact ⟨l, hM⟩
end Go.Proofs.Pw

/- Arguments of the statements: a file, as it lies in memory. -/
namespace Go.Proofs.Pw
open Go.RowKit Go.ChangeShapes Go.WideShapes

set_option maxRecDepth 100000 in
theorem fileTrod {H : Type} {enc : TypeId × Value → H} {W : World} {fuel : Nat} {cs : List Value} {x : DataW H × List MemPlace}
    (h : DataW.trod enc Tryz.prog W 0 (fun _ => true) true fuel 24 cs = some x) : ∃ (p : ByteArray) (rv xv : Value) (R X : List Md), cs = [.string p, rv, xv] ∧ ModsAt W rv R ∧ ModsAt W xv X := by
  obtain ⟨xs, n, _, _, hl, hx, hf⟩ := DataW.trod_struct Tryz.underlying24 h
  have hc : Tryz.prog.cellsOf 24 = 3 := by kernel_rfl
  have hs : Tryz.prog.cellsOf 9 = 1 := by kernel_rfl
  have hm : Tryz.prog.cellsOf 22 = 1 := by kernel_rfl
  have h0 : DataW.trod enc Tryz.prog W 0 (fun _ => true) true n 9 ((cs.drop 0).take (Tryz.prog.cellsOf 9)) = xs[0]? := hf 0 _ rfl
  have h1 : DataW.trod enc Tryz.prog W 0 (fun _ => true) true n 22 ((cs.drop 1).take (Tryz.prog.cellsOf 22)) = xs[1]? := hf 1 _ rfl
  have h2 : DataW.trod enc Tryz.prog W 0 (fun _ => true) true n 22 ((cs.drop 2).take (Tryz.prog.cellsOf 22)) = xs[2]? := hf 2 _ rfl
  match cs, hl.trans hc with
  | [c0, c1, c2], _ =>
    rw [hs] at h0
    rw [hm] at h1 h2
    match xs, hx with
    | [x0, x1, x2], _ =>
      obtain ⟨p, e0, _⟩ := DataW.trod_string Tryz.underlying9 h0
      obtain ⟨a1, n1, q1, R, e1, hR⟩ := modsCells h1
      obtain ⟨a2, n2, q2, X, e2, hX⟩ := modsCells h2
      simp at e0 e1 e2
      exact ⟨p, _, _, R, X, by rw [e0, e1, e2], hR, hX⟩

set_option maxRecDepth 100000 in
theorem fileOpen {H : Type} {enc : TypeId × Value → H} {W : World} {base : Nat} {v : Value} {d : DataW H} {p : List MemPlace} (hv : Value.okWide Tryz.prog W .any base 24 v)
    (h : DataW.Trod enc Tryz.prog W 0 (fun _ => true) true 24 v d p) : ∃ (p : ByteArray) (rv xv : Value) (R X : List Md), v = .agg #[.string p, rv, xv] ∧ ModsAt W rv R ∧ ModsAt W xv X := by
  obtain ⟨cs, rfl, _⟩ := okWide_struct Tryz.underlying24 hv
  obtain ⟨fuel, hf⟩ := h
  obtain ⟨p, rv, xv, R, X, e, h1, h2⟩ := fileTrod hf
  obtain ⟨l⟩ := cs
  simp [Value.cells] at e
  exact ⟨p, rv, xv, R, X, by rw [e], h1, h2⟩
end Go.Proofs.Pw

/- What every law's proof shares: from a call that returns true and writes nothing that was there, to the row's post; the builder that hands on the listed variables and the world's shape together. No program in sight. -/
namespace Go.Proofs.Pw
open Go.RowKit

theorem trodAll_below {H : Type} {enc : TypeId × Value → H} {P : Program} (hl : laidOutB P = true) {W W' : World} (hb : Below W.heap.size W W') :
    ∀ (ts : List TypeId) (vs : List Value) (ds : List (DataW H)) (ps : List MemPlace), (∀ t ∈ ts, P.readableRec t = true ∧ t < P.types.size) → (∀ x ∈ ps, x.block < W.heap.size) →
      DataW.TrodAll enc P W 0 (fun _ => true) true ts vs ds ps → DataW.TrodAll enc P W' 0 (fun b => decide (b < W.heap.size)) true ts vs ds ps
  | [], [], [], _, _, _, h => h
  | t :: ts, v :: vs, d :: ds, ps, hr, hlt, h => by
    obtain ⟨p, q, h1, h2, rfl⟩ := h
    exact ⟨p, q, Below.trod hl (hr t (by simp)).1 (hr t (by simp)).2 h1 hb (fun x hx => hlt x (by simp [hx])),
      trodAll_below hl hb ts vs ds q (fun u hu => hr u (by simp [hu])) (fun x hx => hlt x (by simp [hx])) h2, rfl⟩
  | [], _ :: _, _, _, _, _, h => h.elim
  | [], [], _ :: _, _, _, _, h => h.elim
  | _ :: _, [], _, _, _, _, h => h.elim
  | _ :: _, _ :: _, [], _, _, _, h => h.elim

theorem law_post {H : Type} {enc : TypeId × Value → H} {P : Program} {fn : Func} {s : ChangeSpec} {tb : TypeId} {W W' : World} {args : Array Value} {ds gs : List (DataW H)} {before : List MemPlace}
    (hl : laidOutB P = true) (hr : (fn.params.toList.all fun t => P.readableRec t && decide (t < P.types.size)) = true) (hres : fn.resultTypes = #[tb]) (htb : P.underlying tb = some .bool)
    (hvars : s.vars = []) (hspec : s.fn H (ds ++ gs) = { results := [.lit (.bool true)], args := ds })
    (hW : DataW.Whole enc P fn.params.toList s.vars false W args.toList ds gs before) (hb : Below W.heap.size W W') :
    s.post enc P fn false true false false W args (.bool true) W' := by
  have hW' := hW
  have hlt := hW.lt
  obtain ⟨p, q, hA, hV, rfl, hfz, _⟩ := hW
  have hlp : ∀ x ∈ p, x.block < W.heap.size := fun x hx => hlt x (by simp [hx])
  rw [List.all_eq_true] at hr
  refine ⟨ds, gs, _, [], p, [], hW', ?_, ?_, ?_, hb.frame _, fun h => by cases h⟩
  · rw [hspec, hres]
    exact ChangeShapes.trodAll_mk1 (shut_bool htb true)
  · rw [hspec]
    exact trodAll_below hl hb _ _ _ _ (fun t ht => by simpa using hr t ht) hlp hA
  · rw [hspec, hvars]
    rfl

theorem law_lifted {H : Type} {enc : TypeId × Value → H} {C : Checked} {os : Os} {f : FuncId} {fn : Func} {s : ChangeSpec} {tb : TypeId} {laid : List (String × DataW Unit)}
    (own : ownKnob C.prog.godebug = none) (started : os.Started) (noInit : C.prog.inits.idxOf? f = none) (hfn : C.prog.funcs[f]? = some fn)
    (hl : laidOutB C.prog = true) (hr : (fn.params.toList.all fun t => C.prog.readableRec t && decide (t < C.prog.types.size)) = true) (hres : fn.resultTypes = #[tb]) (htb : C.prog.underlying tb = some .bool)
    (hvars : s.vars = [])
    (witness : ∃ (w : World) (tape : Tape) (i : Input), w.os = os ∧ (w.forCall tape i).Shaped C.prog ∧ i.vars = [] ∧ Input.okWide C.prog (w.forCall tape i) .any w.heap.size f i ∧
      ((s.pre enc C.prog fn [] false (w.forCall tape i).memory i.args ∧ laidMetH C.prog laid (w.forCall tape i).memory) ∧ sizedMet enc C.prog fn (OpenSpec.ofChange s) false (w.forCall tape i).memory i.args) ∧ ({} : Assume).holds C.prog (lone (Frame.enter C.prog f i.args .normal) [] (w.forCall tape i)))
    (contract : ∀ (W : World) (base : Nat) (args : Array Value) (ds gs : List (DataW H)) (p q : List MemPlace),
      (∀ (j : Nat) t v, fn.params[j]? = some t → args[j]? = some v → Value.okWide C.prog W .any base t v) →
      DataW.TrodAll enc C.prog W 0 (fun _ => true) true fn.params.toList args.toList ds p → DataW.TrodVars enc C.prog W (fun _ => true) s.vars gs q →
      (∀ x ∈ p, x.block < W.heap.size) →
      (DataW.weightsEach C.prog (fn.params.toList ++ s.plain.varTypes C.prog) (ds ++ gs)).all (· ≤ reachBytes) = true → laidMetH C.prog laid W → W.ShapedOpen C.prog →
      s.fn H (ds ++ gs) = { results := [.lit (.bool true)], args := ds } ∧ Calls C.prog f args W fun e W' => e = .returned (.bool true) ∧ Below W.heap.size W W') :
    ReturnsInHanded {} C os f .any (fun w args => (s.pre enc C.prog fn [] false w args ∧ laidMetH C.prog laid w) ∧ sizedMet enc C.prog fn (OpenSpec.ofChange s) false w args) (s.post enc C.prog fn false true false false) := by
  refine returnsInHanded_of_calls own started noInit witness ?_
  intro w tape i _ hsh _ hok hpre _
  obtain ⟨_, _, _, fn', hfn', _, _, _, _, hval⟩ := hok
  obtain rfl : fn' = fn := Option.some.inj (hfn'.symm.trans hfn)
  obtain ⟨⟨⟨ds, gs, before, hw, _⟩, hx⟩, hz⟩ := hpre
  have hw' := DataW.Whole.of_heap (w' := w.forCall tape i) (by rfl) hw
  have hlt := hw'.lt
  obtain ⟨p, q, hA, hV, hpq, _, _⟩ := id hw'
  obtain ⟨hspec, hcall⟩ := contract (w.forCall tape i) w.heap.size i.args ds gs p q hval hA hV (fun x hx => hlt x (by rw [hpq]; simp [hx])) (hz.weights hw) (hx.of_heap (by rfl)) hsh
  refine hcall.mono fun e W' ⟨he, hb⟩ => ?_
  subst he
  exact ChangeSpec.post_blind (law_post hl hr hres htb hvars hspec hw' hb)
end Go.Proofs.Pw

/- Closed facts of the seat's program that every law's last text uses. -/
namespace Go.Proofs.Pw
open Go.RowKit
theorem Tryz.factLaid : laidOutB Tryz.prog = true := by kernel_rfl
theorem Tryz.factMaps : mapsRowed Tryz.prog = true := by kernel_rfl
end Go.Proofs.Pw
