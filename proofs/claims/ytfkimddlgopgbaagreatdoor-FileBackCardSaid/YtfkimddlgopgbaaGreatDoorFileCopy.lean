/- file.Copy. -/
import Derived.Test.YtfkimddlgopgbaaGreatDoorSlModK
import Derived.Test.YtfkimddlgopgbaaGreatDoorFileLine
import Derived.Deep.RegionWith
namespace Go.Proofs.Pw
open Go.RowKit
open Go.Lib hiding intOf

theorem own_form {w : World} {base e k n : Nat} {v : Value} {xs : List Value} (h : w.ownsRow base e k v n xs) : ∃ a m c, v = .slice a m c := by
  rcases h.2 with ⟨rfl, _⟩ | ⟨g, cap, cur, rfl, _⟩
  · exact ⟨_, _, _, rfl⟩
  · exact ⟨_, _, _, rfl⟩
theorem Box3f.belowd {w w' : World} {b : Nat} {v0 v1 v2 : Value} (h : Box3f w b v0 v1 v2) (hb : Below w.drew.heap.size w.drew w') : Box3f w' b v0 v1 v2 :=
  Box3f.below (w := w.drew) ⟨h.c0, h.c1, h.c2, h.fz⟩ hb

theorem own_base {w : World} {base base' e k n : Nat} {v : Value} {xs : List Value} (h : w.ownsRow base' e k v n xs) (hb : base ≤ base') : w.ownsRow base e k v n xs := by
  refine ⟨h.1, ?_⟩
  rcases h.2 with h2 | ⟨g, c, cur, rfl, h2, h3⟩
  · exact .inl h2
  · exact .inr ⟨g, c, cur, rfl, by omega, h3⟩
theorem own_ne {w : World} {base e k n b : Nat} {v : Value} {xs : List Value} (h : w.ownsRow base e k v n xs) (hb : b < base) : v.ownBlock ≠ some b := fun e => by
  have := (h.lt b e).1
  omega

/-- what Copy hands back: the same lists in rows of their own -/
def CopyOut (base : Nat) (p : ByteArray) (R X : List Md) (w : World) (e : Ending) (w' : World) : Prop :=
  (∃ v1 v2 L1 L2, e = .returned (.agg #[.string p, v1, v2]) ∧ R = mdTs L1 ∧ X = mdTs L2 ∧ w'.ownsRow base 26 2 v1 L1.length (mdVs L1) ∧ w'.ownsRow base 26 2 v2 L2.length (mdVs L2) ∧ (∀ b, v1.ownBlock = some b → v2.ownBlock ≠ some b)) ∧ Below base w w'

set_option maxHeartbeats 2000000 in
set_option maxRecDepth 100000 in
theorem fileCopy_calls (p : ByteArray) (rv xv : Value) (R X : List Md) (w : World) (hr : ModsAt w rv R) (hx : ModsAt w xv X) (hR : R.length ≤ 1000000) (hX : X.length ≤ 1000000) :
    Calls Tryz.prog 51 #[.agg #[.string p, rv, xv]] w (CopyOut w.heap.size p R X w) := by
  have hb1 := below_alloc w (.cells #[.string p, rv, xv] 24)
  have hb2 := below_alloc (w.alloc (.cells #[.string p, rv, xv] 24)) (.cells #[.string ⟨#[]⟩, .slice none 0 0, .slice none 0 0] 24)
  have hB := below_step hb1 hb2
  have hz := (box3f_alloc w (.string p) rv xv 24).below hb2
  have hy := box3f_alloc (w.alloc (.cells #[.string p, rv, xv] 24)) (.string ⟨#[]⟩) (.slice none 0 0) (.slice none 0 0) 24
  simp only [World.size_alloc] at hy
  have ho1 := fun W hb => cloneM_calls rv R W (hr.below hb) hR
  have ho2 := fun W hb => cloneM_calls xv X W (hx.below hb) hX
  obtain ⟨a1, n1, c1, _, _, rfl, _⟩ := id hr
  obtain ⟨a3, n3, c3, _, _, rfl, _⟩ := id hx
  replace ho1 := Lib.hid ho1
  replace ho2 := Lib.hid ho2
  clear hb1 hb2 hr hx
  obtain ⟨z0, z1, z2, zf⟩ := id hz
  go_enter Tryz.func51, Tryz.ntmps51
  go_wp2_with fail
  generalize hw2 : (w.alloc (.cells #[.string p, .slice a1 n1 c1, .slice a3 n3 c3] 24)).alloc (.cells #[.string ⟨#[]⟩, .slice none 0 0, .slice none 0 0] 24) = w2 at *
  have hsz : w2.heap.size = w.heap.size + 2 := by rw [← hw2]; simp
  clear hw2
  go_region_with (first
    | (go_at_call_of 88 (Value.slice a1 n1 c1); refine (ho1.out _ ?_).mono ?_; exact hB.drew; rintro e w3 ⟨v1, L1, rfl, hL1, hw3, hb⟩; replace hz := hz.belowd hb; replace hy := hy.belowd hb; replace hB := below_step hB.drew hb; obtain ⟨a5, n5, c5, rfl⟩ := own_form hw3; clear z0 z1 z2 zf; obtain ⟨z0, z1, z2, zf⟩ := id hz)
    | (go_at_call_of 88 (Value.slice a3 n3 c3); refine (ho2.out _ ?_).mono ?_; exact hB; rintro e w4 ⟨v2, L2, rfl, hL2, hw4, hb⟩; replace hz := hz.below hb; replace hy := hy.below hb; replace hB := below_step hB hb; obtain ⟨a6, n6, c6, rfl⟩ := own_form hw4; clear z0 z1 z2 zf; obtain ⟨z0, z1, z2, zf⟩ := id hz))
  all_goals
    have hne12 : ∀ b, (Value.slice a5 n5 c5).ownBlock = some b → (Value.slice a6 n6 c6).ownBlock ≠ some b := fun b h1 => own_ne hw4 (hw3.lt b h1).2
    have hb1 : w.heap.size < w2.drew.heap.size := by simp; omega
    have hb2 : w.heap.size + 1 < w2.drew.heap.size := by simp; omega
    have hs3 := hb.size
    have hs2 : w2.drew.heap.size ≤ w3.heap.size := (by assumption : Below w2.drew.heap.size w2.drew w3).size
    have hrow1 := ownsRow_kept hw3 hb
    have hfin : ∀ u0 u1 u2 u3 u4, CopyOut w.heap.size p R X w (.returned (.agg #[.string p, .slice a5 n5 c5, .slice a6 n6 c6])) (((((w4.setCell ⟨w.heap.size, 1, none⟩ u0).setCell ⟨w.heap.size, 2, none⟩ u1).setCell ⟨w.heap.size + 1, 0, none⟩ u2).setCell ⟨w.heap.size + 1, 1, none⟩ u3).setCell ⟨w.heap.size + 1, 2, none⟩ u4) := fun u0 u1 u2 u3 u4 =>
      ⟨⟨_, _, L1, L2, rfl, hL1, hL2, own_base (ownsRow_set (ownsRow_set (ownsRow_set (ownsRow_set (ownsRow_set hrow1 (own_ne hw3 hb1) u0) (own_ne hw3 hb1) u1) (own_ne hw3 hb2) u2) (own_ne hw3 hb2) u3) (own_ne hw3 hb2) u4) (by omega),
        own_base (ownsRow_set (ownsRow_set (ownsRow_set (ownsRow_set (ownsRow_set hw4 (own_ne hw4 (by omega)) u0) (own_ne hw4 (by omega)) u1) (own_ne hw4 (by omega)) u2) (own_ne hw4 (by omega)) u3) (own_ne hw4 (by omega)) u4) (by omega), hne12⟩,
        ((((hB.setCell (p := ⟨w.heap.size, 1, none⟩) (Nat.le_refl _) u0).setCell (p := ⟨w.heap.size, 2, none⟩) (Nat.le_refl _) u1).setCell (p := ⟨w.heap.size + 1, 0, none⟩) (Nat.le_succ _) u2).setCell (p := ⟨w.heap.size + 1, 1, none⟩) (Nat.le_succ _) u3).setCell (p := ⟨w.heap.size + 1, 2, none⟩) (Nat.le_succ _) u4⟩
    obtain ⟨y0, y1, y2, yf⟩ := id hy
    replace hfin := Lib.hid hfin
    clear hne12 hs3 hs2 hb1 hb2 hrow1 hw3 hw4 hy hz ho1 ho2
    go_wp2_with fail
    refine bodyPost_ret (v := .agg #[.string p, .slice a5 n5 c5, .slice a6 n6 c6]) (by simp [results, Tryz.results51, go_sem, *]) rfl ?_
    exact hfin.out _ _ _ _ _
end Go.Proofs.Pw
