/- ver.Split: its walk. Conditions: EnvP; a text of at most 1000000000 bytes. -/
import Derived.Test.YtfkimddlgopgbaaGreatDoorVer
import Derived.Test.YtfkimddlgopgbaaGreatDoorPat
import Derived.RegionTactic
import Derived.BigRegion
namespace Go.Proofs.Pw
open Go.RowKit
open Go.Lib hiding intOf

theorem cut_calls (s sep : ByteArray) (w : World) (hE : EnvM w) (hs : s.size ≤ 4000000000) :
    Calls Tryz.prog 48 #[.string s, .string sep] w fun e w' => e = .returned (.tuple #[.string ⟨(Lib.cut s.data.toList sep.data.toList).1.toArray⟩, .string ⟨(Lib.cut s.data.toList sep.data.toList).2.1.toArray⟩, .bool (Lib.cut s.data.toList sep.data.toList).2.2]) ∧ Below w.heap.size w w' := by
  obtain ⟨m, hm⟩ := hE.maxLen
  refine (Tryz.strings_Cut s sep m w (by omega) hm).mono ?_
  rintro e w' ⟨rfl, n, rfl⟩
  exact ⟨rfl, Below.drewN (Below.refl _ _) _⟩

theorem cut_le (s sep : Str) : (cut s sep).1.length ≤ s.length ∧ (cut s sep).2.1.length ≤ s.length := by
  unfold cut
  split
  · exact ⟨by simp [List.length_take]; omega, by simp⟩
  · exact ⟨Nat.le_refl _, by simp⟩

/-- a slice of texts, as it is read -/
def StrsAt (w : World) (v : Value) (l : List Str) : Prop :=
  ∃ a n cap L, v = .slice a n cap ∧ l = lstF n L ∧ n ≤ cap ∧ cap ≤ 9223372036854775807 ∧ ∀ j, j < n → ∃ b o, a = some ⟨b, o, none⟩ ∧ w.cell? ⟨b, o + j, none⟩ = some (.string (L j))
theorem StrsAt.below {w w' : World} {v : Value} {l : List Str} (h : StrsAt w v l) (hb : Below w.heap.size w w') : StrsAt w' v l := by
  obtain ⟨a, n, cap, L, h1, h2, h3, h4, h5⟩ := h
  exact ⟨a, n, cap, L, h1, h2, h3, h4, fun j hj => let ⟨b, o, e1, e2⟩ := h5 j hj; ⟨b, o, e1, Below.cell_some hb e2⟩⟩
theorem StrsAt.nil (w : World) : StrsAt w (.slice none 0 0) [] := ⟨none, 0, 0, fun _ => ByteArray.empty, rfl, rfl, Nat.le_refl _, by decide, fun j hj => absurd hj (Nat.not_lt_zero _)⟩

/-- a fresh Parts in its box -/
structure Box4 (w : World) (b : Nat) (v0 v1 v2 v3 : Value) : Prop where
  c0 : w.cell? ⟨b, 0, none⟩ = some v0
  c1 : w.cell? ⟨b, 1, none⟩ = some v1
  c2 : w.cell? ⟨b, 2, none⟩ = some v2
  c3 : w.cell? ⟨b, 3, none⟩ = some v3
  fr : ∀ j, w.frozen? ⟨b, j, none⟩ = false
theorem Box4.below {w w' : World} {b : Nat} {v0 v1 v2 v3 : Value} (h : Box4 w b v0 v1 v2 v3) (hb : Below w.heap.size w w') : Box4 w' b v0 v1 v2 v3 :=
  ⟨Below.cell_some hb h.c0, Below.cell_some hb h.c1, Below.cell_some hb h.c2, Below.cell_some hb h.c3, fun j => (hb.frozen (p := ⟨b, j, none⟩) (show b < w.heap.size from lt_of_cell h.c0)).trans (h.fr j)⟩
theorem box4_alloc (w : World) (v0 v1 v2 v3 : Value) (t : TypeId) : Box4 (w.alloc (.cells #[v0, v1, v2, v3] t)) w.heap.size v0 v1 v2 v3 :=
  ⟨by simp, by simp, by simp, by simp, fun j => by simp⟩

set_option maxHeartbeats 1000000 in
/-- what is no version by its outer form -/
theorem verSplit_form (ks : List Nat) (A : Nat → Addr) (s : ByteArray) (w : World) (hE : EnvP ks A w) (hs : s.size ≤ 1000000000) (hf : hasPrefix s.data.toList [118] = false ∨ (hasPrefix s.data.toList [118] = true ∧ (verWords s.data.toList).length ≠ 3)) :
    Calls Tryz.prog 82 #[.string s] w fun e w' => e = .returned (.tuple #[.agg #[.int .i64 0, .int .i64 0, .int .i64 0, .slice none 0 0], errV A 1]) ∧ Below w.heap.size w w' := by
  have ht : (trimPrefix s.data.toList [118]).length ≤ s.size := by rw [size_eq s]; exact trimPrefix_le _ _
  have hc1 := (cut_le (trimPrefix s.data.toList [118]) [45]).1
  have ht4 : (⟨(trimPrefix s.data.toList [118]).toArray⟩ : ByteArray).size ≤ 4000000000 := Nat.le_trans ht (by omega)
  have hc4 : (⟨(cut (trimPrefix s.data.toList [118]) [45]).1.toArray⟩ : ByteArray).size ≤ 4000000000 := Nat.le_trans hc1 (Nat.le_trans ht (by omega))
  have h5 : ∀ n, (Hid (lstF n (splitL ⟨(cut (trimPrefix s.data.toList [118]) [45]).1.toArray⟩ ⟨#[46]⟩) = split (cut (trimPrefix s.data.toList [118]) [45]).1 [46])) → n = (verWords s.data.toList).length := fun n h => by
    have := congrArg List.length h.out
    rw [lstF_length] at this
    exact this
  have hgo : (hasPrefix s.data.toList [118] = false ∨ (hasPrefix s.data.toList [118] = true ∧ (((verWords s.data.toList).length : Nat) : Int) ≠ 3)) := by
    rcases hf with hf | ⟨hf, hl⟩
    · exact .inl hf
    · exact .inr ⟨hf, by omega⟩
  clear hf
  rcases hgo with hf | ⟨hf, hl⟩
  all_goals
    go_enter Tryz.func82, Tryz.ntmps82
    go_wp2_with fail
    have hb0 := below_alloc w (.cells #[.int .i64 0, .int .i64 0, .int .i64 0, .slice none 0 0] 128)
    refine (cutPrefix_calls _ _ _).mono ?_
    rintro e w1 ⟨rfl, hw1⟩
    subst hw1
    rw [show (⟨#[118]⟩ : ByteArray).data.toList = [118] from rfl, hf]
    have hE0 := hE.below hb0
    go_wp2_with fail
    refine (cut_calls _ _ _ hE0.m ht4).mono ?_
    rintro e w2 ⟨rfl, hb1⟩
    have hE1 := hE0.below hb1
    have hb01 := below_step hb0 hb1
    have hz0 := (box4_alloc w (.int .i64 0) (.int .i64 0) (.int .i64 0) (.slice none 0 0) 128).below hb1
    go_wp2_with fail
    refine (split_calls _ ⟨#[46]⟩ _ hE1.m hc4 (by decide)).mono ?_
    rintro e w3 ⟨n, rfl, hn1, hn2, HL, hb2, hc2, hz2⟩
    have hn := h5 n HL
    have hE2 := hE1.below hb2
    have hb02 := below_step hb01 hb2
    have hz2 := hz0.below hb2
    have g1 := hE2.errs.var 1 hE2.has.1
    simp only [errG] at g1
    have hn3 : n ≤ 1000000001 := Nat.le_trans hn2 (Nat.succ_le_succ (Nat.le_trans hc1 (Nat.le_trans ht hs)))
    try rw [← hn, ← beq_eq_false_iff_ne] at hl
    clear hn HL h5 hc2 hb1 hb2 hb01 hE0 hE1 hE2
    obtain ⟨z0, z1, z2, z3, zf⟩ := hz2
    have zf0 := zf 0
    have zf1 := zf 1
    have zf2 := zf 2
    have zf3 := zf 3
    clear zf
    have g0 := hE.errs.var 1 hE.has.1
    simp only [errG] at g0
    have hne : 5 ≠ w.heap.size := Nat.ne_of_lt (lt_of_cell g0)
    clear g0
    have hne' : w.heap.size ≠ 5 := hne.symm
    go_wp2_with fail
    go_region
    go_wp2_with fail
    have hne3 := hne
    refine bodyPost_ret (v := .tuple #[.agg #[.int .i64 0, .int .i64 0, .int .i64 0, .slice none 0 0], errV A 1]) (by simp [results, Tryz.results82, go_sem, *, errV]) rfl ⟨rfl, ?_⟩
    exact ((((hb02.setCell (Nat.le_refl _) _).setCell (Nat.le_refl _) _).setCell (Nat.le_refl _) _).setCell (Nat.le_refl _) _).drew
end Go.Proofs.Pw
