/- Ge: walks and plain laws, joined: Pat VerSplit. Conditions: at each theorem. -/
import Derived.Test.YtmnojbbcaboagaaGreatDoorShelf
import Derived.Test.YtmnojbbcaboagaaGreatDoorGeb
import Derived.Test.YtmnojbbcaboagaaGreatDoorGea
import Derived.WalkKit
import Derived.WalkLawsBesides
import Derived.WalkSpells
import Derived.Test.YtmnojbbcaboagaaGreatDoorGec
import Derived.RegionTactic
import Derived.BigRegion

namespace Go.Proofs.Pw
open Go.RowKit
open Go.Lib hiding intOf
theorem index_calls (s sub : ByteArray) (w : World) (hE : EnvM w) (hs : s.size ≤ 4000000000) :
    Calls Tryz.prog 88 #[.string s, .string sub] w fun e w' => e = .returned (.int .i64 (Lib.index s.data.toList sub.data.toList)) ∧ w = w' := by
  obtain ⟨m, hm⟩ := hE.maxLen
  exact (Tryz.strings_Index s sub m w (by omega) hm).mono fun e w' ⟨h, h2⟩ => ⟨h, h2.symm⟩
theorem contains_calls (s sub : ByteArray) (w : World) (hE : EnvM w) (hs : s.size ≤ 4000000000) :
    Calls Tryz.prog 39 #[.string s, .string sub] w fun e w' => e = .returned (.bool (Lib.contains s.data.toList sub.data.toList)) ∧ w = w' := by
  obtain ⟨m, hm⟩ := hE.maxLen
  exact (Tryz.strings_Contains s sub m w (by omega) hm).mono fun e w' ⟨h, h2⟩ => ⟨h, h2.symm⟩
theorem cutPrefix_calls (s p : ByteArray) (w : World) :
    Calls Tryz.prog 89 #[.string s, .string p] w fun e w' => e = .returned (.tuple #[.string ⟨(Lib.trimPrefix s.data.toList p.data.toList).toArray⟩, .bool (Lib.hasPrefix s.data.toList p.data.toList)]) ∧ w = w' :=
  (Tryz.strings_CutPrefix s p w).mono fun _ _ ⟨h, h2⟩ => ⟨h, h2.symm⟩
theorem cutSuffix_calls (s p : ByteArray) (w : World) (hs : s.size ≤ 4000000000) :
    Calls Tryz.prog 256 #[.string s, .string p] w fun e w' => e = .returned (.tuple #[.string ⟨(Lib.trimSuffix s.data.toList p.data.toList).toArray⟩, .bool (Lib.hasSuffix s.data.toList p.data.toList)]) ∧ w = w' :=
  (Tryz.strings_CutSuffix s p w (by omega)).mono fun e w' ⟨h, h2⟩ => ⟨h, h2.symm⟩
theorem hasSuffix_calls (s p : ByteArray) (w : World) (hs : s.size ≤ 4000000000) :
    Calls Tryz.prog 279 #[.string s, .string p] w fun e w' => e = .returned (.bool (Lib.hasSuffix s.data.toList p.data.toList)) ∧ w = w' :=
  (Tryz.strings_HasSuffix s p w (by omega)).mono fun e w' ⟨h, h2⟩ => ⟨h, h2.symm⟩
theorem split_calls (s sep : ByteArray) (w : World) (hE : EnvM w) (hs : s.size ≤ 4000000000) (h1 : 1 ≤ sep.size) :
    Calls Tryz.prog 36 #[.string s, .string sep] w fun e w' => ∃ n, e = .returned (.slice (some ⟨w.heap.size, 0, none⟩) n n) ∧ 1 ≤ n ∧ n ≤ s.size + 1 ∧
      Hid (lstF n (splitL s sep) = split s.data.toList sep.data.toList) ∧ Below w.heap.size w w' ∧ (∀ j, j < n → w'.cell? ⟨w.heap.size, j, none⟩ = some (.string (splitL s sep j))) ∧ w.heap.size < w'.heap.size := by
  obtain ⟨m, hm⟩ := hE.maxLen
  refine (Tryz.strings_Split s sep m w (by omega) hm h1).mono fun e w' ⟨h, h2⟩ => ?_
  refine ⟨_, h, by omega, by have := countB_le sep h1 s.size s (Nat.le_refl _); omega, splitL_lstF s sep h1, h2 ▸ below_alloc _ _, ?_, by rw [h2]; simp⟩
  intro j hj
  have hl := splitB_all sep h1 0 _ s rfl
  rw [h2, World.cell?_alloc_at _ _ _ _ rfl]
  simp only [List.getElem?_toArray, List.getElem?_map, splitL]
  rw [List.getElem?_eq_getElem (by omega)]
  simp [List.getD_eq_getElem?_getD, List.getElem?_eq_getElem (show j < (splitB sep 0 (countB s sep) s).length by omega)]
theorem matches_nopre (b n cap : Nat) (s p : ByteArray) (w : World) (h1 : 1 ≤ n)
    (hc : w.cell? ⟨b, 0, none⟩ = some (.string p)) (hp : hasPrefix s.data.toList p.data.toList = false) :
    Calls Tryz.prog 255 #[.slice (some ⟨b, 0, none⟩) n cap, .string s] w fun e w' => e = .returned (.bool false) ∧ w = w' := by
  go_enter Tryz.func255, Tryz.ntmps255
  go_wp2_with (go_at_call 89; refine (cutPrefix_calls _ _ _).mono ?_; rintro e w' ⟨rfl, rfl⟩)
  go_ret
  exact ⟨rfl, rfl⟩
theorem matches_one (b cap : Nat) (s p : ByteArray) (w : World)
    (hc : w.cell? ⟨b, 0, none⟩ = some (.string p)) (hp : hasPrefix s.data.toList p.data.toList = true) :
    Calls Tryz.prog 255 #[.slice (some ⟨b, 0, none⟩) 1 cap, .string s] w fun e w' => e = .returned (.bool ((trimPrefix s.data.toList p.data.toList) == [])) ∧ w = w' := by
  go_enter Tryz.func255, Tryz.ntmps255
  go_wp2_with (go_at_call 89; refine (cutPrefix_calls _ _ _).mono ?_; rintro e w' ⟨rfl, rfl⟩)
  go_ret
  refine ⟨?_, rfl⟩
  simp
set_option maxHeartbeats 1000000 in
theorem matches_more (b n cap : Nat) (s : ByteArray) (L : Nat → ByteArray) (w : World) (hE : EnvM w) (h2 : 2 ≤ n) (hb : n ≤ 4000000001) (hcap : n ≤ cap) (hs : s.size ≤ 4000000000)
    (hc : ∀ j, j < n → w.cell? ⟨b, j, none⟩ = some (.string (L j)))
    (hp : hasPrefix s.data.toList (L 0).data.toList = true) :
    Calls Tryz.prog 255 #[.slice (some ⟨b, 0, none⟩) n cap, .string s] w fun e w' => e = .returned (.bool (pmatches (lstF n L) s.data.toList)) ∧ w = w' := by
  have h0 := hc 0 (by omega)
  have hl := hc (n - 1) (by omega)
  have h1'' : ((n : Int) == 1) = false := by simp; omega
  have hcap1 : ¬ cap = 1 := by omega
  have HP := Lib.hid (pmatches_lstF n L s.data.toList h2 hp)
  have hts : (trimPrefix s.data.toList (L 0).data.toList).length ≤ s.size := by
    rw [size_eq s]; exact trimPrefix_le _ _
  go_enter Tryz.func255, Tryz.ntmps255
  go_wp2_with (go_at_call 89; refine (cutPrefix_calls _ _ _).mono ?_; rintro e w' ⟨rfl, rfl⟩)
  go_loop [1, 37] (fun s' i => ∃ (k : Nat) (t : ByteArray), k ≤ n - 2 ∧ i = .int .i64 k ∧ s' = .string t ∧ t.size ≤ s.size ∧ Hid (mids (((lstF n L).tail.dropLast).drop k) t.data.toList = mids ((lstF n L).tail.dropLast) (trimPrefix s.data.toList (L 0).data.toList)))
     (fun _ i => n - (intOf i).toNat)
  case atStart => exact ⟨0, _, by omega, rfl, rfl, hts, rfl⟩
  case round =>
    obtain ⟨k, t, hk, rfl, rfl, htl, HM⟩ := hrel
    by_cases hlt : k < n - 2
    · have hck := hc (1 + k) (by omega)
      have HK := Lib.hid (lstF_mids n L k hlt)
      by_cases hneg : index t.data.toList (L (1 + k)).data.toList < 0
      · go_wp2_with (go_at_call 88; refine (index_calls _ _ _ hE (by omega)).mono ?_; rintro e w' ⟨rfl, rfl⟩)
        go_ret
        refine ⟨?_, rfl⟩
        have := HM.out
        rw [HK.out, mids_miss hneg] at this
        rw [HP.out, ← this]
        rfl
      · obtain ⟨m, hm⟩ : ∃ m : Nat, index t.data.toList (L (1 + k)).data.toList = m := ⟨(index t.data.toList (L (1 + k)).data.toList).toNat, by omega⟩
        have hroom := index_room t.data.toList (L (1 + k)).data.toList (by omega)
        rw [hm, ← size_eq, ← size_eq] at hroom
        have hroom' : m + (L (1 + k)).size ≤ t.size := by omega
        have HI := Lib.hid hm
        clear hm hroom
        go_wp2_with (go_at_call 88; refine (index_calls _ _ _ hE (by omega)).mono ?_; rintro e w' ⟨rfl, rfl⟩; rw [HI.out])
        go_round
        case rel =>
          refine ⟨k + 1, t.extract (m + (L (1 + k)).size) t.size, by omega, by go_num, rfl, by simp; omega, ?_⟩
          have h := HM.out
          rw [HK.out, mids_hit (by rw [HI.out]; omega), HI.out] at h
          rw [extract_to_end, size_eq (L (1 + k))]
          exact h
        case measure => simp [intOf]; omega
    · obtain rfl : k = n - 2 := by omega
      go_wp2_with (go_at_call 279; refine (hasSuffix_calls _ _ _ (by omega)).mono ?_; rintro e w' ⟨rfl, rfl⟩)
      go_ret
      refine ⟨?_, rfl⟩
      have := HM.out
      rw [lstF_mids_end n L h2, mids] at this
      rw [HP.out, ← this]
      rfl
theorem matches_calls (b n cap : Nat) (s : ByteArray) (L : Nat → ByteArray) (w : World) (hE : EnvM w) (h1 : 1 ≤ n) (hb : n ≤ 4000000001) (hcap : n ≤ cap) (hs : s.size ≤ 4000000000)
    (hc : ∀ j, j < n → w.cell? ⟨b, j, none⟩ = some (.string (L j))) :
    Calls Tryz.prog 255 #[.slice (some ⟨b, 0, none⟩) n cap, .string s] w fun e w' => e = .returned (.bool (pmatches (lstF n L) s.data.toList)) ∧ w = w' := by
  cases hp : hasPrefix s.data.toList (L 0).data.toList with
  | false =>
    rw [lstF_zero_not n L _ h1 hp]
    exact matches_nopre b n cap s _ w h1 (hc 0 h1) hp
  | true =>
    by_cases h2 : 2 ≤ n
    · exact matches_more b n cap s L w hE h2 hb hcap hs hc hp
    · obtain rfl : n = 1 := by omega
      rw [lstF_one L _ hp]
      exact matches_one b cap s _ w (hc 0 h1) hp
set_option maxHeartbeats 1000000 in
theorem match_calls (p s : ByteArray) (w : World) (hE : EnvM w) (hp : p.size ≤ 4000000000) (hs : s.size ≤ 4000000000) :
    Calls Tryz.prog 204 #[.string p, .string s] w fun e w' => e = .returned (.bool (pMatch p.data.toList s.data.toList)) ∧ Below w.heap.size w w' := by
  have ht : (trimSuffix p.data.toList slashDots).length ≤ p.size := by rw [size_eq p]; exact trimSuffix_le _ _
  have HD := Lib.hid (show pMatch p.data.toList s.data.toList = (pmatches (split p.data.toList dots) s.data.toList || (hasSuffix p.data.toList slashDots && pmatches (split (trimSuffix p.data.toList slashDots) dots) s.data.toList)) from rfl)
  generalize hM : pMatch p.data.toList s.data.toList = M at HD ⊢
  clear hM
  go_enter Tryz.func204, Tryz.ntmps204
  go_wp2_with fail
  refine (split_calls _ ⟨#[46, 46, 46]⟩ _ hE hp (by decide)).mono ?_
  rintro e w1 ⟨n, rfl, hn1, hn2, HL, hb1, hc1, hz1⟩
  have hE1 := hE.below hb1
  go_wp2_with fail
  refine (matches_calls _ _ _ _ _ _ hE1 hn1 (by omega) (Nat.le_refl _) hs hc1).mono ?_
  rintro e w2 ⟨rfl, rfl⟩
  rw [HL.out]
  cases h1 : pmatches (split p.data.toList (⟨#[46, 46, 46]⟩ : ByteArray).data.toList) s.data.toList with
  | true =>
    go_wp2_with fail
    go_ret
    refine ⟨?_, hb1⟩
    rw [HD.out, show pmatches (split p.data.toList dots) s.data.toList = true from h1]
    rfl
  | false =>
    have H1 := Lib.hid h1
    clear h1
    go_wp2_with fail
    refine (cutSuffix_calls _ _ _ hp).mono ?_
    rintro e w2 ⟨rfl, rfl⟩
    cases h2 : hasSuffix p.data.toList (⟨#[47, 46, 46, 46]⟩ : ByteArray).data.toList with
    | false =>
      go_wp2_with fail
      go_ret
      refine ⟨?_, hb1⟩
      rw [HD.out, show pmatches (split p.data.toList dots) s.data.toList = false from H1.out, show hasSuffix p.data.toList slashDots = false from h2]
      rfl
    | true =>
      have H2 := Lib.hid h2
      clear h2
      go_wp2_with fail
      refine (split_calls _ ⟨#[46, 46, 46]⟩ _ hE1 (by exact Nat.le_trans ht hp) (by decide)).mono ?_
      rintro e w2 ⟨m, rfl, hm1, hm2, HM, hb2, hc2, hz2⟩
      have hE2 := hE1.below hb2
      have hm3 : m ≤ p.size + 1 := Nat.le_trans hm2 (Nat.succ_le_succ ht)
      go_wp2_with fail
      refine (matches_calls _ _ _ _ _ _ hE2 hm1 (by omega) (Nat.le_refl _) hs hc2).mono ?_
      rintro e w3 ⟨rfl, rfl⟩
      rw [HM.out]
      go_wp2_with fail
      go_ret
      refine ⟨?_, below_step hb1 hb2⟩
      rw [HD.out, show pmatches (split p.data.toList dots) s.data.toList = false from H1.out, show hasSuffix p.data.toList slashDots = true from H2.out]
      rfl
theorem wild_calls (p : ByteArray) (w : World) (hE : EnvM w) (hp : p.size ≤ 4000000000) :
    Calls Tryz.prog 16 #[.string p] w fun e w' => e = .returned (.bool (contains p.data.toList dots)) ∧ w = w' := by
  go_enter Tryz.func16, Tryz.ntmps16
  go_wp2_with (go_at_call 39; refine (contains_calls _ _ _ hE hp).mono ?_; rintro e w' ⟨rfl, rfl⟩)
  go_ret
  exact ⟨rfl, rfl⟩
end Go.Proofs.Pw

namespace Go.Proofs.Pw
open Go.RowKit
open Go.Lib hiding intOf
theorem cut_calls (s sep : ByteArray) (w : World) (hE : EnvM w) (hs : s.size ≤ 4000000000) :
    Calls Tryz.prog 90 #[.string s, .string sep] w fun e w' => e = .returned (.tuple #[.string ⟨(Lib.cut s.data.toList sep.data.toList).1.toArray⟩, .string ⟨(Lib.cut s.data.toList sep.data.toList).2.1.toArray⟩, .bool (Lib.cut s.data.toList sep.data.toList).2.2]) ∧ Below w.heap.size w w' := by
  obtain ⟨m, hm⟩ := hE.maxLen
  refine (Tryz.strings_Cut s sep m w (by omega) hm).mono ?_
  rintro e w' ⟨rfl, n, rfl⟩
  exact ⟨rfl, Below.drewN (Below.refl _ _) _⟩
theorem cut_le (s sep : Str) : (cut s sep).1.length ≤ s.length ∧ (cut s sep).2.1.length ≤ s.length := by
  unfold cut
  split
  · exact ⟨by simp [List.length_take]; omega, by simp⟩
  · exact ⟨Nat.le_refl _, by simp⟩
def StrsAt (w : World) (v : Value) (l : List Str) : Prop :=
  ∃ a n cap L, v = .slice a n cap ∧ l = lstF n L ∧ n ≤ cap ∧ cap ≤ 9223372036854775807 ∧ ∀ j, j < n → ∃ b o, a = some ⟨b, o, none⟩ ∧ w.cell? ⟨b, o + j, none⟩ = some (.string (L j))
theorem StrsAt.below {w w' : World} {v : Value} {l : List Str} (h : StrsAt w v l) (hb : Below w.heap.size w w') : StrsAt w' v l := by
  obtain ⟨a, n, cap, L, h1, h2, h3, h4, h5⟩ := h
  exact ⟨a, n, cap, L, h1, h2, h3, h4, fun j hj => let ⟨b, o, e1, e2⟩ := h5 j hj; ⟨b, o, e1, Below.cell_some hb e2⟩⟩
theorem StrsAt.nil (w : World) : StrsAt w (.slice none 0 0) [] := ⟨none, 0, 0, fun _ => ByteArray.empty, rfl, rfl, Nat.le_refl _, by decide, fun j hj => absurd hj (Nat.not_lt_zero _)⟩
structure Box4 (w : World) (b : Nat) (v0 v1 v2 v3 : Value) : Prop where
  c0 : w.cell? ⟨b, 0, none⟩ = some v0
  c1 : w.cell? ⟨b, 1, none⟩ = some v1
  c2 : w.cell? ⟨b, 2, none⟩ = some v2
  c3 : w.cell? ⟨b, 3, none⟩ = some v3
  fr : ∀ j, w.frozen? ⟨b, j, none⟩ = false
theorem Box4.below {w w' : World} {b : Nat} {v0 v1 v2 v3 : Value} (h : Box4 w b v0 v1 v2 v3) (hb : Below w.heap.size w w') : Box4 w' b v0 v1 v2 v3 :=
  ⟨Below.cell_some hb h.c0, Below.cell_some hb h.c1, Below.cell_some hb h.c2, Below.cell_some hb h.c3, fun j => (hb.frozen (p := ⟨b, j, none⟩) (show b < w.heap.size from lt_of_cell h.c0)).trans (h.fr j)⟩
theorem box4_alloc (w : World) (v0 v1 v2 v3 : Value) (t : TypeId) : Box4 (w.alloc (.cells #[v0, v1, v2, v3] t)) w.heap.size v0 v1 v2 v3 :=
  ⟨by simp, by simp, by simp, by simp, fun j => by simp⟩
set_option maxHeartbeats 1000000 in
theorem verSplit_form (ks : List Nat) (A : Nat → Addr) (s : ByteArray) (w : World) (hE : EnvP ks A w) (hs : s.size ≤ 1000000000) (hf : hasPrefix s.data.toList [118] = false ∨ (hasPrefix s.data.toList [118] = true ∧ (verWords s.data.toList).length ≠ 3)) :
    Calls Tryz.prog 40 #[.string s] w fun e w' => e = .returned (.tuple #[.agg #[.int .i64 0, .int .i64 0, .int .i64 0, .slice none 0 0], errV A 1]) ∧ Below w.heap.size w w' := by
  have ht : (trimPrefix s.data.toList [118]).length ≤ s.size := by rw [size_eq s]; exact trimPrefix_le _ _
  have hc1 := (cut_le (trimPrefix s.data.toList [118]) [45]).1
  have ht4 : (⟨(trimPrefix s.data.toList [118]).toArray⟩ : ByteArray).size ≤ 4000000000 := Nat.le_trans ht (by omega)
  have hc4 : (⟨(cut (trimPrefix s.data.toList [118]) [45]).1.toArray⟩ : ByteArray).size ≤ 4000000000 := Nat.le_trans hc1 (Nat.le_trans ht (by omega))
  have h5 : ∀ n, (Hid (lstF n (splitL ⟨(cut (trimPrefix s.data.toList [118]) [45]).1.toArray⟩ ⟨#[46]⟩) = split (cut (trimPrefix s.data.toList [118]) [45]).1 [46])) → n = (verWords s.data.toList).length := fun n h => by
    have := congrArg List.length h.out
    rw [lstF_length] at this
    exact this
  have hgo : (hasPrefix s.data.toList [118] = false ∨ (hasPrefix s.data.toList [118] = true ∧ (((verWords s.data.toList).length : Nat) : Int) ≠ 3)) := by
    rcases hf with hf | ⟨hf, hl⟩
    · exact .inl hf
    · exact .inr ⟨hf, by omega⟩
  clear hf
  rcases hgo with hf | ⟨hf, hl⟩
  all_goals
    go_enter Tryz.func40, Tryz.ntmps40
    go_wp2_with fail
    have hb0 := below_alloc w (.cells #[.int .i64 0, .int .i64 0, .int .i64 0, .slice none 0 0] 83)
    refine (cutPrefix_calls _ _ _).mono ?_
    rintro e w1 ⟨rfl, hw1⟩
    subst hw1
    rw [show (⟨#[118]⟩ : ByteArray).data.toList = [118] from rfl, hf]
    have hE0 := hE.below hb0
    go_wp2_with fail
    refine (cut_calls _ _ _ hE0.m ht4).mono ?_
    rintro e w2 ⟨rfl, hb1⟩
    have hE1 := hE0.below hb1
    have hb01 := below_step hb0 hb1
    have hz0 := (box4_alloc w (.int .i64 0) (.int .i64 0) (.int .i64 0) (.slice none 0 0) 83).below hb1
    go_wp2_with fail
    refine (split_calls _ ⟨#[46]⟩ _ hE1.m hc4 (by decide)).mono ?_
    rintro e w3 ⟨n, rfl, hn1, hn2, HL, hb2, hc2, hz2⟩
    have hn := h5 n HL
    have hE2 := hE1.below hb2
    have hb02 := below_step hb01 hb2
    have hz2 := hz0.below hb2
    have g1 := hE2.errs.var 1 hE2.has.1
    simp only [errG] at g1
    have hn3 : n ≤ 1000000001 := Nat.le_trans hn2 (Nat.succ_le_succ (Nat.le_trans hc1 (Nat.le_trans ht hs)))
    try rw [← hn, ← beq_eq_false_iff_ne] at hl
    clear hn HL h5 hc2 hb1 hb2 hb01 hE0 hE1 hE2
    obtain ⟨z0, z1, z2, z3, zf⟩ := hz2
    have zf0 := zf 0
    have zf1 := zf 1
    have zf2 := zf 2
    have zf3 := zf 3
    clear zf
    have g0 := hE.errs.var 1 hE.has.1
    simp only [errG] at g0
    have hne : 1 ≠ w.heap.size := Nat.ne_of_lt (lt_of_cell g0)
    clear g0
    have hne' : w.heap.size ≠ 1 := hne.symm
    go_wp2_with fail
    go_region
    go_wp2_with fail
    have hne3 := hne
    refine bodyPost_ret (v := .tuple #[.agg #[.int .i64 0, .int .i64 0, .int .i64 0, .slice none 0 0], errV A 1]) (by simp [results, Tryz.results40, go_sem, *, errV]) rfl ⟨rfl, ?_⟩
    exact ((((hb02.setCell (Nat.le_refl _) _).setCell (Nat.le_refl _) _).setCell (Nat.le_refl _) _).setCell (Nat.le_refl _) _).drew
end Go.Proofs.Pw
