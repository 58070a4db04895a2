/- The walks of package pat: matches, Match, Wild: what each computes, in the words of XMath. Conditions: texts of at most 4000000000 bytes; internal/bytealg.MaxLen holds some int. -/
import Derived.Test.YtaelindfneoajaaDoorShelf
import Derived.Test.YtaelindfneoajaaDoorWorld
import Derived.Test.YtaelindfneoajaaDoorMath
import Derived.WalkKit
import Derived.WalkLawsBesides
import Derived.WalkSpells
namespace Go.Proofs.Pw
open Go.RowKit
open Go.Lib hiding intOf

theorem index_calls (s sub : ByteArray) (w : World) (hE : EnvM w) (hs : s.size ≤ 4000000000) :
    Calls Tryd.prog 12 #[.string s, .string sub] w fun e w' => e = .returned (.int .i64 (Lib.index s.data.toList sub.data.toList)) ∧ w = w' := by
  obtain ⟨m, hm⟩ := hE.maxLen
  exact (Tryd.strings_Index s sub m w (by omega) hm).mono fun e w' ⟨h, h2⟩ => ⟨h, h2.symm⟩
theorem contains_calls (s sub : ByteArray) (w : World) (hE : EnvM w) (hs : s.size ≤ 4000000000) :
    Calls Tryd.prog 10 #[.string s, .string sub] w fun e w' => e = .returned (.bool (Lib.contains s.data.toList sub.data.toList)) ∧ w = w' := by
  obtain ⟨m, hm⟩ := hE.maxLen
  exact (Tryd.strings_Contains s sub m w (by omega) hm).mono fun e w' ⟨h, h2⟩ => ⟨h, h2.symm⟩
theorem cutPrefix_calls (s p : ByteArray) (w : World) :
    Calls Tryd.prog 11 #[.string s, .string p] w fun e w' => e = .returned (.tuple #[.string ⟨(Lib.trimPrefix s.data.toList p.data.toList).toArray⟩, .bool (Lib.hasPrefix s.data.toList p.data.toList)]) ∧ w = w' :=
  (Tryd.strings_CutPrefix s p w).mono fun _ _ ⟨h, h2⟩ => ⟨h, h2.symm⟩
theorem cutSuffix_calls (s p : ByteArray) (w : World) (hs : s.size ≤ 4000000000) :
    Calls Tryd.prog 9 #[.string s, .string p] w fun e w' => e = .returned (.tuple #[.string ⟨(Lib.trimSuffix s.data.toList p.data.toList).toArray⟩, .bool (Lib.hasSuffix s.data.toList p.data.toList)]) ∧ w = w' :=
  (Tryd.strings_CutSuffix s p w (by omega)).mono fun e w' ⟨h, h2⟩ => ⟨h, h2.symm⟩
theorem hasSuffix_calls (s p : ByteArray) (w : World) (hs : s.size ≤ 4000000000) :
    Calls Tryd.prog 13 #[.string s, .string p] w fun e w' => e = .returned (.bool (Lib.hasSuffix s.data.toList p.data.toList)) ∧ w = w' :=
  (Tryd.strings_HasSuffix s p w (by omega)).mono fun e w' ⟨h, h2⟩ => ⟨h, h2.symm⟩

/-- strings.Split: a new row of pieces -/
theorem split_calls (s sep : ByteArray) (w : World) (hE : EnvM w) (hs : s.size ≤ 4000000000) (h1 : 1 ≤ sep.size) :
    Calls Tryd.prog 8 #[.string s, .string sep] w fun e w' => ∃ n, e = .returned (.slice (some ⟨w.heap.size, 0, none⟩) n n) ∧ 1 ≤ n ∧ n ≤ s.size + 1 ∧
      Hid (lstF n (splitL s sep) = split s.data.toList sep.data.toList) ∧ Below w.heap.size w w' ∧ (∀ j, j < n → w'.cell? ⟨w.heap.size, j, none⟩ = some (.string (splitL s sep j))) ∧ w.heap.size < w'.heap.size := by
  obtain ⟨m, hm⟩ := hE.maxLen
  refine (Tryd.strings_Split s sep m w (by omega) hm h1).mono fun e w' ⟨h, h2⟩ => ?_
  refine ⟨_, h, by omega, by have := countB_le sep h1 s.size s (Nat.le_refl _); omega, splitL_lstF s sep h1, h2 ▸ below_alloc _ _, ?_, by rw [h2]; simp⟩
  intro j hj
  have hl := splitB_all sep h1 0 _ s rfl
  rw [h2, World.cell?_alloc_at _ _ _ _ rfl]
  simp only [List.getElem?_toArray, List.getElem?_map, splitL]
  rw [List.getElem?_eq_getElem (by omega)]
  simp [List.getD_eq_getElem?_getD, List.getElem?_eq_getElem (show j < (splitB sep 0 (countB s sep) s).length by omega)]

theorem matches_nopre (b n cap : Nat) (s p : ByteArray) (w : World) (h1 : 1 ≤ n)
    (hc : w.cell? ⟨b, 0, none⟩ = some (.string p)) (hp : hasPrefix s.data.toList p.data.toList = false) :
    Calls Tryd.prog 7 #[.slice (some ⟨b, 0, none⟩) n cap, .string s] w fun e w' => e = .returned (.bool false) ∧ w = w' := by
  go_enter Tryd.func7, Tryd.ntmps7
  go_wp2_with (go_at_call 11; refine (cutPrefix_calls _ _ _).mono ?_; rintro e w' ⟨rfl, rfl⟩)
  go_ret
  exact ⟨rfl, rfl⟩

theorem matches_one (b cap : Nat) (s p : ByteArray) (w : World)
    (hc : w.cell? ⟨b, 0, none⟩ = some (.string p)) (hp : hasPrefix s.data.toList p.data.toList = true) :
    Calls Tryd.prog 7 #[.slice (some ⟨b, 0, none⟩) 1 cap, .string s] w fun e w' => e = .returned (.bool ((trimPrefix s.data.toList p.data.toList) == [])) ∧ w = w' := by
  go_enter Tryd.func7, Tryd.ntmps7
  go_wp2_with (go_at_call 11; refine (cutPrefix_calls _ _ _).mono ?_; rintro e w' ⟨rfl, rfl⟩)
  go_ret
  refine ⟨?_, rfl⟩
  simp

set_option maxHeartbeats 1000000 in
theorem matches_more (b n cap : Nat) (s : ByteArray) (L : Nat → ByteArray) (w : World) (hE : EnvM w) (h2 : 2 ≤ n) (hb : n ≤ 4000000001) (hcap : n ≤ cap) (hs : s.size ≤ 4000000000)
    (hc : ∀ j, j < n → w.cell? ⟨b, j, none⟩ = some (.string (L j)))
    (hp : hasPrefix s.data.toList (L 0).data.toList = true) :
    Calls Tryd.prog 7 #[.slice (some ⟨b, 0, none⟩) n cap, .string s] w fun e w' => e = .returned (.bool (pmatches (lstF n L) s.data.toList)) ∧ w = w' := by
  have h0 := hc 0 (by omega)
  have hl := hc (n - 1) (by omega)
  have h1'' : ((n : Int) == 1) = false := by simp; omega
  have hcap1 : ¬ cap = 1 := by omega
  have HP := Lib.hid (pmatches_lstF n L s.data.toList h2 hp)
  have hts : (trimPrefix s.data.toList (L 0).data.toList).length ≤ s.size := by
    rw [size_eq s]; exact trimPrefix_le _ _
  go_enter Tryd.func7, Tryd.ntmps7
  go_wp2_with (go_at_call 11; refine (cutPrefix_calls _ _ _).mono ?_; rintro e w' ⟨rfl, rfl⟩)
  go_loop [1, 37] (fun s' i => ∃ (k : Nat) (t : ByteArray), k ≤ n - 2 ∧ i = .int .i64 k ∧ s' = .string t ∧ t.size ≤ s.size ∧ Hid (mids (((lstF n L).tail.dropLast).drop k) t.data.toList = mids ((lstF n L).tail.dropLast) (trimPrefix s.data.toList (L 0).data.toList)))
     (fun _ i => n - (intOf i).toNat)
  case atStart => exact ⟨0, _, by omega, rfl, rfl, hts, rfl⟩
  case round =>
    obtain ⟨k, t, hk, rfl, rfl, htl, HM⟩ := hrel
    by_cases hlt : k < n - 2
    · have hck := hc (1 + k) (by omega)
      have HK := Lib.hid (lstF_mids n L k hlt)
      by_cases hneg : index t.data.toList (L (1 + k)).data.toList < 0
      · go_wp2_with (go_at_call 12; refine (index_calls _ _ _ hE (by omega)).mono ?_; rintro e w' ⟨rfl, rfl⟩)
        go_ret
        refine ⟨?_, rfl⟩
        have := HM.out
        rw [HK.out, mids_miss hneg] at this
        rw [HP.out, ← this]
        rfl
      · obtain ⟨m, hm⟩ : ∃ m : Nat, index t.data.toList (L (1 + k)).data.toList = m := ⟨(index t.data.toList (L (1 + k)).data.toList).toNat, by omega⟩
        have hroom := index_room t.data.toList (L (1 + k)).data.toList (by omega)
        rw [hm, ← size_eq, ← size_eq] at hroom
        have hroom' : m + (L (1 + k)).size ≤ t.size := by omega
        have HI := Lib.hid hm
        clear hm hroom
        go_wp2_with (go_at_call 12; refine (index_calls _ _ _ hE (by omega)).mono ?_; rintro e w' ⟨rfl, rfl⟩; rw [HI.out])
        go_round
        case rel =>
          refine ⟨k + 1, t.extract (m + (L (1 + k)).size) t.size, by omega, by go_num, rfl, by simp; omega, ?_⟩
          have h := HM.out
          rw [HK.out, mids_hit (by rw [HI.out]; omega), HI.out] at h
          rw [extract_to_end, size_eq (L (1 + k))]
          exact h
        case measure => simp [intOf]; omega
    · obtain rfl : k = n - 2 := by omega
      go_wp2_with (go_at_call 13; refine (hasSuffix_calls _ _ _ (by omega)).mono ?_; rintro e w' ⟨rfl, rfl⟩)
      go_ret
      refine ⟨?_, rfl⟩
      have := HM.out
      rw [lstF_mids_end n L h2, mids] at this
      rw [HP.out, ← this]
      rfl

theorem matches_calls (b n cap : Nat) (s : ByteArray) (L : Nat → ByteArray) (w : World) (hE : EnvM w) (h1 : 1 ≤ n) (hb : n ≤ 4000000001) (hcap : n ≤ cap) (hs : s.size ≤ 4000000000)
    (hc : ∀ j, j < n → w.cell? ⟨b, j, none⟩ = some (.string (L j))) :
    Calls Tryd.prog 7 #[.slice (some ⟨b, 0, none⟩) n cap, .string s] w fun e w' => e = .returned (.bool (pmatches (lstF n L) s.data.toList)) ∧ w = w' := by
  cases hp : hasPrefix s.data.toList (L 0).data.toList with
  | false =>
    rw [lstF_zero_not n L _ h1 hp]
    exact matches_nopre b n cap s _ w h1 (hc 0 h1) hp
  | true =>
    by_cases h2 : 2 ≤ n
    · exact matches_more b n cap s L w hE h2 hb hcap hs hc hp
    · obtain rfl : n = 1 := by omega
      rw [lstF_one L _ hp]
      exact matches_one b cap s _ w (hc 0 h1) hp

def dotsB : ByteArray := ⟨#[46, 46, 46]⟩
def slashDotsB : ByteArray := ⟨#[47, 46, 46, 46]⟩

set_option maxHeartbeats 1000000 in
theorem match_calls (p s : ByteArray) (w : World) (hE : EnvM w) (hp : p.size ≤ 4000000000) (hs : s.size ≤ 4000000000) :
    Calls Tryd.prog 5 #[.string p, .string s] w fun e w' => e = .returned (.bool (pMatch p.data.toList s.data.toList)) ∧ Below w.heap.size w w' := by
  have ht : (trimSuffix p.data.toList slashDots).length ≤ p.size := by rw [size_eq p]; exact trimSuffix_le _ _
  have HD := Lib.hid (show pMatch p.data.toList s.data.toList = (pmatches (split p.data.toList dots) s.data.toList || (hasSuffix p.data.toList slashDots && pmatches (split (trimSuffix p.data.toList slashDots) dots) s.data.toList)) from rfl)
  generalize hM : pMatch p.data.toList s.data.toList = M at HD ⊢
  clear hM
  go_enter Tryd.func5, Tryd.ntmps5
  go_wp2_with fail
  refine (split_calls _ ⟨#[46, 46, 46]⟩ _ hE hp (by decide)).mono ?_
  rintro e w1 ⟨n, rfl, hn1, hn2, HL, hb1, hc1, hz1⟩
  have hE1 := hE.below hb1
  go_wp2_with fail
  refine (matches_calls _ _ _ _ _ _ hE1 hn1 (by omega) (Nat.le_refl _) hs hc1).mono ?_
  rintro e w2 ⟨rfl, rfl⟩
  rw [HL.out]
  cases h1 : pmatches (split p.data.toList (⟨#[46, 46, 46]⟩ : ByteArray).data.toList) s.data.toList with
  | true =>
    go_wp2_with fail
    go_ret
    refine ⟨?_, hb1⟩
    rw [HD.out, show pmatches (split p.data.toList dots) s.data.toList = true from h1]
    rfl
  | false =>
    have H1 := Lib.hid h1
    clear h1
    go_wp2_with fail
    refine (cutSuffix_calls _ _ _ hp).mono ?_
    rintro e w2 ⟨rfl, rfl⟩
    cases h2 : hasSuffix p.data.toList (⟨#[47, 46, 46, 46]⟩ : ByteArray).data.toList with
    | false =>
      go_wp2_with fail
      go_ret
      refine ⟨?_, hb1⟩
      rw [HD.out, show pmatches (split p.data.toList dots) s.data.toList = false from H1.out, show hasSuffix p.data.toList slashDots = false from h2]
      rfl
    | true =>
      have H2 := Lib.hid h2
      clear h2
      go_wp2_with fail
      refine (split_calls _ ⟨#[46, 46, 46]⟩ _ hE1 (by exact Nat.le_trans ht hp) (by decide)).mono ?_
      rintro e w2 ⟨m, rfl, hm1, hm2, HM, hb2, hc2, hz2⟩
      have hE2 := hE1.below hb2
      have hm3 : m ≤ p.size + 1 := Nat.le_trans hm2 (Nat.succ_le_succ ht)
      go_wp2_with fail
      refine (matches_calls _ _ _ _ _ _ hE2 hm1 (by omega) (Nat.le_refl _) hs hc2).mono ?_
      rintro e w3 ⟨rfl, rfl⟩
      rw [HM.out]
      go_wp2_with fail
      go_ret
      refine ⟨?_, below_step hb1 hb2⟩
      rw [HD.out, show pmatches (split p.data.toList dots) s.data.toList = false from H1.out, show hasSuffix p.data.toList slashDots = true from H2.out]
      rfl

theorem wild_calls (p : ByteArray) (w : World) (hE : EnvM w) (hp : p.size ≤ 4000000000) :
    Calls Tryd.prog 6 #[.string p] w fun e w' => e = .returned (.bool (contains p.data.toList dots)) ∧ w = w' := by
  go_enter Tryd.func6, Tryd.ntmps6
  go_wp2_with (go_at_call 10; refine (contains_calls _ _ _ hE hp).mono ?_; rintro e w' ⟨rfl, rfl⟩)
  go_ret
  exact ⟨rfl, rfl⟩
end Go.Proofs.Pw
