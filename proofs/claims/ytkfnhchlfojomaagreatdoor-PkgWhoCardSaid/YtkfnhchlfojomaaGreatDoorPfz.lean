/- Pf: walks and plain laws, joined: RefLeast PickMath PickMath2 RefP3 ModOrd. Conditions: at each theorem. -/
import Derived.Test.YtkfnhchlfojomaaGreatDoorPfy
import Derived.Test.YtkfnhchlfojomaaGreatDoorPfj
import Derived.Test.YtkfnhchlfojomaaGreatDoorPfi
import Derived.Test.YtkfnhchlfojomaaGreatDoorPfb
import Derived.Test.YtkfnhchlfojomaaGreatDoorPfx
import Derived.Test.YtkfnhchlfojomaaGreatDoorPfh
import Derived.Test.YtkfnhchlfojomaaGreatDoorPfk

namespace Go.Proofs.Pw
open Go.RowKit Go.Sort
open Go.Lib hiding intOf
def firstS (rk : Str → Nat) : List Str → Str × Int → Str × Int
  | [], b => b
  | v :: r, b => firstS rk r (if b.2 < (rk v : Int) then (v, (rk v : Int)) else b)
theorem firstS_app (rk : Str → Nat) : ∀ (a b : List Str) (x : Str × Int), firstS rk (a ++ b) x = firstS rk b (firstS rk a x)
  | [], _, _ => rfl
  | v :: a, b, x => by simp only [List.cons_append, firstS]; exact firstS_app rk a b _
theorem firstS_snoc (rk : Str → Nat) (l : List Str) (v : Str) (x : Str × Int) : firstS rk (l ++ [v]) x = if (firstS rk l x).2 < (rk v : Int) then (v, (rk v : Int)) else firstS rk l x := by
  rw [firstS_app]; rfl
theorem firstS_spec (rk : Str → Nat) (l : List Str) : (l = [] ∧ firstS rk l ([], -1) = ([], -1)) ∨ ∃ k : Nat, (firstS rk l ([], -1)).2 = k ∧ (∀ v ∈ l, rk v ≤ k) ∧ (l.filter fun v => decide (k ≤ rk v)) ≠ [] ∧ (firstS rk l ([], -1)).1 = (l.filter fun v => decide (k ≤ rk v)).headD [] := by
  induction l using snoc_ind with
  | h0 => exact .inl ⟨rfl, rfl⟩
  | h1 l v ih =>
    right
    rw [firstS_snoc]
    rcases ih with ⟨h1, h2⟩ | ⟨k, h1, h2, h3, h4⟩
    · subst h1
      rw [h2]
      refine ⟨rk v, ?_, fun x hx => ?_, ?_, ?_⟩
      · rw [if_pos (by omega)]
      · simp at hx; rw [hx]; exact Nat.le_refl _
      · simp
      · rw [if_pos (by omega)]; simp
    · by_cases hle : k < rk v
      · have he : (l.filter fun x => decide (rk v ≤ rk x)) = [] := List.filter_eq_nil_iff.2 (fun x hx => by have := h2 x hx; simp; omega)
        refine ⟨rk v, ?_, fun x hx => ?_, ?_, ?_⟩
        · rw [if_pos (by rw [h1]; omega)]
        · rcases List.mem_append.1 hx with h | h
          · have := h2 x h; omega
          · simp at h; rw [h]; exact Nat.le_refl _
        · rw [List.filter_append]; simp
        · rw [if_pos (by rw [h1]; omega), List.filter_append, he]
          simp
      · refine ⟨k, ?_, fun x hx => ?_, ?_, ?_⟩
        · rw [if_neg (by rw [h1]; omega)]; exact h1
        · rcases List.mem_append.1 hx with h | h
          · exact h2 x h
          · simp at h; rw [h]; omega
        · rw [List.filter_append]
          intro h
          exact h3 (List.append_eq_nil_iff.1 h).1
        · rw [if_neg (by rw [h1]; omega), List.filter_append, h4]
          cases hf : l.filter (fun v => decide (k ≤ rk v)) with
          | nil => exact absurd hf h3
          | cons a r => rfl
theorem least_first (l : List En) (p : Str) (vs : List Str) : (firstS (rankS l p) vs ([], -1)).1 = (likedL l p vs).headD [] := by
  have e2 : ∀ v, decide (2 ≤ rankS l p v) = !(backB l p v || preB v) := fun v => by
    unfold rankS
    cases backB l p v <;> cases preB v <;> simp
  have e1 : ∀ v, decide (1 ≤ rankS l p v) = !backB l p v := fun v => by
    unfold rankS
    cases backB l p v <;> cases preB v <;> simp
  have e0 : ∀ v, decide (0 ≤ rankS l p v) = true := fun v => by simp
  have f2 : vs.filter (fun v => decide (2 ≤ rankS l p v)) = vs.filter fun v => !(backB l p v || preB v) := List.filter_congr (fun v _ => e2 v)
  have f1 : vs.filter (fun v => decide (1 ≤ rankS l p v)) = vs.filter fun v => !backB l p v := List.filter_congr (fun v _ => e1 v)
  have f0 : vs.filter (fun v => decide (0 ≤ rankS l p v)) = vs := List.filter_eq_self.2 (fun v _ => e0 v)
  have hle : ∀ v, rankS l p v ≤ 2 := fun v => by unfold rankS; split <;> (try split) <;> omega
  have none_of : ∀ {q : Str → Bool}, (∀ v ∈ vs, q v = false) → vs.filter q = [] := fun h => List.filter_eq_nil_iff.2 (fun v hv => by rw [h v hv]; decide)
  rcases firstS_spec (rankS l p) vs with ⟨h1, h2⟩ | ⟨k, h1, h2, h3, h4⟩
  · subst h1
    rw [h2]
    rfl
  · rw [h4]
    obtain ⟨v0, hv0⟩ := List.exists_mem_of_ne_nil _ h3
    have hv1 := (List.mem_filter.1 hv0).1
    have hv2 : k ≤ rankS l p v0 := of_decide_eq_true (List.mem_filter.1 hv0).2
    have hk2 : k ≤ 2 := Nat.le_trans hv2 (hle v0)
    unfold likedL
    by_cases hk : k = 2
    · subst hk
      rw [f2] at h3 ⊢
      rw [if_pos h3]
    · have n2 : vs.filter (fun v => !(backB l p v || preB v)) = [] := by
        rw [← f2]
        exact none_of (fun v hv => decide_eq_false (by have := h2 v hv; omega))
      rw [if_neg (by rw [n2]; exact fun h => h rfl)]
      by_cases hk1 : k = 1
      · subst hk1
        rw [f1] at h3 ⊢
        rw [if_pos h3]
      · have hk0 : k = 0 := by omega
        subst hk0
        have n1 : vs.filter (fun v => !backB l p v) = [] := by
          rw [← f1]
          exact none_of (fun v hv => decide_eq_false (by have := h2 v hv; omega))
        rw [if_neg (by rw [n1]; exact fun h => h rfl), f0]
set_option maxHeartbeats 2000000 in
set_option maxRecDepth 100000 in
theorem likedOfL_in (a : Option Addr) (n cap : Nat) (P V : Nat → ByteArray) (R : Nat → List Md) (K : Nat → List Str) (Bk : Nat → Bool) (Rv Kv : Nat → Value) (p : ByteArray) (sv : Value) (l : List Str) (w : World) (h : EntsIn w a n cap P V R K Bk Rv Kv) (hn : n ≤ 1000000) (hv : StrsAt w sv l) (hl : l.length ≤ 1000000) (hls : ∀ x ∈ l, x.length ≤ 1000000) :
    Calls Tryz.prog 104 #[.slice a n cap, .string p, sv, .bool true] w fun e w' => e = .returned (.string ⟨((likedL (enF n P V R K Bk) p.data.toList l).headD []).toArray⟩) ∧ Below w.heap.size w w' := by
  obtain ⟨sa, m, sc, L, rfl, rfl, _, _, hc⟩ := hv
  rw [lstF_length] at hl
  have hrk := fun (j : Nat) (hj : j < m) (W : World) (hb : Below w.heap.size w W) => rank_in a n cap P V R K Bk Rv Kv p (L j) W (h.below hb) hn (by
    have := hls _ (lstF_mem'.2 ⟨j, hj, rfl⟩)
    simp only [Array.length_toList] at this
    have e : (L j).size = (L j).data.size := rfl
    omega)
  rw [← least_first]
  generalize rankS (enF n P V R K Bk) p.data.toList = rk at *
  replace hrk := Lib.hid hrk
  replace hc := Lib.hid hc
  clear h hls
  go_enter Tryz.func104, Tryz.ntmps104
  go_wp2_with fail
  go_loopw [9, 10, 11, 12] (fun b r i _ wr => ∃ (k : Nat) (T : Str) (z : Int), k ≤ m ∧ i = .int .i64 k ∧ b = .string ⟨T.toArray⟩ ∧ r = .int .i64 z ∧ Hid (firstS rk ((lstF m L).take k) ([], -1) = (T, z)) ∧ Below w.heap.size w wr) (fun _ _ i _ _ => m - (intOf i).toNat)
  case atStart => exact ⟨0, [], -1, Nat.zero_le _, rfl, rfl, rfl, Lib.hid rfl, Below.refl _ _⟩
  case round =>
    obtain ⟨k, T, z, hk, rfl, rfl, rfl, hT, hBr⟩ := hrel
    by_cases hlt : k < m
    · have hkn : (k : Int) < (m : Int) := by omega
      obtain ⟨b1, o1, ea, c0⟩ := hc.out k hlt
      replace c0 := Below.cell_some hBr c0
      subst ea
      have hf := hrk.out k hlt wr hBr
      have hst : firstS rk ((lstF m L).take (k + 1)) ([], -1) = if z < (rk (L k).data.toList : Int) then ((L k).data.toList, (rk (L k).data.toList : Int)) else (T, z) := by
        rw [List.take_add_one, lstF_get m L k hlt]
        show firstS rk (_ ++ [_]) _ = _
        rw [firstS_snoc, hT.out]
      generalize rk (L k).data.toList = q at hf hst
      by_cases hzq : z < (q : Int)
      · rw [if_pos hzq] at hst
        have HS : Hid (firstS rk ((lstF m L).take (k + 1)) ([], -1) = ((L k).data.toList, (q : Int))) := Lib.hid hst
        replace hf := Lib.hid hf
        clear hst hT
        go_wp2_with fail
        refine hf.out.mono ?_
        rintro e w1 ⟨rfl, hb⟩
        replace hBr := below_step hBr hb
        replace c0 := Below.cell_some hb c0
        clear hb hf
        go_wp2_with fail
        go_roundw
        case rel => exact ⟨k + 1, _, _, by omega, by go_num, by rw [bytes_back], rfl, HS, hBr⟩
        case measure => simp [intOf]; omega
      · rw [if_neg hzq] at hst
        have HS : Hid (firstS rk ((lstF m L).take (k + 1)) ([], -1) = (T, z)) := Lib.hid hst
        replace hf := Lib.hid hf
        clear hst hT
        obtain ⟨zz, hz3⟩ : ∃ b, ((q : Int) == z) = b := ⟨_, rfl⟩
        cases zz
        all_goals
          go_wp2_with fail
          refine hf.out.mono ?_
          rintro e w1 ⟨rfl, hb⟩
          replace hBr := below_step hBr hb
          clear hb hf c0
          go_wp2_with fail
          go_roundw
          case rel => exact ⟨k + 1, T, z, by omega, by go_num, rfl, rfl, HS, hBr⟩
          case measure => simp [intOf]; omega
    · have HF : Hid (firstS rk (lstF m L) ([], -1) = (T, z)) := Lib.hid (by
        rw [← hT.out, show k = m by omega, List.take_of_length_le (by rw [lstF_length]; exact Nat.le_refl _)])
      have hnk : ¬ (k : Int) < (m : Int) := by omega
      clear hT hlt
      go_wp2_with fail
      go_ret
      rw [HF.out]
      exact ⟨rfl, hBr⟩
end Go.Proofs.Pw

namespace Go.Proofs.Pw
open Go.Lib hiding intOf
theorem itoa_no {c : UInt8} (hc : isDig c = false) (n : Nat) : c ∉ itoa (n : Int) := fun h => by
  have h1 := (itoa_digits (n := (n : Int)) (by omega)).1
  rw [List.all_eq_true] at h1
  have := h1 c h
  rw [hc] at this
  cases this
theorem numberOf_back {n : Nat} (h : n ≤ 999999) : numberOf (itoa (n : Int)) = (n, 0) := by
  obtain ⟨_, h2, h3, h4⟩ := itoa_digits (n := (n : Int)) (by omega)
  have hl : (itoa (n : Int)).length ≤ 6 := by rw [itoa_ofNat]; exact decDigits_len 6 n (by decide) (by omega)
  rw [numberOf_ok (fun h => by
    rcases h with h | h
    · rw [h2] at h; cases h
    · exact h4 h) (by omega), h3]
  simp
theorem trim_v (s : Str) : trimPrefix (118 :: s) [118] = s := by
  unfold trimPrefix
  rw [if_pos (by simp [hasPrefix])]
  rfl
theorem headWords_head (now : Str) : headWords (patchHead now) = [itoa (verNum now 0 : Nat), itoa (verNum now 1 : Nat)] := by
  unfold headWords patchHead
  rw [trim_v, split_eq, cutAt_hit _ _ _ _ (itoa_no (by decide) _), cutAt_no _ _ _ (itoa_no (by decide) _)]
  simp
theorem headErr_head (now : Str) : headErr (patchHead now) = 0 := by
  unfold headErr
  rw [headWords_head, if_neg (by
    rintro (h | h)
    · simp [patchHead, hasPrefix] at h
    · simp at h), numErrs_zero]
  refine ⟨rfl, fun w hw => ?_⟩
  simp only [List.mem_cons, List.mem_nil_iff, or_false] at hw
  rcases hw with rfl | rfl <;> rw [numberOf_back (verNum_le _ _)]
theorem headNums_head (now : Str) : headNums (patchHead now) = [verNum now 0, verNum now 1] := by
  unfold headNums
  rw [if_pos (headErr_head now), headWords_head]
  simp only [List.map_cons, List.map_nil]
  rw [numberOf_back (verNum_le _ _), numberOf_back (verNum_le _ _)]
theorem head_bad (now : Str) : verErr (patchHead now) ≠ 0 := fun h => by
  have h3 := ((verErr_zero _).1 h).2.1
  have hn : (45 : UInt8) ∉ itoa (verNum now 0 : Nat) ++ 46 :: itoa (verNum now 1 : Nat) := by
    intro hm
    rcases List.mem_append.1 hm with hm | hm
    · exact itoa_no (by decide) _ hm
    · rcases List.mem_cons.1 hm with hm | hm
      · exact absurd hm (by decide)
      · exact itoa_no (by decide) _ hm
  unfold verWords patchHead at h3
  rw [trim_v, cut_no hn, split_eq, cutAt_hit _ _ _ _ (itoa_no (by decide) _), cutAt_no _ _ _ (itoa_no (by decide) _)] at h3
  simp at h3
theorem patchOut_is {now s : Str} (hs : verErr s = 0) : patchOut now s = !(decide (verNum s 0 = verNum now 0) && decide (verNum s 1 = verNum now 1) && !verLess s now) := by
  have hb : verBegins s (patchHead now) = (decide (verNum s 0 = verNum now 0) && decide (verNum s 1 = verNum now 1)) := by
    have hne : s ≠ patchHead now := fun e => head_bad now (by rw [← e]; exact hs)
    show (decide (verErr s = 0) && (decide (s = patchHead now) || (decide (headErr (patchHead now) = 0) && decide (headNums (patchHead now) = [verNum s 0, verNum s 1].take (headNums (patchHead now)).length)))) = _
    rw [decide_eq_true hs, decide_eq_false hne, headErr_head, headNums_head, Bool.eq_iff_iff]
    simp
    constructor
    · rintro ⟨h1, h2⟩; exact ⟨h1.symm, h2.symm⟩
    · rintro ⟨h1, h2⟩; exact ⟨h1.symm, h2.symm⟩
  unfold patchOut
  rw [hb]
  cases decide (verNum s 0 = verNum now 0) <;> cases decide (verNum s 1 = verNum now 1) <;> cases verLess s now <;> rfl
end Go.Proofs.Pw

namespace Go.Proofs.Pw
open Go.Lib hiding intOf
def okF (q now v : Str) : Bool :=
  if qWord q then (if q = wPatch ∧ verErr now = 0 then (decide (verNum v 0 = verNum now 0) && decide (verNum v 1 = verNum now 1) && !verLess v now) else true) else suitsF q v
def leastF (q : Str) : Bool := match qBound q with
  | some b => decide (b.1.headD 0 = 62)
  | none => false
def pickR (l : List En) (p q now : Str) : Option Str :=
  if q = wNone then some wNone else (likedF l p ((vsort (versL l p)).filter (okF q now)) (leastF q)).map fun s => if q = wUpgrade then verMax s now else s
theorem filter_one {q : Str} : ∀ {vs : List Str}, vs.Nodup → vs.filter (fun v => v == q) = if q ∈ vs then [q] else []
  | [], _ => rfl
  | v :: r, h => by
    have hn := List.nodup_cons.1 h
    rw [List.filter_cons, filter_one hn.2]
    by_cases e : v = q
    · subst e
      simp [hn.1]
    · have e2 : q ≠ v := fun h => e h.symm
      simp [e, e2]
theorem likedF_one (l : List En) (p q : Str) (b : Bool) : likedF l p [q] b = some q := by
  have h1 : likedL l p [q] = [q] := by
    have h := likedL_ne (l := l) (p := p) (vs := [q]) (by simp)
    have hl := likedL_len l p [q]
    cases hk : likedL l p [q] with
    | nil => exact absurd hk h
    | cons x r =>
      have hx := likedL_sub (l := l) (p := p) (vs := [q]) (v := x) (by rw [hk]; simp)
      rw [hk] at hl
      simp at hl hx
      rw [hx, hl]
  unfold likedF
  rw [h1, if_neg (by simp)]
  cases b <;> rfl
theorem likedF_nil (l : List En) (p : Str) (b : Bool) : likedF l p [] b = none := by
  unfold likedF
  rw [show likedL l p [] = [] from rfl, if_pos rfl]
theorem word_bound {q : Str} (h : qWord q = true) : qBound q = none := by
  unfold qWord at h
  rcases of_decide_eq_true h with rfl | rfl | rfl | rfl <;> rfl
theorem pick_ref (l : List En) (p q now : Str) (hnd : (vsort (versL l p)).Nodup) : pickF l p q now = pickR l p q now := by
  unfold pickF pickR
  cases hw : qWord q with
  | true =>
    have hb := word_bound hw
    have hl : leastF q = false := by unfold leastF; rw [hb]
    rw [if_pos rfl, hl]
    unfold namedF
    by_cases e1 : q = wNone
    · rw [if_pos e1, if_pos e1, e1]
    · rw [if_neg e1, if_neg e1]
      by_cases e2 : q = wPatch
      · rw [if_pos e2]
        have e3 : q ≠ wUpgrade := by rw [e2]; decide
        simp only [if_neg e3, Option.map_id']
        unfold patchF
        by_cases hn : verErr now = 0
        · rw [if_neg (by simp [hn])]
          congr 1
          refine List.filter_congr (fun v hv => ?_)
          rw [patchOut_is ((vsort_mem _ _).1 hv).2, Bool.not_not]
          unfold okF
          rw [hw, if_pos rfl, if_pos ⟨e2, hn⟩]
        · rw [if_pos hn]
          congr 1
          refine (List.filter_eq_self.2 (fun v _ => ?_)).symm
          unfold okF
          rw [hw, if_pos rfl, if_neg (fun h => hn h.2)]
      · rw [if_neg e2]
        have hf : (vsort (versL l p)).filter (okF q now) = vsort (versL l p) := List.filter_eq_self.2 (fun v _ => by
          unfold okF
          rw [hw, if_pos rfl, if_neg (fun h => e2 h.1)])
        rw [hf]
  | false =>
    rw [if_neg (by simp)]
    have e1 : q ≠ wNone := fun e => by rw [e] at hw; revert hw; decide
    have e3 : q ≠ wUpgrade := fun e => by rw [e] at hw; revert hw; decide
    rw [if_neg e1]
    simp only [if_neg e3, Option.map_id']
    cases hb : qBound q with
    | some b =>
      have hl : leastF q = decide (b.1.headD 0 = 62) := by unfold leastF; rw [hb]
      rw [hl]
      simp only
      congr 1
      refine List.filter_congr (fun v _ => ?_)
      unfold okF suitsF
      rw [hw, if_neg (by simp), hb, Bool.not_not]
    | none =>
      have hl : leastF q = false := by unfold leastF; rw [hb]
      rw [hl]
      simp only
      by_cases hv : verErr q = 0
      · rw [if_pos hv]
        have hf : (vsort (versL l p)).filter (okF q now) = if q ∈ vsort (versL l p) then [q] else [] := by
          rw [← filter_one hnd]
          refine List.filter_congr (fun v _ => ?_)
          unfold okF suitsF
          rw [hw, if_neg (by simp), hb]
          simp only
          rw [if_pos hv]
        rw [hf]
        split
        · rw [likedF_one]
        · rw [likedF_nil]
      · rw [if_neg hv]
        congr 1
        refine List.filter_congr (fun v _ => ?_)
        unfold okF suitsF
        rw [hw, if_neg (by simp), hb, Bool.not_not]
        simp only
        rw [if_neg hv]
end Go.Proofs.Pw

namespace Go.Proofs.Pw
open Go.RowKit
open Go.Lib hiding intOf
theorem occ_slash {s : ByteArray} {k : Nat} (h : k < s.size) : occAt s.data.toList [47] k = decide (s[k] = 47) := by
  unfold occAt
  rw [drop_cons s k h, Bool.eq_iff_iff]
  simp only [List.isPrefixOf, Bool.and_true, decide_eq_true_eq, beq_iff_eq]
  exact eq_comm
theorem refSuf_pos {x : Str} (h : isSuf x = true) : refSuf x = (sufNum x : Int) ∧ (2 : Int) ≤ (sufNum x : Int) := by
  have hl : looksSuf x = true ∧ 2 ≤ (numberOf (sufD x)).1 := by
    unfold isSuf at h
    simp only [Bool.and_eq_true, decide_eq_true_eq] at h
    exact ⟨h.1, h.2.2⟩
  unfold refSuf
  rw [hl.1, h]
  exact ⟨rfl, by have := hl.2; unfold sufNum; omega⟩
theorem refSuf_not {x : Str} (h : isSuf x = false) : refSuf x ≤ 0 := by
  unfold refSuf
  rw [h]
  cases looksSuf x <;> simp
theorem bytes_take (s : ByteArray) (k : Nat) : s.extract 0 k = ⟨(s.data.toList.take k).toArray⟩ := by
  apply ByteArray.ext
  apply Array.ext'
  simp
set_option maxHeartbeats 400000 in
theorem refSplit_calls (s : ByteArray) (w : World) (hs : s.size ≤ 1000000000) :
    Calls Tryz.prog 132 #[.string s] w fun e w' => e = .returned (.tuple #[.string ⟨(modSplit s.data.toList).1.toArray⟩, .int .i64 ((modSplit s.data.toList).2 : Nat)]) ∧ Below w.heap.size w w' := by
  have hp := refPath_calls s w hs
  by_cases h0 : pathErr s.data.toList = 0
  · rw [h0] at hp
    have hne := fun (h : lastIndex s.data.toList [47] < 0) => modSplit_no h0 h
    have hat := fun (k : Nat) (h : lastIndex s.data.toList [47] = k) => modSplit_at h0 h
    have hst : lastOcc s.data.toList [47] s.size = lastIndex s.data.toList [47] := by
      unfold lastIndex
      rw [← size_eq]
      show _ = if 1 ≤ s.size then lastOcc s.data.toList [47] (s.size - 1 + 1) else -1
      by_cases h : 1 ≤ s.size
      · rw [if_pos h, Nat.sub_add_cancel h]
      · rw [if_neg h, show s.size = 0 by omega]; rfl
    replace hp := Lib.hid hp
    replace hne := Lib.hid hne
    replace hat := Lib.hid hat
    replace hst := Lib.hid hst
    clear h0
    go_enter Tryz.func132, Tryz.ntmps132
    go_wp2_with fail
    refine hp.out.mono ?_
    rintro e w1 ⟨rfl, hb1⟩
    go_wp2_with fail
    go_loop [4] (fun i => ∃ m : Nat, m ≤ s.size ∧ i = .int .i64 ((m : Int) - 1) ∧ Hid (lastOcc s.data.toList [47] m = lastIndex s.data.toList [47])) (fun i => (intOf i + 1).toNat)
    case atStart => exact ⟨s.size, Nat.le_refl _, rfl, hst⟩
    case round =>
      obtain ⟨m, hm, rfl, H⟩ := hrel
      rcases Nat.eq_zero_or_pos m with rfl | hm0
      · have HF := Lib.hid (hne.out (by rw [← H.out]; show (-1 : Int) < 0; decide))
        have hz : ((0 : Nat) : Int) - 1 = -1 := rfl
        simp only [hz]
        clear hz
        go_wp2_with fail
        go_ret2
        rw [HF.out]
        exact ⟨rfl, hb1⟩
      · obtain ⟨k, rfl⟩ : ∃ k, m = k + 1 := ⟨m - 1, by omega⟩
        have hz : ((k + 1 : Nat) : Int) - 1 = (k : Int) := by omega
        simp only [hz]
        clear hz
        have ho := occ_slash (s := s) (k := k) (by omega)
        by_cases hc : s[k] = 47
        · have hc1 : (s[k].toNat : Int) = 47 := by rw [hc]; rfl
          have hL : lastIndex s.data.toList [47] = k := by rw [← H.out]; exact lastOcc_hit _ _ _ (by rw [ho, decide_eq_true hc])
          have hsp := hat.out k hL
          have hsz : (s.extract (k + 1) s.size).size ≤ 1000000000 := Nat.le_trans (extract_size_le s _ _) hs
          have hsu := refSuffix_calls (s.extract (k + 1) s.size) w1 hsz
          have hdr : (s.extract (k + 1) s.size).data.toList = s.data.toList.drop (k + 1) := extract_to_end s (k + 1)
          rw [hdr] at hsu
          clear ho hc hL hdr
          cases hi : isSuf (s.data.toList.drop (k + 1)) with
          | true =>
            obtain ⟨h1, h2⟩ := refSuf_pos hi
            rw [hi, if_pos rfl] at hsp
            rw [h1] at hsu
            generalize sufNum (s.data.toList.drop (k + 1)) = q at hsp hsu h2
            replace hsp := Lib.hid hsp
            replace hsu := Lib.hid hsu
            clear hi h1
            go_wp2_with fail
            refine hsu.out.mono ?_
            rintro e w' ⟨rfl, rfl⟩
            go_wp2_with fail
            go_ret2
            rw [hsp.out, bytes_take]
            exact ⟨rfl, hb1⟩
          | false =>
            have h1 := refSuf_not hi
            rw [hi, if_neg (by decide)] at hsp
            generalize refSuf (s.data.toList.drop (k + 1)) = q at hsu h1
            replace hsp := Lib.hid hsp
            replace hsu := Lib.hid hsu
            clear hi
            go_wp2_with fail
            refine hsu.out.mono ?_
            rintro e w' ⟨rfl, rfl⟩
            go_wp2_with fail
            go_ret2
            rw [hsp.out]
            exact ⟨rfl, hb1⟩
        · have hc1 : ((s[k].toNat : Int) == 47) = false := byte_ne_int (c := 47) rfl hc
          have hc2 : ((s[k].toNat : Int) != 47) = true := by unfold bne; rw [hc1]; rfl
          have H1 : Hid (lastOcc s.data.toList [47] k = lastIndex s.data.toList [47]) := Lib.hid (by rw [← H.out]; exact (lastOcc_miss _ _ _ (by rw [ho, decide_eq_false hc])).symm)
          clear ho hc
          go_wp2_with fail
          go_round
          case rel => exact ⟨k, by omega, by go_num, H1⟩
          case measure => simp [intOf]
  · rw [modSplit_bad h0]
    have hpos : (0 : Int) < (pathErr s.data.toList : Int) := by omega
    generalize pathErr s.data.toList = q at hp hpos
    replace hp := Lib.hid hp
    clear h0
    go_enter Tryz.func132, Tryz.ntmps132
    go_wp2_with fail
    refine hp.out.mono ?_
    rintro e w1 ⟨rfl, hb1⟩
    go_wp2_with fail
    go_ret2
    exact ⟨rfl, hb1⟩
set_option maxHeartbeats 1000000 in
theorem refModErr_calls (p v : ByteArray) (w : World) (hp : p.size ≤ 1000000000) (hv : v.size ≤ 1000000000) :
    Calls Tryz.prog 68 #[.agg #[.string p, .string v]] w fun e w' => e = .returned (.int .i64 (modErr p.data.toList v.data.toList : Nat)) ∧ Below w.heap.size w w' := by
  have hB := below_alloc w (.cells #[.string p, .string v] 29)
  have hz := box2_alloc w (.string p) (.string v) 29
  have hpa := fun W => refPath_calls p W hp
  have hvo := fun W => refVerOf_calls v W hv
  have hsp := fun W => refSplit_calls p W hp
  by_cases h1 : pathErr p.data.toList = 0
  · rw [h1] at hpa
    by_cases h2 : verErr v.data.toList = 0
    · have hm := modErr_major h1 h2
      have hmc : ((modSplit p.data.toList).2 = 0 ∧ 1 < verNum v.data.toList 0) ∨ ((modSplit p.data.toList).2 = 0 ∧ ¬ 1 < verNum v.data.toList 0) ∨ (0 < (modSplit p.data.toList).2 ∧ verNum v.data.toList 0 ≠ (modSplit p.data.toList).2) ∨ (0 < (modSplit p.data.toList).2 ∧ verNum v.data.toList 0 = (modSplit p.data.toList).2) := by omega
      generalize modErr p.data.toList v.data.toList = R at hm ⊢
      rw [h2] at hvo
      generalize verNum v.data.toList 0 = n0 at hm hmc hvo
      generalize verNum v.data.toList 1 = n1 at hvo
      generalize verNum v.data.toList 2 = n2 at hvo
      generalize verPre v.data.toList = pre at hvo
      generalize (modSplit p.data.toList).1 = q1 at hsp
      generalize (modSplit p.data.toList).2 = q at hm hmc hsp
      replace hpa := Lib.hid hpa
      replace hvo := Lib.hid hvo
      replace hsp := Lib.hid hsp
      replace hm := Lib.hid hm
      replace hmc := Lib.hid hmc
      clear h1 h2
      go_enter Tryz.func68, Tryz.ntmps68
      go_wp2_with fail
      refine (hpa.out _).mono ?_
      rintro e w1 ⟨rfl, hb⟩
      replace hB := below_step hB hb
      replace hz := hz.below hb
      clear hb
      have c0 := hz.c0
      have c1 := hz.c1
      go_wp2_with fail
      refine (hvo.out _).mono ?_
      rintro e w2 ⟨⟨vv, rfl, hS⟩, hb⟩
      replace hB := below_step hB hb
      replace hz := hz.below hb
      clear hb
      obtain ⟨a, n, cap, L, rfl, _, _, _, _⟩ := hS
      clear c0 c1
      have hb := below_alloc w2 (.cells #[.int .i64 (n0 : Nat), .int .i64 (n1 : Nat), .int .i64 (n2 : Nat), .slice a n cap] 149)
      have hy := box4_alloc w2 (.int .i64 (n0 : Nat)) (.int .i64 (n1 : Nat)) (.int .i64 (n2 : Nat)) (.slice a n cap) 149
      replace hB := below_step hB hb
      replace hz := hz.below hb
      clear hb
      have c0 := hz.c0
      have c1 := hz.c1
      go_wp2_with fail
      refine (hsp.out _).mono ?_
      rintro e w4 ⟨rfl, hb⟩
      clear c0 c1
      replace hB := below_step hB hb
      replace hz := hz.below hb
      replace hy := hy.below hb
      clear hb
      have z0 := hy.c0
      clear hy hz
      rcases hmc.out with ⟨rfl, h⟩ | ⟨rfl, h⟩ | ⟨h, h'⟩ | ⟨h, rfl⟩
      · have HF : Hid (R = 4) := Lib.hid (by rw [hm.out, if_pos (.inl ⟨rfl, h⟩)])
        have hi : (1 : Int) < (n0 : Int) := by omega
        clear hm hmc h
        go_wp2_with fail
        go_ret
        rw [HF.out]
        exact ⟨rfl, hB⟩
      · have HF : Hid (R = 0) := Lib.hid (by rw [hm.out, if_neg (by omega)])
        have hi : ¬ (1 : Int) < (n0 : Int) := by omega
        clear hm hmc h
        go_wp2_with fail
        go_ret
        rw [HF.out]
        exact ⟨rfl, hB⟩
      · have HF : Hid (R = 4) := Lib.hid (by rw [hm.out, if_pos (.inr ⟨h, h'⟩)])
        have hi : (0 : Int) < (q : Int) := by omega
        have hi0 : ((q : Int) == 0) = false := beq_eq_false_iff_ne.2 (by omega)
        have hi1 : ((n0 : Int) == (q : Int)) = false := beq_eq_false_iff_ne.2 (by omega)
        have hi2 : ((n0 : Int) != (q : Int)) = true := bne_iff_ne.2 (by omega)
        clear hm hmc h h'
        go_wp2_with fail
        go_ret
        rw [HF.out]
        exact ⟨rfl, hB⟩
      · have HF : Hid (R = 0) := Lib.hid (by rw [hm.out, if_neg (by omega)])
        have hi : (0 : Int) < (n0 : Int) := by omega
        have hi0 : ((n0 : Int) == 0) = false := beq_eq_false_iff_ne.2 (by omega)
        clear hm hmc h
        go_wp2_with fail
        go_ret
        rw [HF.out]
        exact ⟨rfl, hB⟩
    · rw [modErr_ver h1 h2]
      have hpos : (0 : Int) < (verErr v.data.toList : Int) := by omega
      generalize verErr v.data.toList = q at hvo hpos
      replace hpa := Lib.hid hpa
      replace hvo := Lib.hid hvo
      clear h1 h2 hsp
      go_enter Tryz.func68, Tryz.ntmps68
      go_wp2_with fail
      refine (hpa.out _).mono ?_
      rintro e w1 ⟨rfl, hb⟩
      replace hB := below_step hB hb
      replace hz := hz.below hb
      clear hb
      have c0 := hz.c0
      have c1 := hz.c1
      go_wp2_with fail
      refine (hvo.out _).mono ?_
      rintro e w2 ⟨⟨vv, rfl, hS⟩, hb⟩
      replace hB := below_step hB hb
      clear hb
      obtain ⟨a, n, cap, L, rfl, _, _, _, _⟩ := hS
      clear c0 c1 hz
      go_wp2_with fail
      go_ret
      exact ⟨rfl, hB.alloc hB.size _⟩
  · rw [modErr_path h1]
    have hpos : (0 : Int) < (pathErr p.data.toList : Int) := by omega
    generalize pathErr p.data.toList = q at hpa hpos
    replace hpa := Lib.hid hpa
    clear h1 hvo hsp
    go_enter Tryz.func68, Tryz.ntmps68
    go_wp2_with fail
    refine (hpa.out _).mono ?_
    rintro e w1 ⟨rfl, hb⟩
    replace hB := below_step hB hb
    clear hb
    go_wp2_with fail
    go_ret
    exact ⟨rfl, hB⟩
end Go.Proofs.Pw

namespace Go.Proofs.Pw
open Go.RowKit
open Go.Lib hiding intOf
set_option maxHeartbeats 1000000 in
theorem isAhead_calls (p v q u : ByteArray) (w : World) (hv : v.size ≤ 1000000000) (hu : u.size ≤ 1000000000) :
    Calls Tryz.prog 69 #[.agg #[.string p, .string v], .agg #[.string q, .string u]] w fun e w' => e = .returned (.bool (modAhead (p.data.toList, v.data.toList) (q.data.toList, u.data.toList))) ∧ Below w.heap.size w w' := by
  have hm := ahead_eq p v q u
  have hl := fun W => isLess_calls v u W hv hu
  have hb1 := below_alloc w (.cells #[.string p, .string v] 29)
  have hB := below_step hb1 (below_alloc _ (.cells #[.string q, .string u] 29))
  generalize modAhead (p.data.toList, v.data.toList) (q.data.toList, u.data.toList) = R at hm ⊢
  generalize verLess v.data.toList u.data.toList = X at hl hm
  replace hm := Lib.hid hm
  replace hl := Lib.hid hl
  clear hb1
  cases h2 : (p.toList == q.toList) with
  | true =>
    have h3 : p.toList = q.toList := beq_iff_eq.1 h2
    have h4 : p = q := by rw [toList_data, toList_data] at h3; exact bytes_ext.1 h3
    subst h4
    have HF : Hid (R = X) := Lib.hid (by rw [hm.out, toList_data, bytesLess_iff, compareBytes_ord.self]; simp)
    clear h2 h3
    go_enter Tryz.func69, Tryz.ntmps69
    go_wp2_with fail
    refine (hl.out _).mono ?_
    rintro e w1 ⟨rfl, hb⟩
    replace hB := below_step hB hb
    clear hb
    go_wp2_with fail
    go_ret
    rw [HF.out]
    exact ⟨rfl, hB⟩
  | false =>
    have HF : Hid (R = Op.bytesLess p.toList q.toList) := Lib.hid (by rw [hm.out, h2]; simp)
    have h3 : p.toList ≠ q.toList := beq_eq_false_iff_ne.1 h2
    have h4 : p ≠ q := fun e => h3 (by rw [e])
    have h5 : (p.toList != q.toList) = true := bne_iff_ne.2 h3
    go_enter Tryz.func69, Tryz.ntmps69
    go_wp2_with fail
    go_ret
    rw [HF.out]
    exact ⟨rfl, hB⟩
end Go.Proofs.Pw
