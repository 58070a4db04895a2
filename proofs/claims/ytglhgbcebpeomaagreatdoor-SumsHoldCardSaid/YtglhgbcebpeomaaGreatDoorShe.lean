/- Sh: walks and plain laws, joined: SumLawMath SumApp. Conditions: at each theorem. -/
import Derived.Test.YtglhgbcebpeomaaGreatDoorSta
import Derived.Test.YtglhgbcebpeomaaGreatDoorStb
import Derived.Test.YtglhgbcebpeomaaGreatDoorStc
import Derived.Test.YtglhgbcebpeomaaGreatDoorStd
import Derived.Test.YtglhgbcebpeomaaGreatDoorSte
import Derived.Test.YtglhgbcebpeomaaGreatDoorStf
import Derived.Test.YtglhgbcebpeomaaGreatDoorStg
import Derived.Test.YtglhgbcebpeomaaGreatDoorSth
import Derived.Test.YtglhgbcebpeomaaGreatDoorSti
import Derived.Test.YtglhgbcebpeomaaGreatDoorStj
import Derived.Test.YtglhgbcebpeomaaGreatDoorStk
import Derived.Test.YtglhgbcebpeomaaGreatDoorStl
import Derived.Test.YtglhgbcebpeomaaGreatDoorStm
import Derived.Test.YtglhgbcebpeomaaGreatDoorStn
import Derived.Test.YtglhgbcebpeomaaGreatDoorSto
import Derived.Test.YtglhgbcebpeomaaGreatDoorStp
import Derived.Test.YtglhgbcebpeomaaGreatDoorStq
import Derived.Test.YtglhgbcebpeomaaGreatDoorStr
import Derived.Test.YtglhgbcebpeomaaGreatDoorSts
import Derived.Test.YtglhgbcebpeomaaGreatDoorStt
import Derived.Test.YtglhgbcebpeomaaGreatDoorStu
import Derived.Test.YtglhgbcebpeomaaGreatDoorStv
import Derived.Test.YtglhgbcebpeomaaGreatDoorStx
import Derived.Test.YtglhgbcebpeomaaGreatDoorSty
import Derived.Test.YtglhgbcebpeomaaGreatDoorStz
import Derived.Test.YtglhgbcebpeomaaGreatDoorStza
import Derived.Test.YtglhgbcebpeomaaGreatDoorStzb
import Derived.Test.YtglhgbcebpeomaaGreatDoorStzd
import Derived.Test.YtglhgbcebpeomaaGreatDoorSha
import Derived.Test.YtglhgbcebpeomaaGreatDoorShb
import Derived.Test.YtglhgbcebpeomaaGreatDoorShc
import Derived.Test.YtglhgbcebpeomaaGreatDoorShd

namespace Go.Proofs.Pw
open Go.Lib hiding intOf
theorem lnAt_map {S : List Md} (f : Md → Ln) {k : Nat} (h : k < S.length) : lnAt (S.map f) k = f (mdAt S k) := by
  unfold lnAt
  rw [List.getD_eq_getElem?_getD, List.getElem?_map, mdAt_get h]
  rfl
theorem findL_out {h : List Ln} {m : Md} (hm : ∀ x ∈ h, x.1 ≠ m) : findL h m < 0 := findI_eq_none.2 fun x hx => by
  unfold isLn
  exact decide_eq_false (hm x hx)
theorem verify_first {l : List En} {S : List Md} {h : List Ln} {c k : Nat} (h0 : (allErr l S).1 = 0) (hk : k < S.length) (hc : verE l S h k = c) (hn : c ≠ 0) (ha : ∀ j, j < k → verE l S h j = 0) : verifyErr l S h = (c, (k : Int)) := by
  unfold verifyErr orE
  rw [if_neg (by simp [h0]), firstE_hit (by rw [hc]; exact hn) ha hk, hc]
theorem mdAt_inj {S : List Md} (hn : S.Nodup) {i j : Nat} (hi : i < S.length) (hj : j < S.length) (h : mdAt S i = mdAt S j) : i = j := by
  have h1 := mdAt_get hi
  have h2 := mdAt_get hj
  rw [h] at h1
  exact (List.getElem?_inj hi hn).1 (h1.trans h2.symm)
theorem verify_less {l : List En} {S : List Md} (h0 : (allErr l S).1 = 0) (hn : S.Nodup) {k : Nat} (hk : k < S.length) : verifyErr l S ((S.map (sumPair l)).take k ++ (S.map (sumPair l)).drop (k + 1)) = (5, (k : Int)) := by
  have hT : TrueLn l ((S.map (sumPair l)).take k ++ (S.map (sumPair l)).drop (k + 1)) := fun x hx => by
    rcases List.mem_append.1 hx with h | h
    · exact true_sums l S x (List.mem_of_mem_take h)
    · exact true_sums l S x (List.mem_of_mem_drop h)
  refine verify_first h0 hk ?_ (by decide) fun j hj => verE_true hT ⟨sumPair l (mdAt S j), ?_, rfl⟩
  · unfold verE
    rw [if_pos]
    refine findL_out fun x hx e => ?_
    rw [← List.map_take, ← List.map_drop, ← List.map_append] at hx
    obtain ⟨m, hm, rfl⟩ := List.mem_map.1 hx
    have e2 : m = mdAt S k := e
    rcases List.mem_append.1 hm with h | h
    · obtain ⟨i, hi, hi2⟩ := List.mem_iff_getElem.1 h
      rw [List.length_take] at hi
      rw [List.getElem_take] at hi2
      have h3 : mdAt S i = mdAt S k := by
        have h4 := mdAt_get (l := S) (i := i) (by omega)
        rw [List.getElem?_eq_getElem (by omega), hi2, e2] at h4
        exact (Option.some.inj h4).symm
      have := mdAt_inj hn (by omega) hk h3
      omega
    · obtain ⟨i, hi, hi2⟩ := List.mem_iff_getElem.1 h
      rw [List.length_drop] at hi
      rw [List.getElem_drop] at hi2
      have h3 : mdAt S (k + 1 + i) = mdAt S k := by
        have h4 := mdAt_get (l := S) (i := k + 1 + i) (by omega)
        rw [List.getElem?_eq_getElem (by omega), hi2, e2] at h4
        exact (Option.some.inj h4).symm
      have := mdAt_inj hn (by omega) hk h3
      omega
  · refine List.mem_append.2 (.inl ?_)
    rw [← List.map_take]
    refine List.mem_map.2 ⟨_, ?_, rfl⟩
    have h4 := mdAt_get (l := S) (i := j) (by omega)
    refine List.mem_of_getElem? (i := j) ?_
    rw [List.getElem?_take, if_pos hj]
    exact h4
theorem verify_other {l : List En} {S : List Md} (h0 : (allErr l S).1 = 0) (hn : S.Nodup) {k o : Nat} (hk : k < S.length) (ho : sumOf (entOf l (mdAt S k)) ≠ o) : verifyErr l S ((S.map (sumPair l)).set k (mdAt S k, o)) = (10, (k : Int)) := by
  have hlen : ((S.map (sumPair l)).set k (mdAt S k, o)).length = S.length := by rw [List.length_set, List.length_map]
  have hat : ∀ i, i < S.length → lnAt ((S.map (sumPair l)).set k (mdAt S k, o)) i = if i = k then (mdAt S k, o) else sumPair l (mdAt S i) := fun i hi => by
    unfold lnAt
    rw [List.getD_eq_getElem?_getD, List.getElem?_set]
    by_cases e : i = k
    · subst e
      rw [if_pos rfl, if_pos (by rw [List.length_map]; exact hi), if_pos rfl]
      rfl
    · rw [if_neg (fun h => e h.symm), if_neg e, List.getElem?_map, mdAt_get hi]
      rfl
  have hfst : ∀ i, i < S.length → (lnAt ((S.map (sumPair l)).set k (mdAt S k, o)) i).1 = mdAt S i := fun i hi => by
    rw [hat i hi]
    by_cases e : i = k
    · rw [if_pos e, e]
    · rw [if_neg e]; rfl
  have hfind : ∀ j, j < S.length → findL ((S.map (sumPair l)).set k (mdAt S k, o)) (mdAt S j) = j := fun j hj => by
    have h1 := findL_in (h := (S.map (sumPair l)).set k (mdAt S k, o)) (m := mdAt S j) ⟨_, lnAt_mem (by rw [hlen]; exact hj), hfst j hj⟩
    obtain ⟨i, e1, e2, e3⟩ := findL_nat h1
    rw [hlen] at e2
    rw [hfst i e2] at e3
    rw [e1, mdAt_inj hn e2 hj e3]
  refine verify_first h0 hk ?_ (by decide) fun j hj => ?_
  · unfold verE
    rw [hfind k hk, if_neg (by omega), Int.toNat_natCast, hat k hk, if_pos rfl, if_pos]
    exact fun h => ho h.symm
  · unfold verE
    rw [hfind j (by omega), if_neg (by omega), Int.toNat_natCast, hat j (by omega), if_neg (show ¬ j = k by omega), if_neg]
    exact fun h => h rfl
theorem decDigits_lenK : ∀ (k u : Nat), 1 ≤ k → u < 10 ^ k → (decDigits u).length ≤ k
  | 0, u, h, _ => absurd h (by decide)
  | k + 1, u, _, h => by
    by_cases h10 : u < 10
    · rw [decDigits, dif_pos h10]; simp
    · have hk : 1 ≤ k := by
        rcases Nat.eq_zero_or_pos k with e | e
        · subst e; simp at h; omega
        · exact e
      have := decDigits_lenK k (u / 10) hk (by rw [Nat.pow_succ] at h; omega)
      rw [decDigits, dif_neg h10, List.length_append]
      simp
      omega
theorem dec_no {u : Nat} {c : UInt8} (h : isDig c = false) : c ∉ decDigits u := fun hm => by
  have := List.all_eq_true.1 (decDigits_all u) c hm
  rw [h] at this
  cases this
def lnBody (x : Ln) : Str := mline x.1.1 (x.1.2, decDigits x.2)
theorem lnTxt_body (x : Ln) (t : Str) : lnTxt x ++ t = lnBody x ++ 10 :: t := by
  unfold lnTxt lnBody mline
  simp
theorem lnBody_read {x : Ln} (h : mdErr x.1 = 0) (h32 : x.2 < 4294967296) : (10 : UInt8) ∉ lnBody x ∧ lineE (lnBody x) = 0 ∧ lineLn (lnBody x) = x := by
  obtain ⟨a1, a2⟩ := md_no h 10 (by decide) (by decide) (by decide) (by decide)
  obtain ⟨b1, b2⟩ := md_no h 32 (by decide) (by decide) (by decide) (by decide)
  have hs : split (lnBody x) [32] = [x.1.1, x.1.2, decDigits x.2] := by
    unfold lnBody
    rw [mline_join]
    refine split_sp (by simp) fun y hy => ?_
    simp at hy
    rcases hy with rfl | rfl | rfl
    · exact b1
    · exact b2
    · exact dec_no (by decide)
  have h3 := lineE_three hs
  refine ⟨?_, ?_, ?_⟩
  · unfold lnBody mline
    simp only [List.mem_append, List.mem_singleton]
    rintro ((((h | h) | h) | h) | h)
    · exact a1 h
    · cases h
    · exact a2 h
    · cases h
    · exact dec_no (by decide) h
  · rw [h3.1, if_neg, decVal_decDigits, if_neg (by omega)]
    · exact h
    · rw [sumW_parts.2 ⟨decDigits_digits _, decDigits_lenK 10 _ (by decide) (by omega), decDigits_head _⟩]
      decide
  · rw [h3.2, decVal_decDigits]
theorem readX_back : ∀ (r pre : List Ln), (∀ x ∈ r, mdErr x.1 = 0 ∧ x.2 < 4294967296) → (∀ i, 0 < i → i < (pre ++ r).length → modAhead (lnAt (pre ++ r) (i - 1)).1 (lnAt (pre ++ r) i).1 = true) → readX pre pre.length (split (lnsTxt r) [10]) = (pre ++ r, 0, -1)
  | [], pre, _, _ => by
    show readX pre pre.length (split [] [10]) = _
    rw [readX_end, List.append_nil]
  | x :: r, pre, h, ha => by
    have hx := h x (by simp)
    obtain ⟨h1, h2, h3⟩ := lnBody_read hx.1 hx.2
    have ih := readX_back r (pre ++ [x]) (fun y hy => h y (by simp [hy])) (by rw [List.append_assoc]; exact ha)
    rw [show lnsTxt (x :: r) = lnTxt x ++ lnsTxt r from rfl, lnTxt_body, split_atC h1, readX_cons (split_not_nil _ _), h2, h3, if_neg (by simp), if_neg]
    · rw [List.length_append, List.length_singleton] at ih
      rw [ih, List.append_assoc]
      rfl
    · rintro ⟨hp, hf⟩
      have h4 := ha pre.length hp (by simp)
      have e1 : lnAt (pre ++ x :: r) (pre.length - 1) = lnAt pre (pre.length - 1) := by
        unfold lnAt
        rw [List.getD_eq_getElem?_getD, List.getD_eq_getElem?_getD, List.getElem?_append_left (by omega)]
      have e2 : lnAt (pre ++ x :: r) pre.length = x := by
        unfold lnAt
        rw [List.getD_eq_getElem?_getD, List.getElem?_append_right (Nat.le_refl _), Nat.sub_self]
        rfl
      rw [e1, e2, hf] at h4
      cases h4
theorem read_back {l : List Ln} (h : (linesErr l).1 = 0) (h32 : ∀ x ∈ l, x.2 < 4294967296) : readLs (lnsTxt l) = (l, 0, -1) := by
  have hz := firstE_zero h
  have key : ∀ i, i < l.length → mdErr (lnAt l i).1 = 0 ∧ (0 < i → modAhead (lnAt l (i - 1)).1 (lnAt l i).1 = true) := fun i hi => by
    have h1 := hz i hi
    unfold excE at h1
    rw [mdsOf_at, mdsOf_at] at h1
    by_cases h2 : mdErr (lnAt l i).1 ≠ 0
    · rw [if_pos h2] at h1
      exact absurd h1 h2
    · rw [if_neg h2] at h1
      refine ⟨by simpa using h2, fun h0 => ?_⟩
      by_cases h3 : modAhead (lnAt l (i - 1)).1 (lnAt l i).1 = false
      · rw [if_pos ⟨h0, h3⟩] at h1; cases h1
      · simpa using h3
  exact readX_back l [] (fun x hx => by
    obtain ⟨i, hi, e⟩ := List.mem_iff_getElem.1 hx
    have h4 := lnAt_get hi
    rw [List.getElem?_eq_getElem hi, e] at h4
    rw [Option.some.inj h4]
    exact ⟨(key i hi).1, by rw [← Option.some.inj h4]; exact h32 x hx⟩) (fun i h0 hi => (key i hi).2 h0)
namespace Sel
variable {l : List En} {S : List Md}
theorem nodup (h : Sel l S) : S.Nodup := by
  unfold List.Nodup
  exact h.rise.imp fun hlt e => by
    rw [e, compareBytes_ord.self] at hlt
    exact absurd hlt (by decide)
end Sel
end Go.Proofs.Pw

namespace Go.Proofs.Pw
open Go.RowKit
open Go.Lib hiding intOf
theorem lnVs_append (kd : IntKind) (a b : List LnB) : lnVs kd (a ++ b) = lnVs kd a ++ lnVs kd b := List.flatMap_append ..
theorem lnVs_one {kd : IntKind} {l : List LnB} : ∀ u ∈ lnVs kd l, u.oneCell' = true := by
  intro u hu
  simp only [lnVs, List.mem_flatMap] at hu
  obtain ⟨m, _, hu⟩ := hu
  simp at hu
  rcases hu with rfl | rfl | rfl <;> rfl
def lnL (n : Nat) (P V : Nat → ByteArray) (S : Nat → Nat) : List LnB := (List.range n).map fun j => (P j, V j, S j)
theorem lnL_length (n P V S) : (lnL n P V S).length = n := by simp [lnL]
theorem lnL_ts (n P V S) : lnTs (lnL n P V S) = lnF n P V S := by simp [lnL, lnTs, lnF]
theorem lns_cells {kd : IntKind} {w : World} {b o n : Nat} {P V : Nat → ByteArray} {S : Nat → Nat} (hc : ∀ j, j < n → LnC kd w b (o + j * 3) (P j) (V j) (S j : Nat)) :
    ∀ j u, (lnVs kd (lnL n P V S))[j]? = some u → w.cell? ((⟨b, o, none⟩ : Addr).add j) = some u := by
  intro j u hu
  have hj : j < n * 3 := by
    have := (List.getElem?_eq_some_iff.1 hu).1
    rwa [lnVs_length, lnL_length] at this
  have hk : j / 3 < n := by omega
  have hg := lnVs_get kd (l := lnL n P V S) (j := j / 3) (m := (P (j / 3), V (j / 3), S (j / 3))) (by simp [lnL, hk])
  obtain ⟨c0, c1, c2⟩ := hc _ hk
  rw [show (⟨b, o, none⟩ : Addr).add j = ⟨b, o + j, none⟩ from by unfold Addr.add; split <;> simp_all]
  obtain h | h | h : j % 3 = 0 ∨ j % 3 = 1 ∨ j % 3 = 2 := by omega
  · rw [show j = j / 3 * 3 by omega] at hu ⊢
    rw [hg.1] at hu
    cases hu
    exact c0
  · rw [show j = j / 3 * 3 + 1 by omega] at hu ⊢
    rw [hg.2.1] at hu
    cases hu
    exact c1
  · rw [show j = j / 3 * 3 + 2 by omega] at hu ⊢
    rw [hg.2.2] at hu
    cases hu
    exact c2
theorem LnsAt.take {kd : IntKind} {w : World} {a : Option Addr} {n cap k : Nat} {l : List Ln} (h : LnsAt kd w (.slice a n cap) l) (hk : k ≤ n) : LnsAt kd w (.slice a k cap) (l.take k) := by
  obtain ⟨a', n', cap', P, V, S, e, rfl, h3⟩ := h
  injection e with e1 e2 e3
  subst e1 e2 e3
  refine ⟨a, k, cap, P, V, S, rfl, ?_, by have := h3.le; omega, h3.cap, fun j hj => h3.at_ j (by omega)⟩
  unfold lnF
  rw [← List.map_take, List.take_range, Nat.min_eq_left hk]
theorem LnsAt.drop {kd : IntKind} {w : World} {b o n cap k : Nat} {l : List Ln} (h : LnsAt kd w (.slice (some ⟨b, o, none⟩) n cap) l) (hk : k ≤ n) : LnsAt kd w (.slice (some ⟨b, o + k * 3, none⟩) (n - k) (cap - k)) (l.drop k) := by
  obtain ⟨a', n', cap', P, V, S, e, rfl, h3⟩ := h
  injection e with e1 e2 e3
  subst e1 e2 e3
  refine ⟨_, n - k, cap - k, fun j => P (k + j), fun j => V (k + j), fun j => S (k + j), rfl, ?_, by have := h3.le; omega, by have := h3.cap; omega, fun j hj => ?_⟩
  · apply List.ext_getElem?
    intro i
    rw [List.getElem?_drop]
    by_cases hi : i < n - k
    · rw [lnF_get n P V S (k + i) (by omega), lnF_get _ _ _ _ i hi]
    · rw [List.getElem?_eq_none (by rw [lnF_length]; omega), List.getElem?_eq_none (by rw [lnF_length]; omega)]
  · obtain ⟨b', o', e, c0, c1, c2⟩ := h3.at_ (k + j) (by omega)
    injection e with e
    injection e with e1 e2 _
    subst e1 e2
    refine ⟨b, o + k * 3, rfl, ?_, ?_, ?_⟩
    · rw [show o + k * 3 + j * 3 = o + (k + j) * 3 by omega]; exact c0
    · rw [show o + k * 3 + j * 3 + 1 = o + (k + j) * 3 + 1 by omega]; exact c1
    · rw [show o + k * 3 + j * 3 + 2 = o + (k + j) * 3 + 2 by omega]; exact c2
theorem lns_none (kd : IntKind) (w : World) (a : Option Addr) : LnsAt kd w (.slice a 0 0) [] := ⟨a, 0, 0, fun _ => ⟨#[]⟩, fun _ => ⟨#[]⟩, fun _ => 0, rfl, rfl, Nat.le_refl _, by decide, fun j hj => absurd hj (Nat.not_lt_zero _)⟩
theorem LnsAt.as {kd : IntKind} {w : World} {v : Value} {n : Nat} {P V : Nat → ByteArray} {S : Nat → Nat} (h : LnsAt kd w v (lnF n P V S)) : ∃ a c, v = .slice a n c ∧ LnsIn kd w a n c P V fun j => ((S j : Nat) : Int) := by
  obtain ⟨a, n', cap, Q, U, T, rfl, e, h3⟩ := h
  have hn : n = n' := by have := congrArg List.length e; rwa [lnF_length, lnF_length] at this
  subst hn
  have e' := lnF_ext.1 e
  refine ⟨a, cap, rfl, h3.le, h3.cap, fun j hj => ?_⟩
  obtain ⟨b, o, e1, c0, c1, c2⟩ := h3.at_ j hj
  obtain ⟨⟨q1, q2⟩, q3⟩ := e' j hj
  exact ⟨b, o, e1, by rw [q1]; exact c0, by rw [q2]; exact c1, by rw [q3]; exact c2⟩
theorem lns_len {kd : IntKind} {w : World} {v : Value} {l : List Ln} (h : LnsAt kd w v l) : ∃ a c, v = .slice a l.length c := by
  obtain ⟨a, n, cap, P, V, S, rfl, rfl, _⟩ := h
  exact ⟨a, cap, by rw [lnF_length]⟩
theorem app_lns (w : World) (base : Nat) (hb : base ≤ w.heap.size) (o v : Value) (L : List LnB) (l : List Ln) (ho : w.ownsRow base 64 3 o L.length (lnVs .u32 L)) (h : LnsAt .u32 w v l) (hL : L.length ≤ 1000000) (hl : l.length ≤ 1000000) :
    ∃ o' w', (Builtin.append_ #[39, 39] 39 #[o, v]).run Tryz.prog w = .ok o' w' ∧ (∃ L', lnTs L' = lnTs L ++ l ∧ w'.ownsRow base 64 3 o' L'.length (lnVs .u32 L')) ∧ w.grownBy w' o.ownBlock := by
  obtain ⟨i0, hi, hz0, hz1, hz2⟩ := info_parts Tryz.infoLine
  obtain ⟨a, n, cap, P, V, S, rfl, rfl, hin⟩ := h
  have hnc := hin.le
  have hcap := hin.cap
  have hc := hin.at_
  rw [lnF_length] at hl
  cases a with
  | none =>
    have hn0 : n = 0 := by
      rcases Nat.eq_zero_or_pos n with h | h
      · exact h
      · obtain ⟨b, o, e, _⟩ := hc 0 h
        cases e
    subst hn0
    have hform : ∃ a m c, o = .slice a m c ∧ m ≤ c := by
      rcases ho.2 with ⟨rfl, _⟩ | ⟨g, c, cur, rfl, _, _, h1, _⟩
      · exact ⟨_, _, _, rfl, Nat.le_refl _⟩
      · exact ⟨_, _, _, rfl, h1⟩
    obtain ⟨ao, m, c, rfl, hmc⟩ := hform
    exact ⟨_, w, run_append_nothing (P := Tryz.prog) w 39 39 39 64 i0 Tryz.underlying39 hi ao m c hmc (.slice none 0 cap) (Src.ofNil w Tryz.underlying39 cap), ⟨L, by simp [lnF], ho⟩, World.grownBy.refl _ _⟩
  | some a =>
    have hnews : ∀ j u, (lnVs .u32 (lnL n P V S))[j]? = some u → w.cell? (a.add j) = some u := by
      rcases Nat.eq_zero_or_pos n with h | h
      · subst h
        intro j u hu
        simp [lnL, lnVs] at hu
      · obtain ⟨b, o, e, _⟩ := hc 0 h
        injection e with e
        subst e
        exact lns_cells (fun j hj => by
          obtain ⟨b', o', e, h1⟩ := hc j hj
          injection e with e
          injection e with e1 e2 _
          subst e1 e2
          exact h1)
    obtain ⟨kv, w', h1, h2, h3, _⟩ := run_append_own (P := Tryz.prog) w base 39 39 64 i0 (.agg #[.string ⟨#[]⟩, .string ⟨#[]⟩, .int .u32 0]) 3 40 Tryz.underlying39 hi hz0 hz1 hz2 rfl (by decide) o L.length (lnVs .u32 L) ho a n cap (lnVs .u32 (lnL n P V S)) (by rw [lnVs_length, lnL_length]) hnews lnVs_one (by unfold maxLen; omega) (by omega) hb
    refine ⟨kv, w', h1, ⟨L ++ lnL n P V S, by rw [← lnL_ts]; simp [lnTs], ?_⟩, h3⟩
    rw [lnVs_append, List.length_append, lnL_length]
    exact h2
theorem lnVs_set (kd : IntKind) : ∀ (L : List LnB) (i : Nat) (p v : ByteArray) (s o : Nat), L[i]? = some (p, v, s) → lnVs kd (L.set i (p, v, o)) = (lnVs kd L).set (i * 3 + 2) (.int kd (o : Nat))
  | [], i, p, v, s, o, h => by simp at h
  | a :: r, 0, p, v, s, o, h => by
    simp at h
    subst h
    rfl
  | a :: r, i + 1, p, v, s, o, h => by
    have := lnVs_set kd r i p v s o (by simpa using h)
    rw [List.set_cons_succ, show (i + 1) * 3 + 2 = i * 3 + 2 + 3 by omega]
    simp only [lnVs, List.flatMap_cons, List.cons_append, List.nil_append, List.set_cons_succ] at *
    rw [this]
theorem lnTs_set (L : List LnB) (i : Nat) (p v : ByteArray) (o : Nat) : lnTs (L.set i (p, v, o)) = (lnTs L).set i ((p.data.toList, v.data.toList), o) := by
  unfold lnTs
  rw [List.map_set]
theorem ownLn_set1 {w : World} {base e k g cap m n j : Nat} {xs : List Value} (h : w.ownsRow base e k (.slice (some ⟨g, 0, none⟩) m cap) n xs) (u : Value) : (w.setCell ⟨g, j, none⟩ u).ownsRow base e k (.slice (some ⟨g, 0, none⟩) m cap) n (xs.set j u) := by
  refine ⟨by rw [List.length_set]; exact h.1, ?_⟩
  rcases h.2 with ⟨h2, _⟩ | ⟨g', c', cur, e1, hb, hg, hn, hm, hcs, ht⟩
  · cases h2
  · injection e1 with e1 e2 e3
    injection e1 with e1
    injection e1 with e1
    subst e1 e2 e3
    refine .inr ⟨g, cap, cur.setIfInBounds j u, rfl, hb, ?_, hn, hm, by simpa using hcs, ?_⟩
    · simp [World.setCell, Array.getElem?_modify, hg]
    · rw [Array.toList_setIfInBounds, List.take_set, ht]
theorem ownL_put {B : Nat} {w : World} {v : Value} {T : List LnB} {k : Nat} (h : OwnL B w v T) (hk : k < T.length) : ∃ g c p q s, v = .slice (some ⟨g, 0, none⟩) T.length c ∧ B ≤ g ∧ T[k]? = some (p, q, s) ∧ LnC .u32 w g (k * 3) p q (s : Nat) ∧ w.frozen? ⟨g, k * 3 + 2, none⟩ = false ∧ ∀ o : Nat, OwnL B (w.setCell ⟨g, k * 3 + 2, none⟩ (.int .u32 (o : Nat))) v (T.set k (p, q, o)) := by
  obtain ⟨p, q, s, hT⟩ : ∃ p q s, T[k]? = some (p, q, s) := ⟨_, _, _, List.getElem?_eq_getElem hk⟩
  have hget := lnVs_get .u32 hT
  have h0 := h.out
  rcases h0.2 with ⟨rfl, h1⟩ | ⟨g, c, cur, rfl, hb, hg, hn, hm, hcs, ht⟩
  · omega
  · rw [← ht] at hget
    rw [List.getElem?_take, if_pos (by omega), List.getElem?_take, if_pos (by omega), List.getElem?_take, if_pos (by omega)] at hget
    refine ⟨g, c, p, q, s, rfl, hb, hT, ⟨?_, ?_, ?_⟩, ?_, fun o => ⟨?_⟩⟩
    · rw [cell_of_row w g _ cur _ (0, 0) hg]; simpa using hget.1
    · rw [cell_of_row w g _ cur _ (0, 0) hg]; simpa using hget.2.1
    · rw [cell_of_row w g _ cur _ (0, 0) hg]; simpa using hget.2.2
    · simp [World.frozen?, hg]
    · rw [List.length_set, lnVs_set .u32 T k p q s o hT]
      exact ownLn_set1 h0 _
theorem Tryz.ln_fields : Tryz.prog.underlying 64 = some (.struct (Tryz.prog.fieldsOf 64)) := by kernel_rfl
theorem Tryz.ln_held : Tryz.prog.stoodInHeld 64 = false := by kernel_rfl
theorem Tryz.ln_guard : Tryz.prog.eqGuardType Tryz.prog.depth 64 = false := by kernel_rfl
theorem ln_equal (p v : ByteArray) (s : Int) (w : World) : (Op.equalIn 10000 64 (.agg #[.string p, .string v, .int .u32 s]) (.agg #[.string p, .string v, .int .u32 s])).run Tryz.prog w = .ok true w := by
  have u3 := Tryz.underlying9
  have a3 := Tryz.isAgg9
  have z3 := Tryz.sizeOf9
  have u4 := Tryz.underlying33
  have a4 := Tryz.isAgg33
  have z4 := Tryz.sizeOf33
  rw [show (10000 : Nat) = 9999 + 1 from rfl, run_equalIn_agg w 9999 64 _ _ Tryz.ln_fields Tryz.ln_held]
  simp only [Program.fieldsOf, Tryz.underlying64]
  go_simp
theorem ln_neq (p v : ByteArray) (s : Int) (w : World) : (binOp .neq 64 (.agg #[.string p, .string v, .int .u32 s]) (.agg #[.string p, .string v, .int .u32 s])).run Tryz.prog w = .ok (.bool false) w := by
  rw [run_neq_struct, ln_equal]; rfl
theorem lnTxt_short {x : Ln} (h : x.1.1.length ≤ 70 ∧ x.1.2.length ≤ 60 ∧ x.2 < 4294967296) : (lnTxt x).length ≤ 153 := by
  unfold lnTxt
  have := decDigits_len20 (u := x.2) (by omega)
  simp only [List.length_append, List.length_singleton]
  omega
theorem lnsTxt_short : ∀ l : List Ln, (∀ x ∈ l, x.1.1.length ≤ 70 ∧ x.1.2.length ≤ 60 ∧ x.2 < 4294967296) → (lnsTxt l).length ≤ l.length * 153
  | [], _ => by simp [lnsTxt]
  | m :: r, h => by
    have ih := lnsTxt_short r (fun x hx => h x (by simp [hx]))
    have h1 := lnTxt_short (h m (by simp))
    rw [show lnsTxt (m :: r) = lnTxt m ++ lnsTxt r from rfl, List.length_append, List.length_cons]
    omega
end Go.Proofs.Pw
