/- Ia: walks and plain laws, joined: Rise Great SlDelF SlCom DdMath DnTo ToMath IdxLastMath. Conditions: at each theorem. -/
import Derived.Test.YtnanklfbmmionaaGreatDoorIazb
import Derived.Test.YtnanklfbmmionaaGreatDoorIag
import Derived.Deep.LoopGhost
import Derived.Lib.SlKept
import Derived.Test.YtnanklfbmmionaaGreatDoorIab
import Derived.Test.YtnanklfbmmionaaGreatDoorIak
import Derived.Test.YtnanklfbmmionaaGreatDoorIau

namespace Go.Proofs.Pw
open Go.RowKit
open Go.Lib hiding intOf
end Go.Proofs.Pw

namespace Go.Proofs.Pw
open Go.RowKit
open Go.Lib hiding intOf
end Go.Proofs.Pw

namespace Go.Proofs.Pw
open Go.RowKit
open Go.Lib hiding intOf
structure DelInv (q : ByteArray × ByteArray → Bool) (L M : List (ByteArray × ByteArray)) (i j : Nat) : Prop where
  len : M.length = L.length
  lt : i < j
  le : j ≤ L.length
  low : M.take i = (L.take j).filter q
  high : M.drop j = L.drop j
theorem take_sn {α : Type} {l : List α} {j : Nat} {x : α} (h : l[j]? = some x) : l.take (j + 1) = l.take j ++ [x] := by
  rw [List.take_add_one, h]; rfl
theorem DelInv.skip {q : ByteArray × ByteArray → Bool} {L M : List (ByteArray × ByteArray)} {i j : Nat} {x : ByteArray × ByteArray} (h : DelInv q L M i j) (hx : L[j]? = some x) (hq : q x = false) : DelInv q L M i (j + 1) := by
  have hl := (List.getElem?_eq_some_iff.1 hx).1
  have h1 := h.lt
  refine ⟨h.len, by omega, hl, ?_, ?_⟩
  · rw [take_sn hx, List.filter_append, ← h.low]; simp [hq]
  · rw [← List.drop_drop, ← List.drop_drop, h.high]
theorem DelInv.keep {q : ByteArray × ByteArray → Bool} {L M : List (ByteArray × ByteArray)} {i j : Nat} {x : ByteArray × ByteArray} (h : DelInv q L M i j) (hx : L[j]? = some x) (hq : q x = true) : DelInv q L (M.set i x) (i + 1) (j + 1) := by
  have hl := (List.getElem?_eq_some_iff.1 hx).1
  have h1 := h.lt
  have h2 := h.len
  refine ⟨by rw [List.length_set]; exact h.len, by omega, hl, ?_, ?_⟩
  · rw [take_sn (x := x) (by rw [List.getElem?_set_self (by omega)]), List.take_set_of_le (by omega), h.low, take_sn hx, List.filter_append]
    simp [hq]
  · rw [List.drop_set_of_lt (by omega), ← List.drop_drop, ← List.drop_drop, h.high]
theorem DelInv.start {q : ByteArray × ByteArray → Bool} {L : List (ByteArray × ByteArray)} {k : Nat} {x : ByteArray × ByteArray} (hk : L[k]? = some x) (hq : q x = false) (h0 : ∀ y ∈ L.take k, q y = true) : DelInv q L L k (k + 1) := by
  have hl := (List.getElem?_eq_some_iff.1 hk).1
  refine ⟨rfl, Nat.lt_succ_self _, hl, ?_, rfl⟩
  rw [take_sn hk, List.filter_append, List.filter_eq_self.2 h0]; simp [hq]
end Go.Proofs.Pw

namespace Go.Proofs.Pw
open Go.RowKit
open Go.Lib hiding intOf
end Go.Proofs.Pw

namespace Go.Proofs.Pw
open Go.Lib hiding intOf
end Go.Proofs.Pw

namespace Go.Proofs.Pw
open Go.RowKit
open Go.Lib hiding intOf
end Go.Proofs.Pw

namespace Go.Proofs.Pw
open Go.Lib hiding intOf
theorem versL_rises {l : List En} (hR : RightI l) (p : Str) : Rises verCmp (versL l p) := by
  unfold versL Rises
  rw [List.pairwise_map]
  have h1 := hR.rise
  unfold Rises at h1
  rw [List.pairwise_map] at h1
  refine (List.Pairwise.sublist List.filter_sublist h1).imp_of_mem ?_
  intro a b ha hb h
  have h2 := of_decide_eq_true (List.mem_filter.1 ha).2
  have h3 := of_decide_eq_true (List.mem_filter.1 hb).2
  unfold modCmp at h
  rw [orI_lt] at h
  rcases h with h | h
  · rw [h2, h3, compareBytes_ord.self] at h
    exact absurd h (by decide)
  · exact h.2
theorem vsort_versL {l : List En} (hR : RightI l) (p : Str) : vsort (versL l p) = versL l p :=
  rises_ext verCmp_ord (vsort_rises _) (versL_rises hR p) fun x => by
    rw [vsort_mem]
    refine ⟨fun h => h.1, fun h => ⟨h, ?_⟩⟩
    obtain ⟨e, he, h1⟩ := versL_mem.1 h
    have h2 := hR.mds e he
    rw [h1] at h2
    exact (modErr_zero h2).2
end Go.Proofs.Pw

namespace Go.Proofs.Pw
open Go.Lib hiding intOf
theorem insUb_len (s : Str) : ∀ l : List Str, (insU compareBytes s l).length ≤ l.length + 1
  | [] => by simp [insU]
  | a :: r => by
    have := insUb_len s r
    unfold insU
    split
    · simp; omega
    · split
      · simp
      · simp
theorem insFold_len' : ∀ (l o : List Str), (l.foldl (fun o s => insU compareBytes s o) o).length ≤ l.length + o.length
  | [], o => by simp
  | s :: r, o => by
    rw [List.foldl_cons]
    have h1 := insFold_len' r (insU compareBytes s o)
    have h2 := insUb_len s o
    rw [List.length_cons]
    omega
theorem insFold_len (l : List Str) : (l.foldl (fun o s => insU compareBytes s o) []).length ≤ l.length := by
  have := insFold_len' l []
  simpa using this
theorem pathsL_len (l : List Str) : (pathsL l).length ≤ l.length := insFold_len l
theorem lastS_top {f : Str → Str → Int} (hf : Ord3 f) {vs : List Str} (h : Rises f vs) {v : Str} (hv : v ∈ vs) : f v (lastS vs) ≤ 0 := by
  induction vs using snoc_ind with
  | h0 => cases hv
  | h1 l a _ =>
    have e : lastS (l ++ [a]) = a := by simp [lastS]
    rw [e]
    rcases List.mem_append.1 hv with h1 | h1
    · exact Int.le_of_lt ((List.pairwise_append.1 h).2.2 v h1 a (by simp))
    · rw [List.mem_singleton] at h1
      rw [h1, hf.self]
      exact Int.le_refl _
theorem top_best {l : List En} {p v : Str} (hv : v ∈ vsort (versL l p)) (h1 : backB l p v = false ∨ backB l p (latestL l p) = true)
    (h2 : (verPre v).length = 0 ∨ 0 < (verPre (latestL l p)).length ∨ backB l p (latestL l p) = true) : verLess (latestL l p) v = false := by
  have hr := vsort_rises (versL l p)
  have hev := ((vsort_mem _ _).1 hv).2
  unfold latestL at *
  rw [← latest_best] at *
  generalize vsort (versL l p) = vs at *
  rcases bestS_spec (rankS l p) vs with ⟨rfl, _⟩ | ⟨k, _, hk, hne, htop⟩
  · cases hv
  · rw [htop] at h1 h2 ⊢
    have hr2 : Rises verCmp (vs.filter fun v => decide (k ≤ rankS l p v)) := List.Pairwise.sublist List.filter_sublist hr
    have hm := List.mem_filter.1 (lastS_mem hne)
    have htk : k ≤ rankS l p (lastS (vs.filter fun v => decide (k ≤ rankS l p v))) := of_decide_eq_true hm.2
    generalize hT : lastS (vs.filter fun v => decide (k ≤ rankS l p v)) = T at *
    have hkv : k ≤ rankS l p v := by
      unfold rankS at htk ⊢
      cases hb : backB l p v with
      | true =>
        have hbt : backB l p T = true := h1.resolve_left (by rw [hb]; simp)
        rw [if_pos hbt] at htk
        simp only [if_true]
        exact htk
      | false =>
        simp only [Bool.false_eq_true, if_false]
        cases hbt : backB l p T with
        | true =>
          rw [if_pos hbt] at htk
          split <;> omega
        | false =>
          rw [if_neg (by rw [hbt]; simp)] at htk
          cases hp : preB v with
          | false =>
            simp only [Bool.false_eq_true, if_false]
            split at htk <;> omega
          | true =>
            have hpl : 0 < (verPre v).length := by
              unfold preB at hp
              rw [decide_eq_false (by rw [hev]; simp), Bool.false_or] at hp
              exact of_decide_eq_true hp
            have hpt : 0 < (verPre T).length := by
              rcases h2 with h | h | h
              · omega
              · exact h
              · rw [hbt] at h; cases h
            have hpT : preB T = true := by
              unfold preB
              rw [decide_eq_true hpt, Bool.or_true]
            rw [if_pos hpT] at htk
            simp only [if_true]
            exact htk
    refine verLess_of_le ?_
    rw [← hT]
    exact lastS_top verCmp_ord hr2 (List.mem_filter.2 ⟨hv, decide_eq_true hkv⟩)
def sumV (l : List En) : List Str → Nat
  | [] => 0
  | p :: r => (versL l p).length + sumV l r
theorem sumV_app (l : List En) : ∀ (a b : List Str), sumV l (a ++ b) = sumV l a + sumV l b
  | [], b => by simp [sumV]
  | p :: r, b => by rw [List.cons_append, sumV, sumV, sumV_app l r b, Nat.add_assoc]
theorem sumV_take (l : List En) (ps : List Str) (k : Nat) : sumV l (ps.take k) ≤ sumV l ps := by
  have h := sumV_app l (ps.take k) (ps.drop k)
  rw [List.take_append_drop] at h
  omega
def cntS (s : Str) : List Str → Nat
  | [] => 0
  | p :: r => (if s = p then 1 else 0) + cntS s r
theorem cntS_out {s : Str} : ∀ {ps : List Str}, s ∉ ps → cntS s ps = 0
  | [], _ => rfl
  | p :: r, h => by
    rw [cntS, if_neg (fun e => h (by rw [e]; simp)), cntS_out (fun hm => h (by simp [hm]))]
theorem cntS_in {s : Str} : ∀ {ps : List Str}, ps.Nodup → s ∈ ps → cntS s ps = 1
  | [], _, h => by cases h
  | p :: r, hn, h => by
    have h1 := List.nodup_cons.1 hn
    by_cases e : s = p
    · subst e
      rw [cntS, if_pos rfl, cntS_out h1.1]
    · rw [cntS, if_neg e, cntS_in h1.2 ((List.mem_cons.1 h).resolve_left e)]
theorem sumV_cons (e : En) (l : List En) : ∀ ps : List Str, sumV (e :: l) ps = cntS e.md.1 ps + sumV l ps
  | [] => rfl
  | p :: r => by
    rw [sumV, sumV, cntS, sumV_cons e l r]
    have : (versL (e :: l) p).length = (if e.md.1 = p then 1 else 0) + (versL l p).length := by
      unfold versL
      by_cases h : e.md.1 = p
      · simp [h]; omega
      · simp [h]
    rw [this]
    omega
theorem sumV_all : ∀ {l : List En} {ps : List Str}, ps.Nodup → (∀ e ∈ l, e.md.1 ∈ ps) → sumV l ps = l.length
  | [], ps, _, _ => by
    have : ∀ ps : List Str, sumV [] ps = 0 := fun ps => by
      induction ps with
      | nil => rfl
      | cons p r ih => rw [sumV, ih]; rfl
    exact this ps
  | e :: l, ps, hn, h => by
    rw [sumV_cons, cntS_in hn (h e (by simp)), sumV_all hn (fun x hx => h x (by simp [hx])), List.length_cons]
    omega
theorem sumV_paths (l : List En) : sumV l (pathsL (l.map (·.md.1))) = l.length := by
  refine sumV_all ?_ fun e he => (pathsL_mem _ _).2 (List.mem_map.2 ⟨e, he, rfl⟩)
  have h := pathsL_rises (l.map (·.md.1))
  unfold Rises at h
  exact h.imp fun {x y} h e => by subst e; rw [compareBytes_ord.self] at h; omega
def noSuch : ByteArray := ⟨#[110, 111, 32, 115, 117, 99, 104]⟩
theorem no_such {l : List En} (hR : RightI l) : latestL l noSuch.data.toList = [] := by
  have h : versL l noSuch.data.toList = [] := by
    refine List.eq_nil_iff_forall_not_mem.2 fun v hv => ?_
    obtain ⟨e, he, h1⟩ := versL_mem.1 hv
    have h2 := (modErr_zero (hR.mds e he)).1
    rw [h1] at h2
    have h3 : pathErr noSuch.data.toList ≠ 0 := by decide +kernel
    exact absurd h2 h3
  unfold latestL
  rw [h]
  rfl
end Go.Proofs.Pw
