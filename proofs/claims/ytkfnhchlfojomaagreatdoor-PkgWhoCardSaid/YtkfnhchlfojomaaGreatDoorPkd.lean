/- Pk: walks and plain laws, joined: PkgMath Own PkgEntries SortLayM SortM VerSort. Conditions: at each theorem. -/
import Derived.Deep.AppendLies
import Derived.Deep.RegionLaw
import Derived.Test.YtkfnhchlfojomaaGreatDoorProg
import Derived.Shelf.SlSortCmp.NoneTotal
import Derived.Test.YtkfnhchlfojomaaGreatDoorShelf
import Derived.Shelf.SlSortCmp.Whole1
import Derived.Stop.IfaceNil
import Derived.Test.YtkfnhchlfojomaaGreatDoorPfa
import Derived.Test.YtkfnhchlfojomaaGreatDoorPfb
import Derived.Test.YtkfnhchlfojomaaGreatDoorPfc
import Derived.Test.YtkfnhchlfojomaaGreatDoorPfd
import Derived.Test.YtkfnhchlfojomaaGreatDoorPfe
import Derived.Test.YtkfnhchlfojomaaGreatDoorPff
import Derived.Test.YtkfnhchlfojomaaGreatDoorPfg
import Derived.Test.YtkfnhchlfojomaaGreatDoorPfh
import Derived.Test.YtkfnhchlfojomaaGreatDoorPfi
import Derived.Test.YtkfnhchlfojomaaGreatDoorPfj
import Derived.Test.YtkfnhchlfojomaaGreatDoorPfk
import Derived.Test.YtkfnhchlfojomaaGreatDoorPfl
import Derived.Test.YtkfnhchlfojomaaGreatDoorPfm
import Derived.Test.YtkfnhchlfojomaaGreatDoorPfn
import Derived.Test.YtkfnhchlfojomaaGreatDoorPfo
import Derived.Test.YtkfnhchlfojomaaGreatDoorPfp
import Derived.Test.YtkfnhchlfojomaaGreatDoorPfq
import Derived.Test.YtkfnhchlfojomaaGreatDoorPfr
import Derived.Test.YtkfnhchlfojomaaGreatDoorPfs
import Derived.Test.YtkfnhchlfojomaaGreatDoorPft
import Derived.Test.YtkfnhchlfojomaaGreatDoorPfu
import Derived.Test.YtkfnhchlfojomaaGreatDoorPfv
import Derived.Test.YtkfnhchlfojomaaGreatDoorPfw
import Derived.Test.YtkfnhchlfojomaaGreatDoorPfx
import Derived.Test.YtkfnhchlfojomaaGreatDoorPfy
import Derived.Test.YtkfnhchlfojomaaGreatDoorPfz
import Derived.Test.YtkfnhchlfojomaaGreatDoorPfza
import Derived.Test.YtkfnhchlfojomaaGreatDoorPfzb
import Derived.Test.YtkfnhchlfojomaaGreatDoorPfzc
import Derived.Test.YtkfnhchlfojomaaGreatDoorPfze
import Derived.Test.YtkfnhchlfojomaaGreatDoorPka
import Derived.Test.YtkfnhchlfojomaaGreatDoorPkb
import Derived.Test.YtkfnhchlfojomaaGreatDoorPkc

namespace Go.Proofs.Pw
open Go.Lib hiding intOf
theorem app_byP (a b : ByteArray) : (a ++ b).data.toList = a.data.toList ++ b.data.toList := by rw [ByteArray.data_append, Array.toList_append]
def packP (p k : Str) : Str := if k = [46] then p else p ++ 47 :: k
def packsP (e : En) : List Str := e.packs.map (packP e.md.1)
def hasK (e : En) (p : Str) : Bool :=
  if p = e.md.1 then decide ([46] ∈ e.packs) else hasPrefix p (e.md.1 ++ [47]) && (!decide (trimPrefix p (e.md.1 ++ [47]) = [46]) && decide (trimPrefix p (e.md.1 ++ [47]) ∈ e.packs))
theorem prefix_of {p a : Str} : hasPrefix p (a ++ [47]) = true ↔ ∃ r, p = a ++ 47 :: r := by
  unfold hasPrefix
  rw [List.isPrefixOf_iff_prefix]
  constructor
  · rintro ⟨r, h⟩
    exact ⟨r, by rw [← h]; simp⟩
  · rintro ⟨r, rfl⟩
    exact ⟨r, by simp⟩
theorem trim_of (a r : Str) : trimPrefix (a ++ 47 :: r) (a ++ [47]) = r := by
  unfold trimPrefix
  rw [if_pos (prefix_of.2 ⟨r, rfl⟩)]
  have : a ++ 47 :: r = (a ++ [47]) ++ r := by simp
  rw [this, List.drop_left]
theorem cons_ne {a r : Str} {c : UInt8} : a ++ c :: r ≠ a := fun h => by
  have := congrArg List.length h
  simp at this
theorem hasK_iff {e : En} {p : Str} : hasK e p = true ↔ p ∈ packsP e := by
  unfold packsP
  rw [List.mem_map]
  unfold hasK
  by_cases h : p = e.md.1
  · rw [if_pos h, decide_eq_true_iff]
    constructor
    · intro h2
      exact ⟨_, h2, by unfold packP; rw [if_pos rfl, h]⟩
    · rintro ⟨k, hk, h2⟩
      unfold packP at h2
      split at h2
      · rename_i h3
        rwa [h3] at hk
      · rw [h] at h2
        exact absurd h2 cons_ne
  · rw [if_neg h, Bool.and_eq_true, Bool.and_eq_true, prefix_of]
    constructor
    · rintro ⟨⟨r, rfl⟩, h2, h3⟩
      rw [trim_of] at h2 h3
      refine ⟨r, of_decide_eq_true h3, ?_⟩
      unfold packP
      rw [if_neg (by simpa using h2)]
    · rintro ⟨k, hk, h2⟩
      unfold packP at h2
      split at h2
      · exact absurd h2.symm h
      · rename_i h3
        subst h2
        rw [trim_of]
        exact ⟨⟨k, rfl⟩, by simpa using h3, decide_eq_true hk⟩
theorem hasK_in (e : En) (p : Str) : hasK e p = decide (p ∈ packsP e) := by
  rw [Bool.eq_iff_iff, hasK_iff, decide_eq_true_iff]
theorem hasK_head {e : En} {p : Str} (h : hasK e p = true) : p = e.md.1 ∨ ∃ r, p = e.md.1 ++ 47 :: r := by
  unfold hasK at h
  by_cases h1 : p = e.md.1
  · exact .inl h1
  · rw [if_neg h1, Bool.and_eq_true] at h
    exact .inr (prefix_of.1 h.1)
def entOf (l : List En) (m : Md) : En := enAt l (findE l m).toNat
theorem entOf_md {l : List En} {m : Md} (h : ∃ e ∈ l, e.md = m) : (entOf l m).md = m ∧ entOf l m ∈ l := by
  have h1 : ¬ findE l m < 0 := fun h2 => by
    obtain ⟨e, he, h3⟩ := h
    exact findE_lt.1 h2 e he h3
  obtain ⟨k, e1, e2, e3⟩ := findE_nat h1
  unfold entOf
  rw [e1]
  exact ⟨e3, enAt_mem e2⟩
def selHas (l : List En) (p : Str) (m : Md) : Bool := hasK (entOf l m) p
def longM (b m : Md) : Md := if b.1.length < m.1.length then m else b
def bestM (out : List Md) : Md := out.foldl longM ([], [])
theorem bestM_filter (f : Md → Bool) (l : List Md) : bestM (l.filter f) = l.foldl (fun b m => if f m then longM b m else b) ([], []) := by
  unfold bestM
  rw [List.foldl_filter]
def ofErr (l : List En) (sel : List Md) (p : Str) : Nat × Int :=
  orE (idxErr l) (if pathErr p ≠ 0 ∧ pathErr p ≠ 4 then (pathErr p, -1) else orE (rootsErr l sel) (if (sel.filter (selHas l p)) = [] then (5, -1) else (0, -1)))
def ofM (l : List En) (sel : List Md) (p : Str) : Md := if (ofErr l sel p).1 = 0 then bestM (sel.filter (selHas l p)) else ([], [])
theorem longM_len (b m : Md) : (longM b m).1.length = max b.1.length m.1.length := by
  unfold longM
  split <;> omega
theorem foldM_len : ∀ (out : List Md) (b : Md), b.1.length ≤ (out.foldl longM b).1.length ∧ ∀ m ∈ out, m.1.length ≤ (out.foldl longM b).1.length
  | [], b => ⟨Nat.le_refl _, fun m h => by cases h⟩
  | x :: r, b => by
    rw [List.foldl_cons]
    obtain ⟨h1, h2⟩ := foldM_len r (longM b x)
    rw [longM_len] at h1
    refine ⟨by omega, fun m h => ?_⟩
    rcases List.mem_cons.1 h with rfl | h
    · omega
    · exact h2 m h
theorem foldM_mem : ∀ (out : List Md) (b : Md), out.foldl longM b = b ∨ out.foldl longM b ∈ out
  | [], _ => .inl rfl
  | x :: r, b => by
    rw [List.foldl_cons]
    rcases foldM_mem r (longM b x) with h | h
    · rw [h]
      unfold longM
      split
      · exact .inr (by simp)
      · exact .inl rfl
    · exact .inr (by simp [h])
theorem bestM_len {out : List Md} {m : Md} (h : m ∈ out) : m.1.length ≤ (bestM out).1.length := (foldM_len out ([], [])).2 m h
theorem bestM_mem {out : List Md} (h : out ≠ []) (hp : ∀ m ∈ out, m.1 ≠ []) : bestM out ∈ out := by
  rcases foldM_mem out ([], []) with h1 | h1
  · exfalso
    obtain ⟨m, hm⟩ := List.exists_mem_of_ne_nil _ h
    have h2 := bestM_len hm
    unfold bestM at h2
    rw [h1] at h2
    exact hp m hm (List.eq_nil_of_length_eq_zero (Nat.le_zero.1 h2))
  · exact h1
theorem bestM_head (x : Md) (r : List Md) (hx : x.1 ≠ []) : bestM (x :: r) = r.foldl longM x := by
  unfold bestM
  rw [List.foldl_cons]
  congr 1
  unfold longM
  rw [if_pos]
  have := List.length_pos_iff.2 hx
  simpa using this
theorem path_ne {p : Str} (h : pathErr p = 0) : p ≠ [] := fun e => by
  rw [e] at h
  exact absurd h (by decide)
theorem pathErr_inP (p : Str) : pathErr p = 0 ∨ pathErr p = 1 ∨ pathErr p = 2 ∨ pathErr p = 4 := by
  unfold pathErr
  simp only
  split
  · exact .inr (.inl rfl)
  · split
    · exact .inr (.inr (.inl rfl))
    · split
      · exact .inr (.inr (.inr rfl))
      · exact .inl rfl
def allP (l : List En) (sel : List Md) : List Str := sel.flatMap fun m => packsP (entOf l m)
def allErr (l : List En) (sel : List Md) : Nat × Int := orE (idxErr l) (rootsErr l sel)
def allK (l : List En) (sel : List Md) : List Str := if (allErr l sel).1 = 0 then pathsL (allP l sel) else []
theorem insUb_lenP (s : Str) : ∀ l : List Str, (insU compareBytes s l).length ≤ l.length + 1
  | [] => by simp [insU]
  | a :: r => by
    have := insUb_lenP s r
    unfold insU
    split
    · simp; omega
    · split <;> simp
theorem insFold_lenP' : ∀ (l o : List Str), (l.foldl (fun o s => insU compareBytes s o) o).length ≤ l.length + o.length
  | [], o => by simp
  | s :: r, o => by
    rw [List.foldl_cons]
    have h1 := insFold_lenP' r (insU compareBytes s o)
    have h2 := insUb_lenP s o
    rw [List.length_cons]
    omega
theorem insFold_lenP (l : List Str) : (pathsL l).length ≤ l.length := by
  have h : (l.foldl (fun o s => insU compareBytes s o) []).length ≤ l.length := by simpa using insFold_lenP' l []
  exact h
def whoL (l : List En) (p : Str) : List Md := ((pathsL (l.map (·.md.1))).map fun q => ((q, latestL l q) : Md)).filter (selHas l p)
def lenDown (a b : Md) : Int := (b.1.length : Int) - a.1.length
theorem lenDown_ord : Ord3 lenDown := ⟨fun a b => by unfold lenDown; omega, fun a b c h1 h2 => by unfold lenDown at *; omega⟩
def whoK (l : List En) (p : Str) : List Md := if (idxErr l).1 = 0 then (whoL l p).reverse else []
theorem cut_count (c : UInt8) : ∀ (s acc : Str), (cutAt c acc s).length = s.count c + 1
  | [], acc => by simp [cutAt]
  | b :: r, acc => by
    rw [cutAt]
    split
    · rename_i h
      rw [List.length_cons, cut_count c r, h]
      simp
    · rename_i h
      rw [cut_count c r, List.count_cons_of_ne h]
theorem split_count (c : UInt8) (s : Str) : (split s [c]).length = s.count c + 1 := by rw [split_eq, cut_count]
theorem pathErr_count {s : Str} (h : pathErr s = 0) : s.count 47 ≤ 4 := by
  have h1 := split_count 47 s
  unfold pathErr at h
  simp only at h
  split at h
  · cases h
  · split at h
    · cases h
    · rename_i h2
      have : ¬ 5 < (split s [47]).length := fun h3 => h2 (.inl h3)
      omega
theorem ahead_of {p a b : Str} (ha : p = a ∨ ∃ r, p = a ++ 47 :: r) (hb : p = b ∨ ∃ r, p = b ++ 47 :: r) (h : compareBytes a b < 0) : ∃ r, b = a ++ 47 :: r := by
  have key0 : ∀ (x r : Str), 0 < compareBytes (x ++ 47 :: r) x := fun x r => by
    induction x with
    | nil => simp [compareBytes]
    | cons c x ih =>
      rw [List.cons_append]
      unfold compareBytes
      simpa using ih
  have key : ∀ {x y r : Str}, y = x ++ 47 :: r → 0 < compareBytes y x := fun {x y r} e => by
    rw [e]
    exact key0 x r
  have anti := fun x y => compareBytes_ord.anti x y
  rcases ha with rfl | ⟨r, rfl⟩
  · rcases hb with rfl | ⟨r, rfl⟩
    · rw [compareBytes_ord.self] at h; exact absurd h (by decide)
    · have := key (rfl : b ++ 47 :: r = b ++ 47 :: r)
      omega
  · rcases hb with hb | ⟨s, hb⟩
    · exact ⟨r, hb.symm⟩
    · rcases Nat.lt_trichotomy a.length b.length with h1 | h1 | h1
      · have e : b = (a ++ 47 :: r).take b.length := by rw [hb]; simp
        rw [List.take_append, List.take_of_length_le (by omega)] at e
        obtain ⟨n, hn⟩ : ∃ n, b.length - a.length = n + 1 := ⟨b.length - a.length - 1, by omega⟩
        rw [hn, List.take_succ_cons] at e
        exact ⟨_, e⟩
      · have e : b = (a ++ 47 :: r).take b.length := by rw [hb]; simp
        rw [← h1, List.take_left] at e
        rw [e, compareBytes_ord.self] at h
        exact absurd h (by decide)
      · have e : a = (b ++ 47 :: s).take a.length := by rw [← hb]; simp
        rw [List.take_append, List.take_of_length_le (by omega)] at e
        obtain ⟨n, hn⟩ : ∃ n, a.length - b.length = n + 1 := ⟨a.length - b.length - 1, by omega⟩
        rw [hn, List.take_succ_cons] at e
        have := key e
        have := anti a b
        omega
theorem whoL_grow {l : List En} {p : Str} (hi : RightI l) : (whoL l p).Pairwise fun a b => a.1.length < b.1.length ∧ a.1.count 47 < b.1.count 47 := by
  unfold whoL
  have hr := pathsL_rises (l.map (·.md.1))
  unfold Rises at hr
  have hm : ∀ q ∈ pathsL (l.map (·.md.1)), ∃ e ∈ l, e.md = (q, latestL l q) := fun q hq => by
    obtain ⟨e, he, h1⟩ := List.mem_map.1 ((pathsL_mem _ _).1 hq)
    have := latest_in hi he rfl
    rw [h1] at this
    exact this
  generalize pathsL (l.map (·.md.1)) = qs at hr hm
  rw [List.filter_map, List.pairwise_map]
  have hr2 := List.Pairwise.sublist (List.filter_sublist (p := selHas l p ∘ fun q => ((q, latestL l q) : Md)) (l := qs)) hr
  refine hr2.imp_of_mem fun {a b} ha hb h => ?_
  have ha2 := List.mem_filter.1 ha
  have hb2 := List.mem_filter.1 hb
  have e1 := (entOf_md (hm a ha2.1)).1
  have e2 := (entOf_md (hm b hb2.1)).1
  have h1 := hasK_head (show hasK (entOf l (a, latestL l a)) p = true from ha2.2)
  have h2 := hasK_head (show hasK (entOf l (b, latestL l b)) p = true from hb2.2)
  rw [e1] at h1
  rw [e2] at h2
  obtain ⟨r, rfl⟩ := ahead_of h1 h2 h
  refine ⟨by simp, ?_⟩
  show a.count 47 < (a ++ 47 :: r).count 47
  rw [List.count_append, List.count_cons_self]
  omega
theorem pair_len {f : Md → Nat} {n : Nat} : ∀ {l : List Md}, (∀ x ∈ l, f x < n) → (l.Pairwise fun a b => f a < f b) → l.length ≤ n := by
  intro l
  induction l using snoc_ind generalizing n with
  | h0 => intro _ _; exact Nat.zero_le _
  | h1 l a ih =>
    intro h1 h2
    rw [List.pairwise_append] at h2
    have h3 := ih (n := f a) (fun x hx => h2.2.2 x hx a (by simp)) h2.1
    have h4 := h1 a (by simp)
    rw [List.length_append]
    simp
    omega
theorem whoL_mem {l : List En} {p : Str} (hi : RightI l) {m : Md} (h : m ∈ whoL l p) : m.2 = latestL l m.1 ∧ (∃ e ∈ l, e.md = m) ∧ m.1 ∈ pathsL (l.map (·.md.1)) ∧ selHas l p m = true := by
  unfold whoL at h
  obtain ⟨h1, h2⟩ := List.mem_filter.1 h
  obtain ⟨q, hq, rfl⟩ := List.mem_map.1 h1
  refine ⟨rfl, ?_, hq, h2⟩
  obtain ⟨e, he, h1⟩ := List.mem_map.1 ((pathsL_mem _ _).1 hq)
  have := latest_in hi he rfl
  rw [h1] at this
  exact this
theorem whoL_len {l : List En} {p : Str} (hi : RightI l) : (whoL l p).length ≤ 5 := by
  refine pair_len (f := fun m => m.1.count 47) (fun x hx => ?_) ((whoL_grow hi).imp fun h => h.2)
  obtain ⟨_, ⟨e, he, h1⟩, _⟩ := whoL_mem hi hx
  have h2 := (modErr_zero (hi.mds e he)).1
  rw [h1] at h2
  have := pathErr_count h2
  show x.1.count 47 < 5
  omega
theorem whoL_down {l : List En} {p : Str} (hi : RightI l) : Rises lenDown (whoL l p).reverse := by
  unfold Rises
  rw [List.pairwise_reverse]
  exact (whoL_grow hi).imp fun h => by unfold lenDown; omega
def whoR (l : List En) (p : Str) : Nat → List Md
  | 0 => []
  | n + 1 => (whoL l p).filter (fun m => decide (m.1.length = n + 1)) ++ whoR l p n
theorem whoR_mem {l : List En} {p : Str} {m : Md} : ∀ {n : Nat}, m ∈ whoR l p n ↔ m ∈ whoL l p ∧ 1 ≤ m.1.length ∧ m.1.length ≤ n
  | 0 => by
    rw [whoR]
    constructor
    · intro h; cases h
    · rintro ⟨_, h1, h2⟩; omega
  | n + 1 => by
    rw [whoR, List.mem_append, List.mem_filter, decide_eq_true_iff, whoR_mem (n := n)]
    constructor
    · rintro (⟨h1, h2⟩ | ⟨h1, h2, h3⟩)
      · exact ⟨h1, by omega, by omega⟩
      · exact ⟨h1, h2, by omega⟩
    · rintro ⟨h1, h2, h3⟩
      by_cases e : m.1.length = n + 1
      · exact .inl ⟨h1, e⟩
      · exact .inr ⟨h1, h2, by omega⟩
theorem whoR_down {l : List En} {p : Str} (hi : RightI l) : ∀ n : Nat, Rises lenDown (whoR l p n)
  | 0 => List.Pairwise.nil
  | n + 1 => by
    rw [whoR]
    unfold Rises
    rw [List.pairwise_append]
    refine ⟨?_, whoR_down hi n, fun a ha b hb => ?_⟩
    · have h1 := List.Pairwise.sublist (List.filter_sublist (p := fun m : Md => decide (m.1.length = n + 1)) (l := whoL l p)) (whoL_grow hi)
      refine h1.imp_of_mem fun {a b} ha hb h => ?_
      have e1 := of_decide_eq_true (List.mem_filter.1 ha).2
      have e2 := of_decide_eq_true (List.mem_filter.1 hb).2
      omega
    · have e1 := of_decide_eq_true (List.mem_filter.1 ha).2
      have e2 := whoR_mem.1 hb
      unfold lenDown
      omega
theorem whoR_all {l : List En} {p : Str} (hi : RightI l) (hl : ∀ e ∈ l, e.md.1.length ≤ 100) : whoR l p 100 = (whoL l p).reverse := by
  refine rises_ext lenDown_ord (whoR_down hi 100) (whoL_down hi) fun m => ?_
  rw [whoR_mem, List.mem_reverse]
  constructor
  · exact fun h => h.1
  · intro h
    obtain ⟨_, ⟨e, he, h1⟩, _⟩ := whoL_mem hi h
    have h2 := (modErr_zero (hi.mds e he)).1
    rw [h1] at h2
    have h3 := List.length_pos_iff.2 (path_ne h2)
    have h4 := hl e he
    rw [h1] at h4
    exact ⟨h, h3, h4⟩
theorem sorted_down {l : List En} {p : Str} (hi : RightI l) {out : List Md} (hp : out.Perm (whoL l p)) (hs : out.Pairwise fun a b => lenDown a b ≤ 0) : out = (whoL l p).reverse := by
  refine rises_ext lenDown_ord ?_ (whoL_down hi) fun m => by rw [hp.mem_iff, List.mem_reverse]
  have hd : (out.map fun m => m.1.length).Nodup := by
    refine (hp.map _).nodup_iff.2 ?_
    unfold List.Nodup
    rw [List.pairwise_map]
    exact (whoL_grow hi).imp fun h => by omega
  unfold List.Nodup at hd
  rw [List.pairwise_map] at hd
  unfold Rises
  refine (hs.and hd).imp fun h => ?_
  unfold lenDown at *
  omega
end Go.Proofs.Pw

namespace Go.Proofs.Pw
open Go.RowKit
open Go.Lib hiding intOf
theorem cell_two_new (w : World) (x y : ByteArray) (t : TypeId) : ∀ j u, ([.string x, .string y] : List Value)[j]? = some u → (w.alloc (.cells #[.string x, .string y] t)).cell? ((⟨w.heap.size, 0, none⟩ : Addr).add j) = some u :=
  World.news_of_block (cs := #[.string x, .string y]) (Go.Deep.blk_alloc_new w _)
theorem mdVs_snoc (l : List (ByteArray × ByteArray)) (x y : ByteArray) : mdVs l ++ [.string x, .string y] = mdVs (l ++ [(x, y)]) := by rw [mdVs_append]; rfl
end Go.Proofs.Pw

namespace Go.Proofs.Pw
open Go.RowKit
open Go.Lib hiding intOf
theorem entsAt_own2 {w : World} {base n : Nat} {e : TypeId} {v : Value} {P V : Nat → ByteArray} {R : Nat → List Md} {K : Nat → List Str} {B : Nat → Bool} {Rv Kv : Nat → Value} (h : w.ownsRow base e 5 v n (enVs P V Rv Kv B n)) (hR : ∀ j, j < n → ModsAt w (Rv j) (R j)) (hK : ∀ j, j < n → StrsAt w (Kv j) (K j)) : EntsAt w v (enF n P V R K B) := by
  rcases h.2 with ⟨rfl, h0⟩ | ⟨g, cap, cur, rfl, hb, hg, hn, hm, hs, ht⟩
  · subst h0
    exact EntsAt.nil w
  · refine ⟨some ⟨g, 0, none⟩, n, cap, P, V, R, K, B, Rv, Kv, rfl, rfl, hn, by unfold maxLen at hm; exact hm, fun j hj => ⟨g, 0, rfl, ?_⟩, hR, hK⟩
    have hcell : ∀ c u, c < 5 → (ec P V Rv Kv B j)[c]? = some u → w.cell? ⟨g, 0 + j * 5 + c, none⟩ = some u := fun c u hc hu => by
      rw [← enVs_get P V Rv Kv B n j c hj hc, ← ht, List.getElem?_take, if_pos (by omega)] at hu
      rw [Nat.zero_add, cell_of_row w g _ cur e (0, 0) hg]
      simpa using hu
    exact ⟨hcell 0 _ (by decide) rfl, hcell 1 _ (by decide) rfl, hcell 2 _ (by decide) rfl, hcell 3 _ (by decide) rfl, hcell 4 _ (by decide) rfl⟩
set_option maxHeartbeats 8000000 in
set_option maxRecDepth 100000 in
theorem pkgEntries_in (ks : List Nat) (A : Nat → Addr) (hks : IdxKs ks) (a : Option Addr) (n cap : Nat) (P V : Nat → ByteArray) (R : Nat → List Md) (K : Nat → List Str) (B : Nat → Bool) (Rv Kv : Nat → Value) (sv : Value) (sel : List Md) (w : World) (hE : EnvP ks A w) (h : EntsIn w a n cap P V R K B Rv Kv) (hn : n ≤ 1000000) (hr : ModsAt w sv sel) (hl : sel.length ≤ 1000000) :
    Calls Tryz.prog 106 #[.slice a n cap, sv] w fun e w' => (∃ v ev, e = .returned (.tuple #[v, ev]) ∧ FaultAt A w' ev (rootsErr (enF n P V R K B) sel) ∧ ((rootsErr (enF n P V R K B) sel).1 = 0 → EntsAt w' v (sel.map (entOf (enF n P V R K B)))) ∧ ((rootsErr (enF n P V R K B) sel).1 ≠ 0 → v = .slice none 0 0)) ∧ Below w.heap.size w w' := by
  obtain ⟨i0, hi, hz0, hz1, hz2⟩ := info_parts Tryz.infoEnt
  obtain ⟨a2, m, cap2, Q, U, rfl, rfl, hmc, hcap2, hc2⟩ := hr
  rw [mdF_length] at hl
  have HFE : Hid (rootsErr (enF n P V R K B) (mdF m Q U) = firstE (rootE (enF n P V R K B) (mdF m Q U)) m) := Lib.hid (by unfold rootsErr; rw [mdF_length])
  have hfo := fun (p v : ByteArray) (W : World) (hb : Below w.heap.size w W) => idxFind_in a n cap P V R K B Rv Kv p v W (h.below hb) hn
  obtain ⟨f, hf⟩ : ∃ f : Nat → Nat, ∀ j, f j = (findE (enF n P V R K B) ((Q j).data.toList, (U j).data.toList)).toNat := ⟨_, fun _ => rfl⟩
  have HF0 : Hid (∀ j, ¬ findE (enF n P V R K B) ((Q j).data.toList, (U j).data.toList) < 0 → findE (enF n P V R K B) ((Q j).data.toList, (U j).data.toList) = (f j : Int) ∧ f j < n) := Lib.hid (fun j hj => by
    obtain ⟨k, e1, e2, _⟩ := findE_nat hj
    rw [enF_length] at e2
    rw [hf, e1]
    exact ⟨rfl, e2⟩)
  have HFN := Lib.hid hf
  have H := Lib.hid h
  replace hc2 := Lib.hid hc2
  replace hfo := Lib.hid hfo
  clear h hf
  go_enter Tryz.func106, Tryz.ntmps106
  go_wp2_with fail
  go_loopw [6, 12] (fun o i wr => ∃ k : Nat, k ≤ m ∧ i = .int .i64 k ∧ Hid (wr.ownsRow w.heap.size 37 5 o k (enVs (fun j => P (f j)) (fun j => V (f j)) (fun j => Rv (f j)) (fun j => Kv (f j)) (fun j => B (f j)) k)) ∧ Below w.heap.size w wr ∧ Hid (∀ j, j < k → rootE (enF n P V R K B) (mdF m Q U) j = 0)) (fun _ i _ => m - (intOf i).toNat)
  case atStart => exact ⟨0, Nat.zero_le _, rfl, Lib.hid (World.ownsRow_nil _ _ _ _), Below.refl _ _, Lib.hid (fun j hj => absurd hj (Nat.not_lt_zero _))⟩
  case round =>
    obtain ⟨k, hk, rfl, hO, hBr, HA⟩ := hrel
    by_cases hlt : k < m
    · obtain ⟨ao, no, co, rfl⟩ := own_form hO.out
      have hkn : (k : Int) < (m : Int) := by omega
      obtain ⟨b1, o1, ea, c0, c1⟩ := hc2.out k hlt
      replace c0 := Below.cell_some hBr c0
      replace c1 := Below.cell_some hBr c1
      subst ea
      have hba := below_alloc wr (.cells #[.string (Q k), .string (U k)] 29)
      obtain ⟨y0, y1, _⟩ := box2_alloc wr (.string (Q k)) (.string (U k)) 29
      have hB2 := below_step hBr hba
      have hO2 := Lib.hid (hO.out.below hba)
      have hf := hfo.out (Q k) (U k) _ hB2
      have hR : rootE (enF n P V R K B) (mdF m Q U) k = if findE (enF n P V R K B) ((Q k).data.toList, (U k).data.toList) < 0 then 5 else 0 := by
        unfold rootE
        rw [mdAt_mdF hlt]
      have hpos := HF0.out k
      generalize findE (enF n P V R K B) ((Q k).data.toList, (U k).data.toList) = x at hf hR hpos
      by_cases hx : x < 0
      · rw [if_pos hx] at hR
        have HF : Hid (rootsErr (enF n P V R K B) (mdF m Q U) = (5, (k : Int))) := Lib.hid (by rw [HFE.out, firstE_hit (by rw [hR]; decide) HA.out hlt, hR])
        replace hf := Lib.hid hf
        clear hR hpos hO hO2 hk
        go_wp2_with fail
        refine hf.out.mono ?_
        rintro e w8 ⟨rfl, hb8⟩
        have hE8 := (hE.below hB2).below hb8
        have g5 := hE8.errs.var 5 hks.2.2.1
        simp only [errG] at g5
        go_wp2_with fail
        go_region
        all_goals
          go_wp2_with fail
          go_ret2
          rw [HF.out]
          refine ⟨⟨_, _, rfl, .inr (.inr ⟨(show (5 : Nat) ≠ 0 by decide), w8.heap.size, rfl, by simp, ?_⟩), fun h => absurd h (show (5 : Nat) ≠ 0 by decide), fun _ => rfl⟩, (below_step hB2 hb8).drew.alloc (below_step hB2 hb8).size _⟩
          show _ = some (errV A 5)
          rw [errV_pos A (show (5 : Nat) ≠ 0 by decide)]
          simp
      · rw [if_neg hx] at hR
        have HN : Hid (∀ j, j < k + 1 → rootE (enF n P V R K B) (mdF m Q U) j = 0) := Lib.hid (fun j hj => by
          by_cases e : j = k
          · subst e; exact hR
          · exact HA.out j (by omega))
        obtain ⟨rfl, hq⟩ := hpos (by omega)
        have hq' : ¬ ((f k : Nat) : Int) < 0 := by omega
        have hqn : ((f k : Nat) : Int) < (n : Int) := by omega
        obtain ⟨a1, n1, s1, aK, nK, cK, e1, e2⟩ := H.out.forms2 hq
        have hEN : enVs (fun j => P (f j)) (fun j => V (f j)) (fun j => Rv (f j)) (fun j => Kv (f j)) (fun j => B (f j)) (k + 1) = enVs (fun j => P (f j)) (fun j => V (f j)) (fun j => Rv (f j)) (fun j => Kv (f j)) (fun j => B (f j)) k ++ [.string (P (f k)), .string (V (f k)), .slice a1 n1 s1, .slice aK nK cK, .bool (B (f k))] := by
          rw [enVs_succ]
          show _ ++ [.string (P (f k)), .string (V (f k)), Rv (f k), Kv (f k), .bool (B (f k))] = _
          rw [e1, e2]
        have HEN := Lib.hid hEN
        replace hf := Lib.hid hf
        clear hR hpos hO hx hEN
        go_wp2_with fail
        refine hf.out.mono ?_
        rintro e w8 ⟨rfl, hb8⟩
        have hO8 := Lib.hid (hO2.out.below hb8)
        have hB8 := below_step hB2 hb8
        obtain ⟨b3, o3, ea, hcell⟩ := (H.out.below hB8).at_ (f k) hq
        rw [e1, e2] at hcell
        obtain ⟨d0, d1, d2, d3, d4⟩ := hcell
        subst ea
        have hnew := World.news_of_block (cs := #[.string (P (f k)), .string (V (f k)), .slice a1 n1 s1, .slice aK nK cK, .bool (B (f k))]) (Go.Deep.blk_alloc_new w8 (.cells #[.string (P (f k)), .string (V (f k)), .slice a1 n1 s1, .slice aK nK cK, .bool (B (f k))] 37))
        have HNW := Lib.hid hnew
        have hs8 := hB8.size
        clear hf e1 e2 hO2 hnew hb8 y0 y1 c0 c1 hba hB2
        go_wp2_with (at_builtin; refine wpList_append_own _ rfl _ _ 22 rfl w.heap.size 37 i0 (.agg #[.string ⟨#[]⟩, .string ⟨#[]⟩, .slice none 0 0, .slice none 0 0, .bool false]) 5 88 Tryz.underlying22 hi hz0 hz1 hz2 rfl (by decide) _ _ _ rfl (hO8.out.alloc _) ⟨w8.heap.size, 0, none⟩ 1 1 [.string (P (f k)), .string (V (f k)), .slice a1 n1 s1, .slice aK nK cK, .bool (B (f k))] rfl rfl HNW.out (by intro u hu; simp at hu; rcases hu with rfl | rfl | rfl | rfl | rfl <;> rfl) (by unfold maxLen; omega) (by omega) (by simp; omega) ?_; intro o' w6 hown6 hgrow6 _)
        go_roundw
        case rel =>
          refine ⟨k + 1, by omega, by go_num, Lib.hid ?_, ?_, HN⟩
          · rw [HEN.out]; exact hown6
          · exact (hB8.alloc hs8 _).grown hgrow6 (by simp; omega) (fun q hq => (hO8.out.lt q hq).1)
        case measure => simp [intOf]; omega
    · obtain rfl : m = k := by omega
      have HF : Hid (rootsErr (enF n P V R K B) (mdF m Q U) = (0, -1)) := Lib.hid (by rw [HFE.out, firstE_none HA.out])
      have hfm : ∀ j, j < m → f j < n := fun j hj => by
        have h1 := HA.out j hj
        unfold rootE at h1
        rw [mdAt_mdF hj] at h1
        by_cases h2 : findE (enF n P V R K B) ((Q j).data.toList, (U j).data.toList) < 0
        · rw [if_pos h2] at h1; cases h1
        · exact (HF0.out j (by omega)).2
      have hfin := entsAt_own2 hO.out (R := fun j => R (f j)) (K := fun j => K (f j)) (fun j hj => (H.out.below hBr).reqs _ (hfm j hj)) (fun j hj => (H.out.below hBr).packs _ (hfm j hj))
      have hmap : enF m (fun j => P (f j)) (fun j => V (f j)) (fun j => R (f j)) (fun j => K (f j)) (fun j => B (f j)) = (mdF m Q U).map (entOf (enF n P V R K B)) := by
        apply List.ext_getElem?
        intro i
        by_cases hi : i < m
        · rw [enF_get _ _ _ _ _ _ i hi, List.getElem?_map, mdF_get _ _ _ i hi]
          show some _ = some (entOf _ _)
          unfold entOf
          rw [← HFN.out, enAt_enF (hfm i hi)]
        · rw [List.getElem?_eq_none (by rw [enF_length]; omega), List.getElem?_eq_none (by rw [List.length_map, mdF_length]; omega)]
      rw [hmap] at hfin
      obtain ⟨ao, no, co, rfl⟩ := own_form hO.out
      replace hfin := Lib.hid hfin
      clear hmap hfm hO
      go_wp2_with fail
      go_ret2
      rw [HF.out]
      exact ⟨⟨_, _, rfl, .inl ⟨rfl, rfl, rfl⟩, fun _ => hfin.out, fun h => absurd rfl h⟩, hBr⟩
end Go.Proofs.Pw

namespace Go.Proofs.Pw
open Go.RowKit
def laysSortMR : Go.Shelf.Ren := ⟨fun | 6 => 157 | 14 => 202 | 15 => 167 | 20 => 226 | 21 => 257 | 22 => 258 | 23 => 259 | 24 => 260 | 25 => 261 | 26 => 262 | 27 => 263 | 28 => 214 | 29 => 215 | 46 => 289 | 47 => 265 | 48 => 266 | 49 => 290 | 50 => 291 | 57 => 300 | n => n,
  fun | 0 => 0 | 3 => 3 | 4 => 4 | 5 => 5 | 9 => 9 | 22 => 23 | 24 => 29 | 25 => 166 | 39 => 170 | 45 => 233 | 46 => 234 | 50 => 238 | 53 => 33 | 55 => 116 | 66 => 287 | 70 => 291 | 76 => 308 | 77 => 111 | n => n, fun n => n⟩
theorem laysSortM : Go.Proofs.SlLaysF0.n6 Tryz.prog laysSortMR := {
  mixed := by kernel_rfl
  f6 := ⟨Tryz.f157.name, by decide, Tryz.func157.trans (congrArg some (by kernel_rfl))⟩
  f14 := ⟨Tryz.f202.name, by decide, Tryz.func202.trans (congrArg some (by kernel_rfl))⟩
  f15 := Tryz.func167.trans (congrArg some (by kernel_rfl))
  f20 := ⟨Tryz.f226.name, by decide, Tryz.func226.trans (congrArg some (by kernel_rfl))⟩
  f21 := ⟨Tryz.f257.name, by decide, Tryz.func257.trans (congrArg some (by kernel_rfl))⟩
  f22 := ⟨Tryz.f258.name, by decide, Tryz.func258.trans (congrArg some (by kernel_rfl))⟩
  f23 := ⟨Tryz.f259.name, by decide, Tryz.func259.trans (congrArg some (by kernel_rfl))⟩
  f24 := ⟨Tryz.f260.name, by decide, Tryz.func260.trans (congrArg some (by kernel_rfl))⟩
  f25 := ⟨Tryz.f261.name, by decide, Tryz.func261.trans (congrArg some (by kernel_rfl))⟩
  f26 := ⟨Tryz.f262.name, by decide, Tryz.func262.trans (congrArg some (by kernel_rfl))⟩
  f27 := ⟨Tryz.f263.name, by decide, Tryz.func263.trans (congrArg some (by kernel_rfl))⟩
  f28 := Tryz.func214.trans (congrArg some (by kernel_rfl))
  f29 := Tryz.func215.trans (congrArg some (by kernel_rfl))
  f46 := ⟨Tryz.f289.name, by decide, Tryz.func289.trans (congrArg some (by kernel_rfl))⟩
  f47 := Tryz.func265.trans (congrArg some (by kernel_rfl))
  f48 := Tryz.func266.trans (congrArg some (by kernel_rfl))
  f49 := ⟨Tryz.f290.name, by decide, Tryz.func290.trans (congrArg some (by kernel_rfl))⟩
  f50 := ⟨Tryz.f291.name, by decide, Tryz.func291.trans (congrArg some (by kernel_rfl))⟩
  f57 := ⟨Tryz.f300.name, by decide, Tryz.func300.trans (congrArg some (by kernel_rfl))⟩
  t0 := Tryz.underlying0
  a0 := Tryz.isAgg0
  z0 := Tryz.sizeOf0
  v0 := Tryz.zeroValue0
  t3 := Tryz.underlying3
  a3 := Tryz.isAgg3
  z3 := Tryz.sizeOf3
  v3 := Tryz.zeroValue3
  t4 := Tryz.underlying4
  a4 := Tryz.isAgg4
  z4 := Tryz.sizeOf4
  v4 := Tryz.zeroValue4
  t5 := Tryz.underlying5
  a5 := Tryz.isAgg5
  z5 := Tryz.sizeOf5
  v5 := Tryz.zeroValue5
  t9 := Tryz.underlying9
  a9 := Tryz.isAgg9
  z9 := Tryz.sizeOf9
  v9 := Tryz.zeroValue9
  t22 := Tryz.underlying23
  a22 := Tryz.isAgg23
  z22 := Tryz.sizeOf23
  v22 := Tryz.zeroValue23
  t25 := Tryz.underlying166
  a25 := Tryz.isAgg166
  z25 := Tryz.sizeOf166
  v25 := Tryz.zeroValue166
  t39 := Tryz.underlying170
  a39 := Tryz.isAgg170
  z39 := Tryz.sizeOf170
  v39 := Tryz.zeroValue170
  t45 := Tryz.underlying233
  a45 := Tryz.isAgg233
  z45 := Tryz.sizeOf233
  v45 := Tryz.zeroValue233
  t46 := Tryz.underlying234
  a46 := Tryz.isAgg234
  z46 := Tryz.sizeOf234
  v46 := Tryz.zeroValue234
  t50 := Tryz.underlying238
  a50 := Tryz.isAgg238
  z50 := Tryz.sizeOf238
  v50 := Tryz.zeroValue238
  t53 := Tryz.underlying33
  a53 := Tryz.isAgg33
  z53 := Tryz.sizeOf33
  v53 := Tryz.zeroValue33
  t55 := Tryz.underlying116
  a55 := Tryz.isAgg116
  z55 := Tryz.sizeOf116
  v55 := Tryz.zeroValue116
  t66 := Tryz.underlying287
  a66 := Tryz.isAgg287
  z66 := Tryz.sizeOf287
  v66 := Tryz.zeroValue287
  t70 := Tryz.underlying291
  a70 := Tryz.isAgg291
  z70 := Tryz.sizeOf291
  v70 := Tryz.zeroValue291
  t76 := Tryz.underlying308
  a76 := Tryz.isAgg308
  z76 := Tryz.sizeOf308
  v76 := Tryz.zeroValue308
  t77 := Tryz.underlying111
  a77 := Tryz.isAgg111
  z77 := Tryz.sizeOf111
  v77 := Tryz.zeroValue111 }
end Go.Proofs.Pw

namespace Go.Proofs.Pw
open Go.RowKit
open Go.Proofs Go.Sort
open Go.Lib hiding intOf
theorem swo_of {α : Type} {f : α → α → Int} (h : Ord3 f) : SWO (ltOf f) := by
  refine ⟨fun x => ?_, fun x y z h1 h2 => ?_, fun x y z h1 h2 => ?_⟩
  · unfold ltOf
    rw [h.self]; rfl
  · unfold ltOf at *
    rw [decide_eq_true_iff] at *
    have a1 := h.tr x y z (by omega) (by omega)
    rcases Int.lt_or_eq_of_le a1 with a2 | a2
    · exact a2
    · exfalso
      have a3 := h.zero a2
      have a4 := h.tr z x y (by omega) (by omega)
      have a5 := (h.anti y z).1 h2
      omega
  · unfold ltOf at *
    rw [decide_eq_false_iff_not] at *
    intro h3
    have b1 := (h.anti x z).1 h3
    have b2 := h.anti y x
    have b3 := h.anti z y
    have b4 := h.anti x y
    have b5 := h.anti y z
    have := h.tr z y x (by omega) (by omega)
    omega
end Go.Proofs.Pw

namespace Go.Proofs.Pw
open Go.RowKit Go.Sort
open Go.Lib hiding intOf
set_option maxHeartbeats 1000000 in
set_option maxRecDepth 100000 in
theorem verSort_calls (ks : List Nat) (A : Nat → Addr) (v : Value) (l : List Str) (w : World) (hE : EnvP ks A w) (hS : StrsAt w v l) (hn : l.length ≤ 1000000) (hl : ∀ x ∈ l, x.length ≤ 1000000000) :
    Calls Tryz.prog 80 #[v] w fun e w' => (∃ v', e = .returned v' ∧ StrsAt w' v' (vsort l)) ∧ Below w.heap.size w w' := by
  obtain ⟨a, n, cap, L, rfl, rfl, hnc, hcap, hc⟩ := hS
  rw [lstF_length] at hn
  have hcl := cloneS_calls a n cap L w (by omega) hc
  have hsn := AnyF.slices_SortFunc_none (P := Tryz.prog) (ρ := laysSortSR) { laysSortS with }
  have hce := Tryz.slices_Compact_string_empty
  have HL := Lib.hid hl
  replace hcl := Lib.hid hcl
  replace hsn := Lib.hid hsn
  replace hce := Lib.hid hce
  clear hc hl
  go_enter Tryz.func80, Tryz.ntmps80
  go_wp2_with fail
  refine hcl.out.mono ?_
  rintro e w1 ⟨h, hb1⟩
  rcases h with ⟨rfl, rfl⟩ | ⟨g, c, rfl, h1, h2, h3, h4, h5⟩
  · go_wp2_with fail
    refine (deleteFunc_nil _ 0 _).mono ?_
    rintro e w' ⟨rfl, rfl⟩
    go_wp2_with fail
    refine (hsn.out none 0 _ _).mono ?_
    rintro e w' ⟨rfl, rfl⟩
    go_wp2_with fail
    refine (hce.out none 0 _).mono ?_
    rintro e w' ⟨rfl, rfl⟩
    go_wp2_with fail
    go_ret
    exact ⟨⟨_, rfl, StrsAt.nil _⟩, hb1⟩
  · have hdz : (lstF n L).toArray.size = n := by rw [List.size_toArray, lstF_length]
    have hT : TestsB 141 #[] (fun s => !decide (verErr s = 0)) (lstF n L).toArray.toList w.heap.size w1 := by
      intro W hB s hs
      obtain ⟨j, hj, rfl⟩ := lstF_mem'.1 (by simpa using hs)
      have := verSort1_calls ks A (L j) W (hE.below (hb1.trans hB)) (by rw [size_eq]; exact HL.out _ (lstF_mem'.2 ⟨j, hj, rfl⟩))
      rw [← bytes_back (L j)] at this
      exact this
    have hD := deleteFunc_calls 141 #[] Tryz.enters_sort1 (fun s => !decide (verErr s = 0)) g 0 c w.heap.size (lstF n L).toArray w1 (by rw [hdz]; omega) (by rw [hdz]; exact h3) h1 h2 h5 hT
    rw [hdz] at hD
    have hfe : ((lstF n L).toArray.toList.filter fun x => !(!decide (verErr x = 0))) = (lstF n L).filter fun x => decide (verErr x = 0) := by
      congr 1; funext x; simp
    simp only [hfe] at hD
    obtain ⟨m, hm⟩ := map_sub (P := OkV) ((lstF n L).filter fun x => decide (verErr x = 0)) (fun x hx => ⟨by have := (List.mem_filter.1 hx).2; simpa using this, HL.out x (List.mem_filter.1 hx).1⟩)
    have hml : ((lstF n L).filter fun x => decide (verErr x = 0)).length = m.length := by rw [← hm, List.length_map]
    have hmn : m.length ≤ n := by
      have := List.length_filter_le (fun x => decide (verErr x = 0)) (lstF n L)
      rw [lstF_length, hml] at this
      exact this
    have hma : m.toArray.map (·.1) = ((lstF n L).filter fun x => decide (verErr x = 0)).toArray := by rw [← hm]; simp
    rw [hml, ← hma] at hD
    have hmem : ∀ x : RV, x ∈ m ↔ x.1 ∈ lstF n L := by
      intro x
      constructor
      · intro hx
        have : x.1 ∈ m.map (·.1) := List.mem_map.2 ⟨x, hx, rfl⟩
        rw [hm] at this
        exact (List.mem_filter.1 this).1
      · intro hx
        have : x.1 ∈ m.map (·.1) := by rw [hm]; exact List.mem_filter.2 ⟨hx, by simpa using x.2.1⟩
        obtain ⟨y, hy, e⟩ := List.mem_map.1 this
        have : y = x := Subtype.ext e
        rw [← this]; exact hy
    have HM := Lib.hid hmem
    replace hD := Lib.hid hD
    clear hT hfe hm hma hmem hcl
    go_wp2_with fail
    refine hD.out.mono ?_
    rintro e w2 ⟨rfl, hb2, h6⟩
    have hb02 := hb1.trans hb2
    have hso := sortV_calls ks A w w2 hE g c m.toArray hb02 h1 (Nat.lt_of_lt_of_le h2 hb2.size) (holds_rv.2 h6) (by simp; omega)
    rw [List.size_toArray] at hso
    replace hso := Lib.hid hso
    clear hD h6
    go_wp2_with fail
    refine hso.out.mono ?_
    rintro e w3 ⟨rfl, d', hd1, hd2, hd3, hd4, hd5, hb3⟩
    have hdm : (d'.map (·.1)).size = m.length := by rw [Array.size_map, hd1]
    have hH3 := holds_rv.1 hd4
    have hco := Tryz.slices_Compact_string_arr g 0 c (d'.map (·.1)) w3 hH3 (by rw [hdm]; omega) (by rw [hdm]; omega)
    have hv := vsort_of (l := lstF n L) (d := d') (fun x => by rw [hd2 x]; exact HM.out x) HL.out hd3
    rw [hv, hdm] at hco
    have hvl : (vsort (lstF n L)).length ≤ m.length := by
      rw [← hv, ← hdm]
      exact compactUpTo_length_le _
    replace hco := Lib.hid hco
    clear hso hv hd2 hd3 hd4 hsn hce
    go_wp2_with fail
    refine hco.out.mono ?_
    rintro e w4 ⟨rfl, q, rfl⟩
    go_wp2_with fail
    go_ret
    refine ⟨⟨_, rfl, ?_⟩, below_putRow (below_drewN hb3 q) h1 0 _⟩
    refine strsAt_holds (holds_take (m := List.replicate (m.length - (vsort (lstF n L)).length) []) ?_) (by omega) h4
    have hH4 : Holds encStr (Sort.ahead w3 q) g 0 (d'.map (·.1)) := fun j hj => hH3 j hj
    exact holds_putRow encStr (Sort.ahead w3 q) g 0 _ _ hH4 (by simp [hd1]; omega)
end Go.Proofs.Pw
