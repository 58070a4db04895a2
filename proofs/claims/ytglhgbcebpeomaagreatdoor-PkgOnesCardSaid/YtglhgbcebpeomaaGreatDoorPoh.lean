/- Po: walks and plain laws, joined: UpMath PkgMath Own OwnIdx AppM SlModK SlIns SlDelM. Conditions: at each theorem. -/
import Derived.Test.YtglhgbcebpeomaaGreatDoorPob
import Derived.Test.YtglhgbcebpeomaaGreatDoorPog
import Derived.Deep.AppendLies
import Derived.Deep.RegionLaw
import Derived.Test.YtglhgbcebpeomaaGreatDoorPod
import Derived.Laws.CopyRow
import Derived.Laws.CopyOwn
import Derived.Lib.Overlaps
import Derived.Lib.AppendZerosOnto
import Derived.Lib.SliceRun
import Derived.Shelf.RegionOpenPlain

namespace Go.Proofs.Pw
open Go.Lib hiding intOf
def latestM (l : List En) (sel : List Md) : List Md := sel.map fun m => (m.1, latestL l m.1)
theorem latest_in {l : List En} (h : RightI l) {m : Md} {e : En} (he : e ∈ l) (hm : e.md = m) : ∃ e ∈ l, e.md = (m.1, latestL l m.1) := by
  have h1 : m.2 ∈ versL l m.1 := versL_mem.2 ⟨e, he, hm⟩
  have h2 : m.2 ∈ vsort (versL l m.1) := (vsort_mem _ _).2 ⟨h1, by rw [← hm]; exact (modErr_zero (h.mds e he)).2⟩
  have h3 : vsort (versL l m.1) ≠ [] := fun e => by rw [e] at h2; cases h2
  have h4 := likedL_sub (lastS_mem (likedL_ne (l := l) (p := m.1) h3))
  exact versL_mem.1 ((vsort_mem _ _).1 h4).1
def newsB (l : List En) (m : Md) : Bool := verLess m.2 (latestL l m.1)
def newsL (l : List En) (sel : List Md) : List Md := latestM l (sel.filter (newsB l))
noncomputable def nextL (l : List En) (sel : List Md) : List Md := buildL l (sel ++ latestM l sel)
structure SelOk (l : List En) (x : List Md) : Prop where
  right : RightG l x
  rise : RiseP x
def OverM (x y : List Md) : Prop := ∀ m ∈ x, ∃ z ∈ y, z.1 = m.1 ∧ verCmp m.2 z.2 ≤ 0
theorem OverM.trans {x y z : List Md} (h1 : OverM x y) (h2 : OverM y z) : OverM x z := fun m hm => by
  obtain ⟨a, ha, e1, h3⟩ := h1 m hm
  obtain ⟨b, hb, e2, h4⟩ := h2 a ha
  exact ⟨b, hb, e2.trans e1, le_trans3 h3 h4⟩
theorem SelOk.md {l : List En} {x : List Md} (h : SelOk l x) {m : Md} (hm : m ∈ x) : mdErr m = 0 := h.right.right (.root hm)
theorem next_right {l : List En} {x : List Md} (hx : RightG l x) : RightG l (x ++ latestM l x) := ⟨hx.idx, fun m hm => by
  rcases List.mem_append.1 hm with h | h
  · exact hx.at_ m h
  · unfold latestM at h
    obtain ⟨y, hy, rfl⟩ := List.mem_map.1 h
    obtain ⟨e, he, e1⟩ := hx.at_ y hy
    exact latest_in hx.idx he e1⟩
structure AllOk (l : List En) (x y : List Md) : Prop where
  ok : SelOk l y
  over : OverM x y
  stop : nextL l y = y
theorem AllOk.none {l : List En} {x y : List Md} (h : AllOk l x y) : newsL l y = [] := by
  unfold newsL
  have : y.filter (newsB l) = [] := by
    rw [List.filter_eq_nil_iff]
    intro m hm hn
    have h1 := next_right h.ok.right
    have h2 : (m.1, latestL l m.1) ∈ y ++ latestM l y := List.mem_append.2 (.inr (List.mem_map.2 ⟨m, hm, rfl⟩))
    obtain ⟨z, hz, e1, h3⟩ := build_over h1 (.root h2)
    have hz2 : z ∈ nextL l y := hz
    rw [h.stop] at hz2
    have e2 : z = m := h.ok.rise.unique hz2 hm e1
    subst e2
    unfold newsB at hn
    rw [verLess_of_le h3] at hn
    cases hn
  rw [this]; rfl
end Go.Proofs.Pw

namespace Go.Proofs.Pw
open Go.Lib hiding intOf
theorem app_byP (a b : ByteArray) : (a ++ b).data.toList = a.data.toList ++ b.data.toList := by rw [ByteArray.data_append, Array.toList_append]
def packP (p k : Str) : Str := if k = [46] then p else p ++ 47 :: k
def packsP (e : En) : List Str := e.packs.map (packP e.md.1)
def hasK (e : En) (p : Str) : Bool :=
  if p = e.md.1 then decide ([46] ∈ e.packs) else hasPrefix p (e.md.1 ++ [47]) && (!decide (trimPrefix p (e.md.1 ++ [47]) = [46]) && decide (trimPrefix p (e.md.1 ++ [47]) ∈ e.packs))
theorem prefix_of {p a : Str} : hasPrefix p (a ++ [47]) = true ↔ ∃ r, p = a ++ 47 :: r := by
  unfold hasPrefix
  rw [List.isPrefixOf_iff_prefix]
  constructor
  · rintro ⟨r, h⟩
    exact ⟨r, by rw [← h]; simp⟩
  · rintro ⟨r, rfl⟩
    exact ⟨r, by simp⟩
theorem trim_of (a r : Str) : trimPrefix (a ++ 47 :: r) (a ++ [47]) = r := by
  unfold trimPrefix
  rw [if_pos (prefix_of.2 ⟨r, rfl⟩)]
  have : a ++ 47 :: r = (a ++ [47]) ++ r := by simp
  rw [this, List.drop_left]
theorem cons_ne {a r : Str} {c : UInt8} : a ++ c :: r ≠ a := fun h => by
  have := congrArg List.length h
  simp at this
theorem hasK_iff {e : En} {p : Str} : hasK e p = true ↔ p ∈ packsP e := by
  unfold packsP
  rw [List.mem_map]
  unfold hasK
  by_cases h : p = e.md.1
  · rw [if_pos h, decide_eq_true_iff]
    constructor
    · intro h2
      exact ⟨_, h2, by unfold packP; rw [if_pos rfl, h]⟩
    · rintro ⟨k, hk, h2⟩
      unfold packP at h2
      split at h2
      · rename_i h3
        rwa [h3] at hk
      · rw [h] at h2
        exact absurd h2 cons_ne
  · rw [if_neg h, Bool.and_eq_true, Bool.and_eq_true, prefix_of]
    constructor
    · rintro ⟨⟨r, rfl⟩, h2, h3⟩
      rw [trim_of] at h2 h3
      refine ⟨r, of_decide_eq_true h3, ?_⟩
      unfold packP
      rw [if_neg (by simpa using h2)]
    · rintro ⟨k, hk, h2⟩
      unfold packP at h2
      split at h2
      · exact absurd h2.symm h
      · rename_i h3
        subst h2
        rw [trim_of]
        exact ⟨⟨k, rfl⟩, by simpa using h3, decide_eq_true hk⟩
theorem hasK_in (e : En) (p : Str) : hasK e p = decide (p ∈ packsP e) := by
  rw [Bool.eq_iff_iff, hasK_iff, decide_eq_true_iff]
theorem hasK_head {e : En} {p : Str} (h : hasK e p = true) : p = e.md.1 ∨ ∃ r, p = e.md.1 ++ 47 :: r := by
  unfold hasK at h
  by_cases h1 : p = e.md.1
  · exact .inl h1
  · rw [if_neg h1, Bool.and_eq_true] at h
    exact .inr (prefix_of.1 h.1)
theorem hasK_take {e : En} {p : Str} (h : hasK e p = true) : e.md.1 = p.take e.md.1.length := by
  rcases hasK_head h with h1 | ⟨r, h1⟩
  · rw [h1, List.take_length]
  · rw [h1]; simp
def entOf (l : List En) (m : Md) : En := enAt l (findE l m).toNat
theorem entOf_md {l : List En} {m : Md} (h : ∃ e ∈ l, e.md = m) : (entOf l m).md = m ∧ entOf l m ∈ l := by
  have h1 : ¬ findE l m < 0 := fun h2 => by
    obtain ⟨e, he, h3⟩ := h
    exact findE_lt.1 h2 e he h3
  obtain ⟨k, e1, e2, e3⟩ := findE_nat h1
  unfold entOf
  rw [e1]
  exact ⟨e3, enAt_mem e2⟩
def selHas (l : List En) (p : Str) (m : Md) : Bool := hasK (entOf l m) p
def longM (b m : Md) : Md := if b.1.length < m.1.length then m else b
def bestM (out : List Md) : Md := out.foldl longM ([], [])
def ofErr (l : List En) (sel : List Md) (p : Str) : Nat × Int :=
  orE (idxErr l) (if pathErr p ≠ 0 ∧ pathErr p ≠ 4 then (pathErr p, -1) else orE (rootsErr l sel) (if (sel.filter (selHas l p)) = [] then (5, -1) else (0, -1)))
def ofM (l : List En) (sel : List Md) (p : Str) : Md := if (ofErr l sel p).1 = 0 then bestM (sel.filter (selHas l p)) else ([], [])
theorem longM_len (b m : Md) : (longM b m).1.length = max b.1.length m.1.length := by
  unfold longM
  split <;> omega
theorem foldM_len : ∀ (out : List Md) (b : Md), b.1.length ≤ (out.foldl longM b).1.length ∧ ∀ m ∈ out, m.1.length ≤ (out.foldl longM b).1.length
  | [], b => ⟨Nat.le_refl _, fun m h => by cases h⟩
  | x :: r, b => by
    rw [List.foldl_cons]
    obtain ⟨h1, h2⟩ := foldM_len r (longM b x)
    rw [longM_len] at h1
    refine ⟨by omega, fun m h => ?_⟩
    rcases List.mem_cons.1 h with rfl | h
    · omega
    · exact h2 m h
theorem foldM_mem : ∀ (out : List Md) (b : Md), out.foldl longM b = b ∨ out.foldl longM b ∈ out
  | [], _ => .inl rfl
  | x :: r, b => by
    rw [List.foldl_cons]
    rcases foldM_mem r (longM b x) with h | h
    · rw [h]
      unfold longM
      split
      · exact .inr (by simp)
      · exact .inl rfl
    · exact .inr (by simp [h])
theorem bestM_len {out : List Md} {m : Md} (h : m ∈ out) : m.1.length ≤ (bestM out).1.length := (foldM_len out ([], [])).2 m h
theorem bestM_mem {out : List Md} (h : out ≠ []) (hp : ∀ m ∈ out, m.1 ≠ []) : bestM out ∈ out := by
  rcases foldM_mem out ([], []) with h1 | h1
  · exfalso
    obtain ⟨m, hm⟩ := List.exists_mem_of_ne_nil _ h
    have h2 := bestM_len hm
    unfold bestM at h2
    rw [h1] at h2
    exact hp m hm (List.eq_nil_of_length_eq_zero (Nat.le_zero.1 h2))
  · exact h1
theorem bestM_head (x : Md) (r : List Md) (hx : x.1 ≠ []) : bestM (x :: r) = r.foldl longM x := by
  unfold bestM
  rw [List.foldl_cons]
  congr 1
  unfold longM
  rw [if_pos]
  have := List.length_pos_iff.2 hx
  simpa using this
theorem path_ne {p : Str} (h : pathErr p = 0) : p ≠ [] := fun e => by
  rw [e] at h
  exact absurd h (by decide)
theorem pathErr_inP (p : Str) : pathErr p = 0 ∨ pathErr p = 1 ∨ pathErr p = 2 ∨ pathErr p = 4 := by
  unfold pathErr
  simp only
  split
  · exact .inr (.inl rfl)
  · split
    · exact .inr (.inr (.inl rfl))
    · split
      · exact .inr (.inr (.inr rfl))
      · exact .inl rfl
def allP (l : List En) (sel : List Md) : List Str := sel.flatMap fun m => packsP (entOf l m)
def allErr (l : List En) (sel : List Md) : Nat × Int := orE (idxErr l) (rootsErr l sel)
def allK (l : List En) (sel : List Md) : List Str := if (allErr l sel).1 = 0 then pathsL (allP l sel) else []
theorem insUb_lenP (s : Str) : ∀ l : List Str, (insU compareBytes s l).length ≤ l.length + 1
  | [] => by simp [insU]
  | a :: r => by
    have := insUb_lenP s r
    unfold insU
    split
    · simp; omega
    · split <;> simp
theorem insFold_lenP' : ∀ (l o : List Str), (l.foldl (fun o s => insU compareBytes s o) o).length ≤ l.length + o.length
  | [], o => by simp
  | s :: r, o => by
    rw [List.foldl_cons]
    have h1 := insFold_lenP' r (insU compareBytes s o)
    have h2 := insUb_lenP s o
    rw [List.length_cons]
    omega
theorem insFold_lenP (l : List Str) : (pathsL l).length ≤ l.length := by
  have h : (l.foldl (fun o s => insU compareBytes s o) []).length ≤ l.length := by simpa using insFold_lenP' l []
  exact h
theorem cut_count (c : UInt8) : ∀ (s acc : Str), (cutAt c acc s).length = s.count c + 1
  | [], acc => by simp [cutAt]
  | b :: r, acc => by
    rw [cutAt]
    split
    · rename_i h
      rw [List.length_cons, cut_count c r, h]
      simp
    · rename_i h
      rw [cut_count c r, List.count_cons_of_ne h]
theorem split_count (c : UInt8) (s : Str) : (split s [c]).length = s.count c + 1 := by rw [split_eq, cut_count]
theorem pathErr_count {s : Str} (h : pathErr s = 0) : s.count 47 ≤ 4 := by
  have h1 := split_count 47 s
  unfold pathErr at h
  simp only at h
  split at h
  · cases h
  · split at h
    · cases h
    · rename_i h2
      have : ¬ 5 < (split s [47]).length := fun h3 => h2 (.inl h3)
      omega
theorem ahead_of {p a b : Str} (ha : p = a ∨ ∃ r, p = a ++ 47 :: r) (hb : p = b ∨ ∃ r, p = b ++ 47 :: r) (h : compareBytes a b < 0) : ∃ r, b = a ++ 47 :: r := by
  have key0 : ∀ (x r : Str), 0 < compareBytes (x ++ 47 :: r) x := fun x r => by
    induction x with
    | nil => simp [compareBytes]
    | cons c x ih =>
      rw [List.cons_append]
      unfold compareBytes
      simpa using ih
  have key : ∀ {x y r : Str}, y = x ++ 47 :: r → 0 < compareBytes y x := fun {x y r} e => by
    rw [e]
    exact key0 x r
  have anti := fun x y => compareBytes_ord.anti x y
  rcases ha with rfl | ⟨r, rfl⟩
  · rcases hb with rfl | ⟨r, rfl⟩
    · rw [compareBytes_ord.self] at h; exact absurd h (by decide)
    · have := key (rfl : b ++ 47 :: r = b ++ 47 :: r)
      omega
  · rcases hb with hb | ⟨s, hb⟩
    · exact ⟨r, hb.symm⟩
    · rcases Nat.lt_trichotomy a.length b.length with h1 | h1 | h1
      · have e : b = (a ++ 47 :: r).take b.length := by rw [hb]; simp
        rw [List.take_append, List.take_of_length_le (by omega)] at e
        obtain ⟨n, hn⟩ : ∃ n, b.length - a.length = n + 1 := ⟨b.length - a.length - 1, by omega⟩
        rw [hn, List.take_succ_cons] at e
        exact ⟨_, e⟩
      · have e : b = (a ++ 47 :: r).take b.length := by rw [hb]; simp
        rw [← h1, List.take_left] at e
        rw [e, compareBytes_ord.self] at h
        exact absurd h (by decide)
      · have e : a = (b ++ 47 :: s).take a.length := by rw [← hb]; simp
        rw [List.take_append, List.take_of_length_le (by omega)] at e
        obtain ⟨n, hn⟩ : ∃ n, a.length - b.length = n + 1 := ⟨a.length - b.length - 1, by omega⟩
        rw [hn, List.take_succ_cons] at e
        have := key e
        have := anti a b
        omega
theorem pair_len {f : Md → Nat} {n : Nat} : ∀ {l : List Md}, (∀ x ∈ l, f x < n) → (l.Pairwise fun a b => f a < f b) → l.length ≤ n := by
  intro l
  induction l using snoc_ind generalizing n with
  | h0 => intro _ _; exact Nat.zero_le _
  | h1 l a ih =>
    intro h1 h2
    rw [List.pairwise_append] at h2
    have h3 := ih (n := f a) (fun x hx => h2.2.2 x hx a (by simp)) h2.1
    have h4 := h1 a (by simp)
    rw [List.length_append]
    simp
    omega
end Go.Proofs.Pw

namespace Go.Proofs.Pw
open Go.RowKit
open Go.Lib hiding intOf
theorem ownsRow_kept {w w' : World} {base e size n : Nat} {v : Value} {xs : List Value} (h : w.ownsRow base e size v n xs) (hb : Below w.heap.size w w') : w'.ownsRow base e size v n xs := by
  refine ⟨h.1, ?_⟩
  rcases h.2 with h2 | ⟨g, c, cur, h1, h2, h3, h4⟩
  · exact .inl h2
  · exact .inr ⟨g, c, cur, h1, h2, (hb.block g (Array.getElem?_eq_some_iff.1 h3).1).trans h3, h4⟩
theorem _root_.Go.World.ownsRow.below {w w' : World} {base e size n : Nat} {v : Value} {xs : List Value} (h : w.ownsRow base e size v n xs) (hb : Below w.heap.size w w') : w'.ownsRow base e size v n xs := ownsRow_kept h hb
theorem ownsRow_set {w : World} {base e k n b j : Nat} {v : Value} {xs : List Value} (h : w.ownsRow base e k v n xs) (hn : v.ownBlock ≠ some b) (u : Value) : (w.setCell ⟨b, j, none⟩ u).ownsRow base e k v n xs := by
  refine ⟨h.1, ?_⟩
  rcases h.2 with h2 | ⟨g, c, cur, rfl, h2, h3, h4⟩
  · exact .inl h2
  · have hg : g ≠ b := fun e => hn (by rw [e]; rfl)
    exact .inr ⟨g, c, cur, rfl, h2, (Go.Deep.blk_setCell_other _ _ _ _ hg).trans h3, h4⟩
theorem cell_two_new (w : World) (x y : ByteArray) (t : TypeId) : ∀ j u, ([.string x, .string y] : List Value)[j]? = some u → (w.alloc (.cells #[.string x, .string y] t)).cell? ((⟨w.heap.size, 0, none⟩ : Addr).add j) = some u :=
  World.news_of_block (cs := #[.string x, .string y]) (Go.Deep.blk_alloc_new w _)
theorem mdVs_snoc (l : List (ByteArray × ByteArray)) (x y : ByteArray) : mdVs l ++ [.string x, .string y] = mdVs (l ++ [(x, y)]) := by rw [mdVs_append]; rfl
theorem apart_row {u o : Value} (h : ∀ b, o.ownBlock = some b → u.ownBlock ≠ some b) : u.ownBlock = none ∨ u.ownBlock ≠ o.ownBlock := by
  by_cases hu : u.ownBlock = none
  · exact .inl hu
  · refine .inr (fun e => ?_)
    cases ho : o.ownBlock with
    | none => exact hu (e.trans ho)
    | some b => exact h b ho (e.trans ho)
theorem own_form {w : World} {base e k n : Nat} {v : Value} {xs : List Value} (h : w.ownsRow base e k v n xs) : ∃ a m c, v = .slice a m c := by
  rcases h.2 with ⟨rfl, _⟩ | ⟨g, cap, cur, rfl, _⟩
  · exact ⟨_, _, _, rfl⟩
  · exact ⟨_, _, _, rfl⟩
theorem own_ne {w : World} {base e k n b : Nat} {v : Value} {xs : List Value} (h : w.ownsRow base e k v n xs) (hb : b < base) : v.ownBlock ≠ some b := fun e => by
  have := (h.lt b e).1
  omega
theorem fault_form {A : Nat → Addr} {w : World} {v : Value} {r : Nat × Int} (h : FaultAt A w v r) : (r.1 = 0 ∧ v = .nilIface) ∨ (r.1 ≠ 0 ∧ ∃ t q, v = .iface t (.pointer q)) := by
  rcases h with h | h | ⟨h, b, rfl, _⟩
  · exact .inl ⟨h.1, h.2.2⟩
  · refine .inr ⟨h.1, ?_⟩
    rw [h.2.2, errV_pos A h.1]; exact ⟨_, _, rfl⟩
  · exact .inr ⟨h, _, _, rfl⟩
theorem ModsAt.cells {w : World} {v : Value} {l : List Md} (h : ModsAt w v l) : ∃ a c P V, v = .slice a l.length c ∧ l = mdF l.length P V ∧ ∀ j, j < l.length → ∃ b o, a = some ⟨b, o, none⟩ ∧ w.cell? ⟨b, o + j * 2, none⟩ = some (.string (P j)) ∧ w.cell? ⟨b, o + j * 2 + 1, none⟩ = some (.string (V j)) := by
  obtain ⟨a, n, cap, P, V, rfl, rfl, h3, h4, h5⟩ := h
  rw [mdF_length]
  exact ⟨a, cap, P, V, rfl, rfl, h5⟩
theorem ModsAt.cell {w : World} {v : Value} {l : List Md} {k : Nat} {p q : ByteArray} (h : ModsAt w v l) (hk : l[k]? = some (p.data.toList, q.data.toList)) : ∃ b o c, v = .slice (some ⟨b, o, none⟩) l.length c ∧ k < l.length ∧ w.cell? ⟨b, o + k * 2, none⟩ = some (.string p) ∧ w.cell? ⟨b, o + k * 2 + 1, none⟩ = some (.string q) := by
  obtain ⟨a, n, cap, P, V, rfl, rfl, h3, h4, h5⟩ := h
  have hl : k < n := by have := (List.getElem?_eq_some_iff.1 hk).1; rwa [mdF_length] at this
  obtain ⟨b, o, rfl, e1, e2⟩ := h5 k hl
  rw [mdF_get n P V k hl] at hk
  have := bytes_pair.1 (Option.some.inj hk)
  rw [this.1] at e1
  rw [this.2] at e2
  rw [mdF_length]
  exact ⟨b, o, cap, rfl, hl, e1, e2⟩
end Go.Proofs.Pw

namespace Go.Proofs.Pw
open Go.RowKit
open Go.Lib hiding intOf
set_option maxRecDepth 100000 in
theorem app_strs (w : World) (base : Nat) (hb : base ≤ w.heap.size) (v : Value) (l : List Str) (h : StrsAt w v l) (hl : l.length ≤ 1000000) :
    ∃ kv w', (Builtin.append_ #[35, 35] 35 #[.slice none 0 0, v]).run Tryz.prog w = .ok kv w' ∧ (∃ T, l = strTs T ∧ w'.ownsRow base 9 1 kv T.length (strVs T)) ∧ w.grownBy w' none := by
  obtain ⟨i0, hi, hz0, hz1, hz2⟩ := info_parts Tryz.infoString
  obtain ⟨a, n, cap, L, rfl, rfl, hnc, hcap, hc⟩ := h
  rw [lstF_length] at hl
  cases a with
  | none =>
    have hn0 : n = 0 := by
      rcases Nat.eq_zero_or_pos n with h | h
      · exact h
      · obtain ⟨b, o, e, _⟩ := hc 0 h
        cases e
    subst hn0
    exact ⟨_, w, run_append_nothing (P := Tryz.prog) w 35 35 35 9 i0 Tryz.underlying35 hi none 0 0 (Nat.le_refl _) (.slice none 0 cap) (Src.ofNil w Tryz.underlying35 cap), ⟨[], rfl, World.ownsRow_nil _ _ _ _⟩, World.grownBy.refl _ _⟩
  | some a =>
    have hnews : ∀ j u, (strVs ((List.range n).map L))[j]? = some u → w.cell? (a.add j) = some u := by
      intro j u hu
      have hj : j < n := by
        have := (List.getElem?_eq_some_iff.1 hu).1
        simpa [strVs] using this
      obtain ⟨b, o, e, h1⟩ := hc j hj
      injection e with e
      subst e
      have hu2 : u = .string (L j) := by
        simp [strVs, hj] at hu
        exact hu.symm
      rw [hu2, show (⟨b, o, none⟩ : Addr).add j = ⟨b, o + j, none⟩ from by unfold Addr.add; split <;> simp_all]
      exact h1
    obtain ⟨kv, w', h1, h2, h3, _⟩ := run_append_own (P := Tryz.prog) w base 35 35 9 i0 (.string ⟨#[]⟩) 1 16 Tryz.underlying35 hi hz0 hz1 hz2 rfl (by decide) (.slice none 0 0) 0 [] (World.ownsRow_nil _ _ _ _) a n cap (strVs ((List.range n).map L)) (by simp [strVs]) hnews (fun u hu => by
      simp [strVs] at hu
      obtain ⟨_, _, rfl⟩ := hu
      rfl) (by unfold maxLen; omega) (by omega) hb
    refine ⟨kv, w', h1, ⟨(List.range n).map L, by simp [strTs, lstF], ?_⟩, h3⟩
    simpa using h2
def ec (P V : Nat → ByteArray) (Rv Kv : Nat → Value) (B : Nat → Bool) (j : Nat) : List Value := [.string (P j), .string (V j), Rv j, Kv j, .bool (B j)]
def enVs (P V : Nat → ByteArray) (Rv Kv : Nat → Value) (B : Nat → Bool) (k : Nat) : List Value := (List.range k).flatMap (ec P V Rv Kv B)
theorem enVs_succ (P V Rv Kv B k) : enVs P V Rv Kv B (k + 1) = enVs P V Rv Kv B k ++ ec P V Rv Kv B k := by
  unfold enVs
  rw [List.range_succ, List.flatMap_append]
  simp
theorem enVs_length (P V Rv Kv B) : ∀ k, (enVs P V Rv Kv B k).length = k * 5
  | 0 => rfl
  | k + 1 => by rw [enVs_succ, List.length_append, enVs_length]; simp [ec]; omega
theorem enVs_get (P V Rv Kv B) : ∀ (k j c : Nat), j < k → c < 5 → (enVs P V Rv Kv B k)[j * 5 + c]? = (ec P V Rv Kv B j)[c]?
  | 0, j, c, h, _ => absurd h (Nat.not_lt_zero _)
  | k + 1, j, c, h, hc => by
    rw [enVs_succ]
    by_cases e : j = k
    · subst e
      rw [List.getElem?_append_right (by rw [enVs_length]; omega), enVs_length]
      congr 1; omega
    · rw [List.getElem?_append_left (by rw [enVs_length]; omega)]
      exact enVs_get P V Rv Kv B k j c (by omega) hc
theorem enVs_cong {P V : Nat → ByteArray} {Rv Kv Rv' Kv' : Nat → Value} {B : Nat → Bool} : ∀ {k : Nat}, (∀ j, j < k → Rv j = Rv' j ∧ Kv j = Kv' j) → enVs P V Rv Kv B k = enVs P V Rv' Kv' B k
  | 0, _ => rfl
  | k + 1, h => by
    rw [enVs_succ, enVs_succ, enVs_cong (k := k) (fun j hj => h j (by omega))]
    unfold ec
    rw [(h k (by omega)).1, (h k (by omega)).2]
structure RowsE (w : World) (base k : Nat) (R : Nat → List Md) (K : Nat → List Str) (Rv Kv : Nat → Value) : Prop where
  r : ∀ j, j < k → ∃ M, R j = mdTs M ∧ w.ownsRow base 29 2 (Rv j) M.length (mdVs M)
  s : ∀ j, j < k → ∃ T, K j = strTs T ∧ w.ownsRow base 9 1 (Kv j) T.length (strVs T)
theorem tag_apart {w : World} {b b' s s' m m' : Nat} {e e' : TypeId} {u o : Value} {xs ys : List Value} (h : w.ownsRow b e s u m xs) (h2 : w.ownsRow b' e' s' o m' ys) (hne : e ≠ e') : u.ownBlock = none ∨ u.ownBlock ≠ o.ownBlock := by
  refine apart_row fun g hg hu => ?_
  rcases h.2 with ⟨rfl, _⟩ | ⟨g1, c1, cur1, rfl, _, k1, _⟩
  · cases hu
  · rcases h2.2 with ⟨rfl, _⟩ | ⟨g2, c2, cur2, rfl, _, k2, _⟩
    · cases hg
    · have e1 : g1 = g := Option.some.inj hu
      have e2 : g2 = g := Option.some.inj hg
      subst e1 e2
      rw [k1] at k2
      injection k2 with k2
      injection k2 with _ k3 _
      exact hne k3
theorem entsAt_own {w : World} {base n : Nat} {e : TypeId} {v : Value} {P V : Nat → ByteArray} {R : Nat → List Md} {K : Nat → List Str} {B : Nat → Bool} {Rv Kv : Nat → Value} (h : w.ownsRow base e 5 v n (enVs P V Rv Kv B n)) (hr : RowsE w base n R K Rv Kv) : EntsAt w v (enF n P V R K B) := by
  have hR : ∀ j, j < n → ModsAt w (Rv j) (R j) := fun j hj => by
    obtain ⟨M, e1, h1⟩ := hr.r j hj
    rw [e1]; exact modsAt_own h1
  have hK : ∀ j, j < n → StrsAt w (Kv j) (K j) := fun j hj => by
    obtain ⟨T, e1, h1⟩ := hr.s j hj
    rw [e1]; exact strsAt_own h1
  rcases h.2 with ⟨rfl, h0⟩ | ⟨g, cap, cur, rfl, hb, hg, hn, hm, hs, ht⟩
  · subst h0
    exact EntsAt.nil w
  · refine ⟨some ⟨g, 0, none⟩, n, cap, P, V, R, K, B, Rv, Kv, rfl, rfl, hn, by unfold maxLen at hm; exact hm, fun j hj => ⟨g, 0, rfl, ?_⟩, hR, hK⟩
    have hcell : ∀ c u, c < 5 → (ec P V Rv Kv B j)[c]? = some u → w.cell? ⟨g, 0 + j * 5 + c, none⟩ = some u := fun c u hc hu => by
      rw [← enVs_get P V Rv Kv B n j c hj hc, ← ht, List.getElem?_take, if_pos (by omega)] at hu
      rw [Nat.zero_add, cell_of_row w g _ cur e (0, 0) hg]
      simpa using hu
    exact ⟨hcell 0 _ (by decide) rfl, hcell 1 _ (by decide) rfl, hcell 2 _ (by decide) rfl, hcell 3 _ (by decide) rfl, hcell 4 _ (by decide) rfl⟩
theorem EntsIn.forms2 {w : World} {a n cap P V R K B Rv Kv} (h : EntsIn w a n cap P V R K B Rv Kv) {j : Nat} (hj : j < n) : ∃ a1 n1 c1 a2 n2 c2, Rv j = .slice a1 n1 c1 ∧ Kv j = .slice a2 n2 c2 := by
  obtain ⟨a1, n1, c1, _, _, e1, _⟩ := h.reqs j hj
  obtain ⟨a2, n2, c2, _, e2, _⟩ := h.packs j hj
  exact ⟨_, _, _, _, _, _, e1, e2⟩
theorem Tryz.infoEnt : (Tryz.prog.info? 37).map (fun i => (i.zero, i.size, i.bytes)) = some (some (.agg #[.string ⟨#[]⟩, .string ⟨#[]⟩, .slice none 0 0, .slice none 0 0, .bool false]), 5, 88) := by kernel_rfl
theorem wpList_append_run {P : Program} {w : World} {ops : Array Oper} {rest : List Oper} {o : Oper} {a : Act} {Q : Exit → Act → World → Prop} (hgd : o.guard = none) (s x : Operand) (t : TypeId)
    (ho : o.op = .call { callee := .builtin .append, args := #[s, x], argTypes := #[t, t] }) (v y : Value) (hs : a.eval s = v) (hx : a.eval x = y) (v' : Value) (w' : World)
    (hr : (Builtin.append_ #[t, t] o.type #[v, y]).run P w = .ok v' w') (h : wpList P ops Q rest (a.put o.dst v') w') : wpList P ops Q (o :: rest) a w :=
  wpList_plain hgd fun _ hK => by
    unfold Oper.wp execOp
    simp only [ho, resolve, invoke, builtin, Sem.run_bind, Sem.run_pure, Result.andThen_ok, List.map_toArray, List.map_cons, List.map_nil, hs, hx, hr]
    exact hK _ _ h
theorem World.ownsRow.mono_base {w : World} {b b' e s m : Nat} {u : Value} {xs : List Value} (h : w.ownsRow b e s u m xs) (hb : b' ≤ b) : w.ownsRow b' e s u m xs := by
  refine ⟨h.1, ?_⟩
  rcases h.2 with h2 | ⟨g, c, cur, h1, h2, h3⟩
  · exact .inl h2
  · exact .inr ⟨g, c, cur, h1, Nat.le_trans hb h2, h3⟩
theorem grown_none {v : Value} : v.ownBlock = none ∨ v.ownBlock ≠ none := by
  cases v.ownBlock with
  | none => exact .inl rfl
  | some b => exact .inr (fun h => by cases h)
set_option maxHeartbeats 4000000 in
set_option maxRecDepth 100000 in
theorem ownIndex_calls (v : Value) (l : List En) (w : World) (h : EntsAt w v l) (hn : l.length ≤ 1000) (hl : ∀ e ∈ l, e.reqs.length ≤ 100000 ∧ e.packs.length ≤ 100000) :
    Calls Tryz.prog 12 #[v] w fun e w' => (∃ v', e = .returned v' ∧ EntsAt w' v' l) ∧ Below w.heap.size w w' := by
  obtain ⟨i0, hi, hz0, hz1, hz2⟩ := info_parts Tryz.infoEnt
  obtain ⟨a, n, cap, P, V, R, K, B, Rv, Kv, rfl, rfl, hin⟩ := h
  rw [enF_length] at hn
  have H := Lib.hid hin
  have HL : Hid (∀ j, j < n → (R j).length ≤ 100000 ∧ (K j).length ≤ 100000) := Lib.hid (fun j hj => hl _ (List.mem_of_getElem? (enF_get n P V R K B j hj)))
  clear hl hin
  go_enter Tryz.func12, Tryz.ntmps12
  go_wp2_with fail
  go_loopw [3, 4] (fun o i wr => ∃ (k : Nat) (Rv' Kv' : Nat → Value), k ≤ n ∧ i = .int .i64 k ∧ Hid (wr.ownsRow w.heap.size 37 5 o k (enVs P V Rv' Kv' B k)) ∧ Hid (RowsE wr w.heap.size k R K Rv' Kv') ∧ Below w.heap.size w wr) (fun _ i _ => n - (intOf i).toNat)
  case atStart => exact ⟨0, Rv, Kv, Nat.zero_le _, rfl, Lib.hid (World.ownsRow_nil _ _ _ _), Lib.hid ⟨fun j hj => absurd hj (Nat.not_lt_zero _), fun j hj => absurd hj (Nat.not_lt_zero _)⟩, Below.refl _ _⟩
  case round =>
    obtain ⟨k, Rv', Kv', hk, rfl, hO, hRows, hBr⟩ := hrel
    by_cases hlt : k < n
    · have hkn : (k : Int) < (n : Int) := by omega
      obtain ⟨b1, o1, ea, hcell⟩ := (H.out.below hBr).at_ k hlt
      obtain ⟨a1, n1, s1, aK, nK, cK, e1, e2⟩ := H.out.forms2 hlt
      have hM := (H.out.below hBr).reqs k hlt
      have hS := (H.out.below hBr).packs k hlt
      rw [e1, e2] at hcell
      rw [e1] at hM
      rw [e2] at hS
      subst ea
      obtain ⟨c0, c1, c2, c3, c4⟩ := hcell
      have hba := below_alloc wr (.cells #[.string (P k), .string (V k), .slice a1 n1 s1, .slice aK nK cK, .bool (B k)] 37)
      have x0 : (wr.alloc (.cells #[.string (P k), .string (V k), .slice a1 n1 s1, .slice aK nK cK, .bool (B k)] 37)).cell? ⟨wr.heap.size, 0, none⟩ = some (.string (P k)) := by simp
      have x1 : (wr.alloc (.cells #[.string (P k), .string (V k), .slice a1 n1 s1, .slice aK nK cK, .bool (B k)] 37)).cell? ⟨wr.heap.size, 1, none⟩ = some (.string (V k)) := by simp
      have x2 : (wr.alloc (.cells #[.string (P k), .string (V k), .slice a1 n1 s1, .slice aK nK cK, .bool (B k)] 37)).cell? ⟨wr.heap.size, 2, none⟩ = some (.slice a1 n1 s1) := by simp
      have x3 : (wr.alloc (.cells #[.string (P k), .string (V k), .slice a1 n1 s1, .slice aK nK cK, .bool (B k)] 37)).cell? ⟨wr.heap.size, 3, none⟩ = some (.slice aK nK cK) := by simp
      have x4 : (wr.alloc (.cells #[.string (P k), .string (V k), .slice a1 n1 s1, .slice aK nK cK, .bool (B k)] 37)).cell? ⟨wr.heap.size, 4, none⟩ = some (.bool (B k)) := by simp
      have xf : ∀ i, (wr.alloc (.cells #[.string (P k), .string (V k), .slice a1 n1 s1, .slice aK nK cK, .bool (B k)] 37)).frozen? ⟨wr.heap.size, i, none⟩ = false := fun i => by simp
      have hom := ownMods_calls (.slice a1 n1 s1) (R k) (wr.alloc (.cells #[.string (P k), .string (V k), .slice a1 n1 s1, .slice aK nK cK, .bool (B k)] 37)) (hM.below hba) (by have := (HL.out k hlt).1; omega)
      have hszN : (wr.alloc (.cells #[.string (P k), .string (V k), .slice a1 n1 s1, .slice aK nK cK, .bool (B k)] 37)).heap.size = wr.heap.size + 1 := by simp
      replace hom := Lib.hid hom
      clear hM e1 e2
      go_wp2_with fail
      generalize wr.alloc (.cells #[.string (P k), .string (V k), .slice a1 n1 s1, .slice aK nK cK, .bool (B k)] 37) = w1 at *
      refine hom.out.mono ?_
      rintro e w2 ⟨⟨v', rfl, _, M, hRM, hoM⟩, hb2⟩
      obtain ⟨aM, nM, cM, rfl⟩ := own_form hoM
      have hs1 := hba.size
      have hs2 := hb2.size
      have hNlt : wr.heap.size < w2.heap.size := by omega
      replace x0 := Below.cell_some hb2 x0
      replace x1 := Below.cell_some hb2 x1
      replace x2 := Below.cell_some hb2 x2
      replace x3 := Below.cell_some hb2 x3
      replace x4 := Below.cell_some hb2 x4
      replace xf := fun i => (hb2.frozen (p := ⟨wr.heap.size, i, none⟩) (show wr.heap.size < w1.heap.size by omega)).trans (xf i)
      have neM := own_ne (b := wr.heap.size) hoM (by omega)
      have hS3 : StrsAt (w2.setCell ⟨wr.heap.size, 2, none⟩ (.slice aM nM cM)) (.slice aK nK cK) (K k) := by
        obtain ⟨a', n', cap', L', q1, q2, q3, q4, q5⟩ := hS
        refine ⟨a', n', cap', L', q1, q2, q3, q4, fun j hj => ?_⟩
        obtain ⟨b, o, e, c⟩ := q5 j hj
        refine ⟨b, o, e, ?_⟩
        have : b < wr.heap.size := lt_of_cell c
        rw [set_blk _ (by omega)]
        exact Below.cell_some hb2 (Below.cell_some hba c)
      obtain ⟨kv, w4, hap, ⟨T, hKT, hoK⟩, hg4⟩ := app_strs (w2.setCell ⟨wr.heap.size, 2, none⟩ (.slice aM nM cM)) w2.heap.size (by simp) (.slice aK nK cK) (K k) hS3 (by have := (HL.out k hlt).2; omega)
      obtain ⟨aq, nq, cq, rfl⟩ := own_form hoK
      have neK := own_ne (b := wr.heap.size) hoK hNlt
      have hs4 := hg4.size
      have hs3 : (w2.setCell ⟨wr.heap.size, 2, none⟩ (.slice aM nM cM)).heap.size = w2.heap.size := by simp
      have hsome : ∀ k : Nat, some k ≠ (none : Option Nat) := fun k h => by cases h
      have u0 := hg4.cell ((set_off (.slice aM nM cM) (by decide)).trans x0) (hsome _)
      have u1 := hg4.cell ((set_off (.slice aM nM cM) (by decide)).trans x1) (hsome _)
      have u2 := hg4.cell (set_same (.slice aM nM cM) x2) (hsome _)
      have u3 := hg4.cell ((set_off (.slice aM nM cM) (by decide)).trans x3) (hsome _)
      have u4 := hg4.cell ((set_off (.slice aM nM cM) (by decide)).trans x4) (hsome _)
      have uf : ∀ i, w4.frozen? ⟨wr.heap.size, i, none⟩ = false := fun i => (hg4.frozen_far ⟨wr.heap.size, i, none⟩ (show wr.heap.size < _ by rw [hs3]; exact hNlt) (hsome _)).trans (by simp [xf i])
      have t0 := (set_off (w := w4) (b := wr.heap.size) (k := 3) (.slice aq nq cq) (by decide)).trans u0
      have t1 := (set_off (w := w4) (b := wr.heap.size) (k := 3) (.slice aq nq cq) (by decide)).trans u1
      have t2 := (set_off (w := w4) (b := wr.heap.size) (k := 3) (.slice aq nq cq) (by decide)).trans u2
      have t3 := set_same (.slice aq nq cq) u3
      have t4 := (set_off (w := w4) (b := wr.heap.size) (k := 3) (.slice aq nq cq) (by decide)).trans u4
      have chain : ∀ (b e s m : Nat) (u : Value) (xs : List Value), w2.ownsRow b e s u m xs → u.ownBlock ≠ some wr.heap.size → (w4.setCell ⟨wr.heap.size, 3, none⟩ (.slice aq nq cq)).ownsRow b e s u m xs := fun _ _ _ _ _ _ h hne => ownsRow_set ((ownsRow_set h hne _).kept hg4 grown_none) hne _
      have old : ∀ (b e s m : Nat) (u : Value) (xs : List Value), wr.ownsRow b e s u m xs → (w4.setCell ⟨wr.heap.size, 3, none⟩ (.slice aq nq cq)).ownsRow b e s u m xs := fun _ _ _ _ _ _ h => chain _ _ _ _ _ _ (ownsRow_kept (ownsRow_kept h hba) hb2) (fun e => by have := (h.lt _ e).2; omega)
      have hO5 := old _ _ _ _ _ _ hO.out
      have hoM5 := chain _ _ _ _ _ _ hoM neM
      have hoK5 := ownsRow_set (b := wr.heap.size) (j := 3) hoK neK (.slice aq nq cq)
      have hsz5 : (w4.setCell ⟨wr.heap.size, 3, none⟩ (.slice aq nq cq)).heap.size = w4.heap.size := by simp
      have hnew := World.news_of_block (cs := #[.string (P k), .string (V k), .slice aM nM cM, .slice aq nq cq, .bool (B k)]) (Go.Deep.blk_alloc_new (w4.setCell ⟨wr.heap.size, 3, none⟩ (.slice aq nq cq)) (.cells #[.string (P k), .string (V k), .slice aM nM cM, .slice aq nq cq, .bool (B k)] 37))
      rw [hsz5] at hnew
      have hB5 : Below w.heap.size w (w4.setCell ⟨wr.heap.size, 3, none⟩ (.slice aq nq cq)) := by
        have hsw := hBr.size
        have h1 : Below w.heap.size w w2 := hBr.trans ((below_step hba hb2).mono hsw)
        have h2 : Below w.heap.size w (w2.setCell ⟨wr.heap.size, 2, none⟩ (.slice aM nM cM)) := h1.setCell (p := ⟨wr.heap.size, 2, none⟩) hsw _
        exact (h2.grown hg4 (by rw [hs3]; omega) (fun k hk => by cases hk)).setCell (p := ⟨wr.heap.size, 3, none⟩) hsw _
      have hbase5 : w.heap.size ≤ w4.heap.size := by have := hB5.size; rw [hsz5] at this; exact this
      have z3 := (set_off (w := w2) (b := wr.heap.size) (k := 2) (.slice aM nM cM) (by decide)).trans x3
      have HR := Lib.hid (And.intro hRM hKT)
      have HO := Lib.hid (And.intro hO5 (And.intro hoM5 (And.intro hoK5 hnew)))
      have HOLD := Lib.hid old
      have HAP := Lib.hid hap
      clear hap hS3 hS hO hoM hoK hg4 hRM hKT hnew hO5 hoM5 hoK5 chain old x0 x1 x3 x4 hom hsome neM neK hba hb2 c0 c1 c2 c3 c4 u0 u1 u2 u4
      go_wp2_with (at_builtin; first | (refine wpList_append_run rfl _ _ 35 rfl _ _ rfl rfl _ _ HAP.out ?_) | (refine wpList_append_own _ rfl _ _ 22 rfl w.heap.size 37 i0 (.agg #[.string ⟨#[]⟩, .string ⟨#[]⟩, .slice none 0 0, .slice none 0 0, .bool false]) 5 88 Tryz.underlying22 hi hz0 hz1 hz2 rfl (by decide) _ _ _ rfl (HO.out.1.alloc _) ⟨w4.heap.size, 0, none⟩ 1 1 [.string (P k), .string (V k), .slice aM nM cM, .slice aq nq cq, .bool (B k)] rfl rfl HO.out.2.2.2 (by intro u hu; simp at hu; rcases hu with rfl | rfl | rfl | rfl | rfl <;> rfl) (by unfold maxLen; omega) (by omega) (by simp; omega) ?_; intro o' w6 hown6 hgrow6 _))
      go_roundw
      case rel =>
        have hkeep : ∀ (b e s m : Nat) (u : Value) (xs : List Value), (w4.setCell ⟨wr.heap.size, 3, none⟩ (.slice aq nq cq)).ownsRow b e s u m xs → e ≠ 37 → w6.ownsRow b e s u m xs := fun _ _ _ _ _ _ h hne =>
          (h.alloc _).kept hgrow6 (tag_apart (h.alloc (.cells #[.string (P k), .string (V k), .slice aM nM cM, .slice aq nq cq, .bool (B k)] 37)) (HO.out.1.alloc _) hne)
        refine ⟨k + 1, fun j => if j = k then .slice aM nM cM else Rv' j, fun j => if j = k then .slice aq nq cq else Kv' j, by omega, by go_num, Lib.hid ?_, Lib.hid ⟨fun j hj => ?_, fun j hj => ?_⟩, ?_⟩
        · have h1 : enVs P V (fun j => if j = k then .slice aM nM cM else Rv' j) (fun j => if j = k then .slice aq nq cq else Kv' j) B (k + 1) = enVs P V Rv' Kv' B k ++ [.string (P k), .string (V k), .slice aM nM cM, .slice aq nq cq, .bool (B k)] := by
            rw [enVs_succ, enVs_cong (Rv' := Rv') (Kv' := Kv') (fun j hj => ⟨if_neg (by omega), if_neg (by omega)⟩)]
            simp [ec]
          rw [h1]
          exact hown6
        · by_cases e : j = k
          · subst e
            refine ⟨M, HR.out.1, ?_⟩
            rw [if_pos rfl]
            exact (World.ownsRow.mono_base (hkeep _ _ _ _ _ _ HO.out.2.1 (by decide)) (by have := hBr.size; omega))
          · obtain ⟨M', q1, q2⟩ := hRows.out.r j (by omega)
            refine ⟨M', q1, ?_⟩
            rw [if_neg e]
            exact hkeep _ _ _ _ _ _ (HOLD.out _ _ _ _ _ _ q2) (by decide)
        · by_cases e : j = k
          · subst e
            refine ⟨T, HR.out.2, ?_⟩
            rw [if_pos rfl]
            exact (World.ownsRow.mono_base (hkeep _ _ _ _ _ _ HO.out.2.2.1 (by decide)) (by have := hBr.size; omega))
          · obtain ⟨M', q1, q2⟩ := hRows.out.s j (by omega)
            refine ⟨M', q1, ?_⟩
            rw [if_neg e]
            exact hkeep _ _ _ _ _ _ (HOLD.out _ _ _ _ _ _ q2) (by decide)
        · exact (hB5.alloc (by rw [hsz5]; exact hbase5) _).grown hgrow6 (by simp; omega) (fun q hq => (HO.out.1.lt q hq).1)
      case measure => simp [intOf]; omega
    · obtain rfl : n = k := by omega
      have hfin : EntsAt wr _ (enF n P V R K B) := entsAt_own hO.out hRows.out
      replace hfin := Lib.hid hfin
      go_wp2_with fail
      go_ret
      exact ⟨⟨_, rfl, hfin.out⟩, hBr⟩
end Go.Proofs.Pw

namespace Go.Proofs.Pw
open Go.RowKit
open Go.Lib hiding intOf
end Go.Proofs.Pw

namespace Go.Proofs.Pw
open Go.RowKit
open Go.Lib hiding intOf
theorem ModsAt.grownBy {w w' : World} {v : Value} {l : List Md} {r : Option Nat} (h : ModsAt w v l) (hg : w.grownBy w' r) (hr : ∀ q n m, v = .slice (some q) n m → some q.block ≠ r) : ModsAt w' v l := by
  obtain ⟨a, n, cap, P, V, rfl, h2, h3, h4, h5⟩ := h
  refine ⟨a, n, cap, P, V, rfl, h2, h3, h4, fun j hj => ?_⟩
  obtain ⟨b, o, rfl, e1, e2⟩ := h5 j hj
  have hb : some b ≠ r := hr _ _ _ rfl
  exact ⟨b, o, rfl, hg.cell e1 hb, hg.cell e2 hb⟩
end Go.Proofs.Pw

namespace Go.Proofs.Pw
open Go.RowKit
open Go.Lib hiding intOf
end Go.Proofs.Pw

namespace Go.Proofs.Pw
open Go.RowKit
open Go.Lib hiding intOf
end Go.Proofs.Pw
