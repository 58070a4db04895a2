/- Po: walks and plain laws, joined: SortMath ModLaw World Mem FileMath FileLaw IdxMath LatestMath. Conditions: at each theorem. -/
import Derived.Test.YtglhgbcebpeomaaGreatDoorPoa
import Derived.Lib.SlicesCompact
import Derived.Test.YtglhgbcebpeomaaGreatDoorProg
import Derived.WalkKit
import Derived.WalkSmall
import Derived.Lib.LaidTab
import Derived.Lib.ItoaNum
import Derived.WalkLawsBesides
import Derived.WalkSpells
import Derived.Laws.StructEq
import Derived.RegionTactic
import Derived.BigRegion

namespace Go.Proofs.Pw
open Go.Lib hiding intOf
section
variable {α : Type} {f : α → α → Int}
def Rises (f : α → α → Int) (l : List α) : Prop := l.Pairwise fun a b => f a b < 0
theorem rises_ext (hf : Ord3 f) : ∀ {l m : List α}, Rises f l → Rises f m → (∀ x, x ∈ l ↔ x ∈ m) → l = m
  | [], [], _, _, _ => rfl
  | [], b :: t, _, _, h => by have := (h b).2 (by simp); simp at this
  | a :: r, [], _, _, h => by have := (h a).1 (by simp); simp at this
  | a :: r, b :: t, hl, hm, h => by
    have h1 := List.pairwise_cons.1 hl
    have h2 := List.pairwise_cons.1 hm
    have hab : a = b := by
      rcases List.mem_cons.1 ((h a).1 (by simp)) with e | e
      · exact e
      · rcases List.mem_cons.1 ((h b).2 (by simp)) with e' | e'
        · exact e'.symm
        · have x1 := h1.1 b e'
          have x2 := h2.1 a e
          have := (hf.anti a b).1 x1
          omega
    subst hab
    congr 1
    apply rises_ext hf h1.2 h2.2
    intro x
    constructor
    · intro hx
      rcases List.mem_cons.1 ((h x).1 (by simp [hx])) with e | e
      · subst e
        have := h1.1 x hx
        rw [hf.self] at this
        omega
      · exact e
    · intro hx
      rcases List.mem_cons.1 ((h x).2 (by simp [hx])) with e | e
      · subst e
        have := h2.1 x hx
        rw [hf.self] at this
        omega
      · exact e
variable [DecidableEq α]
def insU (f : α → α → Int) (s : α) : List α → List α
  | [] => [s]
  | a :: r => if f a s < 0 then a :: insU f s r else if a = s then a :: r else s :: a :: r
theorem insU_mem (f : α → α → Int) (s x : α) : ∀ l : List α, x ∈ insU f s l ↔ x = s ∨ x ∈ l
  | [] => by simp [insU]
  | a :: r => by
    unfold insU
    split
    · rw [List.mem_cons, insU_mem f s x r, List.mem_cons]
      constructor
      · rintro (h | h | h) <;> simp [h]
      · rintro (h | h | h) <;> simp [h]
    · split
      · rename_i e
        subst e
        simp
      · simp
theorem insU_rises (hf : Ord3 f) (s : α) : ∀ l : List α, (∀ a ∈ l, f a s = 0 → a = s) → Rises f l → Rises f (insU f s l)
  | [], _, _ => by simp [insU, Rises]
  | a :: r, hz, h => by
    have h1 := List.pairwise_cons.1 h
    unfold insU
    split
    · rename_i hlt
      refine List.pairwise_cons.2 ⟨fun x hx => ?_, insU_rises hf s r (fun b hb => hz b (by simp [hb])) h1.2⟩
      rcases (insU_mem f s x r).1 hx with rfl | hx
      · exact hlt
      · exact h1.1 x hx
    · rename_i hge
      split
      · exact h
      · rename_i hne
        have hsa : f s a < 0 := by
          have h0 : f a s ≠ 0 := fun e => hne (hz a (by simp) e)
          have := hf.anti s a
          omega
        refine List.pairwise_cons.2 ⟨fun x hx => ?_, h⟩
        rcases List.mem_cons.1 hx with rfl | hx
        · exact hsa
        · have hax := h1.1 x hx
          have t := hf.tr s a x (by omega) (by omega)
          rcases Int.lt_or_eq_of_le t with t | t
          · exact t
          · exfalso
            have hxs := hf.zero t
            have h1' := hf.tr a x s (by omega) (by omega)
            have h2' := (hf.anti s a).1 hsa
            omega
def insAll (f : α → α → Int) (l : List α) : List α := l.foldl (fun o s => insU f s o) []
theorem insFold_mem (f : α → α → Int) (x : α) : ∀ (l o : List α), x ∈ l.foldl (fun o s => insU f s o) o ↔ x ∈ l ∨ x ∈ o
  | [], o => by simp
  | s :: r, o => by
    rw [List.foldl_cons, insFold_mem f x r, insU_mem, List.mem_cons]
    constructor
    · rintro (h | h | h) <;> simp [h]
    · rintro ((h | h) | h) <;> simp [h]
theorem insAll_mem (f : α → α → Int) (l : List α) (x : α) : x ∈ insAll f l ↔ x ∈ l := by
  unfold insAll; rw [insFold_mem]; simp
theorem insFold_rises (hf : Ord3 f) (P : α → Prop) (hz : ∀ a b, P a → P b → f a b = 0 → a = b) : ∀ (l o : List α), (∀ a ∈ l, P a) → (∀ a ∈ o, P a) → Rises f o → Rises f (l.foldl (fun o s => insU f s o) o)
  | [], o, _, _, h => h
  | s :: r, o, hl, ho, h => by
    rw [List.foldl_cons]
    refine insFold_rises hf P hz r _ (fun a ha => hl a (by simp [ha])) (fun a ha => ?_) (insU_rises hf s o (fun a ha e => hz a s (ho a ha) (hl s (by simp)) e) h)
    rcases (insU_mem f s a o).1 ha with rfl | ha
    · exact hl a (by simp)
    · exact ho a ha
theorem insAll_rises (hf : Ord3 f) (P : α → Prop) (hz : ∀ a b, P a → P b → f a b = 0 → a = b) (l : List α) (hl : ∀ a ∈ l, P a) : Rises f (insAll f l) :=
  insFold_rises hf P hz l [] hl (by simp) List.Pairwise.nil
end
section
variable {α : Type} [Inhabited α] [DecidableEq α] {f : α → α → Int}
theorem compact_mem (d : Array α) (x : α) : x ∈ compactUpTo d d.size ↔ ∃ i, i < d.size ∧ d[i]! = x := by
  unfold compactUpTo
  simp only [List.mem_map, List.mem_filter, List.mem_range]
  constructor
  · rintro ⟨i, ⟨h1, _⟩, h2⟩
    exact ⟨i, h1, h2⟩
  · rintro ⟨i, h1, h2⟩
    induction i using Nat.strongRecOn with
    | _ i ih =>
      by_cases hk : keeps d i = true
      · exact ⟨i, ⟨h1, hk⟩, h2⟩
      · obtain ⟨j, rfl⟩ : ∃ j, i = j + 1 := by
          cases i with
          | zero => exact absurd (by simp [keeps]) hk
          | succ j => exact ⟨j, rfl⟩
        have he : d[j]! = x := by
          rw [← h2]
          by_cases e : d[j]! = d[j + 1]!
          · exact e
          · exact absurd (by simp [keeps]; exact fun h => e h.symm) hk
        exact ih j (by omega) (by omega) he
theorem compact_rises (hf : Ord3 f) (d : Array α) (hs : ∀ i j, i < j → j < d.size → f d[i]! d[j]! ≤ 0) (hz : ∀ i j, i < d.size → j < d.size → f d[i]! d[j]! = 0 → d[i]! = d[j]!) : Rises f (compactUpTo d d.size) := by
  unfold compactUpTo Rises
  rw [List.pairwise_map]
  apply List.Pairwise.imp_of_mem (R := fun a b => a < b) _ ((List.pairwise_lt_range).filter _)
  intro i j hi hj hij
  simp only [List.mem_filter, List.mem_range] at hi hj
  obtain ⟨k, rfl⟩ : ∃ k, j = k + 1 := ⟨j - 1, by omega⟩
  have hne : ¬ d[k]! = d[k + 1]! := by
    have := hj.2
    simp [keeps] at this
    exact fun e => this e.symm
  have h1 := hs k (k + 1) (by omega) hj.1
  have h2 : f d[k]! d[k + 1]! < 0 := by
    rcases Int.lt_or_eq_of_le h1 with h | h
    · exact h
    · exact absurd (hz k (k + 1) (by omega) hj.1 h) hne
  by_cases e : i = k
  · subst e; exact h2
  · have h3 := hs i k (by omega) (by omega)
    have h4 := hf.tr _ _ _ h3 h1
    rcases Int.lt_or_eq_of_le h4 with h | h
    · exact h
    · exfalso
      have h5 := hf.zero h
      have := hf.tr _ _ _ (by omega : f d[k + 1]! d[i]! ≤ 0) h3
      have := hf.anti d[k + 1]! d[k]!
      have := hf.anti d[k]! d[k + 1]!
      omega
end
def vsort (l : List Str) : List Str := insAll verCmp (l.filter fun s => decide (verErr s = 0))
theorem vsort_mem (l : List Str) (x : Str) : x ∈ vsort l ↔ x ∈ l ∧ verErr x = 0 := by
  unfold vsort; rw [insAll_mem]; simp
end Go.Proofs.Pw

namespace Go.Proofs.Pw
open Go.Lib hiding intOf
def mdErr (m : Md) : Nat := modErr m.1 m.2
theorem modErr_zero {p v : Str} (h : modErr p v = 0) : pathErr p = 0 ∧ verErr v = 0 := by
  unfold modErr at h
  by_cases h1 : pathErr p = 0
  · refine ⟨h1, ?_⟩
    by_cases h2 : verErr v = 0
    · exact h2
    · rw [if_neg (by rw [h1]; simp), if_pos h2] at h
      exact h
  · rw [if_pos h1] at h
    exact absurd h h1
def modAhead (a b : Md) : Bool := decide (compareBytes a.1 b.1 < 0) || (decide (a.1 = b.1) && verLess a.2 b.2)
def modCmp (a b : Md) : Int := orI (compareBytes a.1 b.1) (verCmp a.2 b.2)
theorem modCmp_ord : Ord3 modCmp := Ord3.or (compareBytes_ord.comap (fun m : Md => m.1)) (verCmp_ord.comap (fun m : Md => m.2))
theorem modCmp_zero {a b : Md} (ha : mdErr a = 0) (hb : mdErr b = 0) (h : modCmp a b = 0) : a = b := by
  obtain ⟨h1, h2⟩ := orI_eq.1 h
  exact Prod.ext (compareBytes_zero h1) ((verCmp_same (modErr_zero ha).2 (modErr_zero hb).2).1 h2)
theorem modAhead_iff {a b : Md} (ha : mdErr a = 0) (hb : mdErr b = 0) : modAhead a b = decide (modCmp a b < 0) := by
  unfold modAhead modCmp verLess
  rw [Bool.eq_iff_iff]
  simp only [Bool.or_eq_true, Bool.and_eq_true, decide_eq_true_eq, orI_lt]
  rw [compareBytes_zero_iff]
  constructor
  · rintro (h | ⟨h, _, _, h2⟩)
    · exact .inl h
    · exact .inr ⟨h, h2⟩
  · rintro (h | ⟨h, h2⟩)
    · exact .inl h
    · exact .inr ⟨h, (modErr_zero ha).2, (modErr_zero hb).2, h2⟩
end Go.Proofs.Pw

namespace Go.Proofs.Pw
open Go.RowKit
structure EnvM (w : World) : Prop where
  maxLen : ∃ m, w.cell? ⟨12, 0, none⟩ = some (.int .i64 m)
theorem lt_of_cell {w : World} {a : Addr} {v : Value} (h : w.cell? a = some v) : a.block < w.heap.size := World.block_lt_of_cell? w a h
theorem Below.cell_some {w w' : World} (hb : Below w.heap.size w w') {a : Addr} {v : Value} (h : w.cell? a = some v) : w'.cell? a = some v :=
  (hb.cell (lt_of_cell h)).trans h
theorem EnvM.below {w w' : World} (h : EnvM w) (hb : Below w.heap.size w w') : EnvM w' := by
  obtain ⟨m, hm⟩ := h.maxLen
  exact ⟨m, Below.cell_some hb hm⟩
theorem below_step {w w1 w2 : World} (h : Below w.heap.size w w1) (h2 : Below w1.heap.size w1 w2) : Below w.heap.size w w2 := h.trans (h2.mono h.size)
theorem below_alloc (w : World) (o : Obj) : Below w.heap.size w (w.alloc o) := (Below.refl _ _).alloc (Nat.le_refl _) _
def errG : Nat → Nat
  | 1 => 2 | 2 => 4 | 3 => 8 | 4 => 5 | 5 => 0
  | 6 => 9 | 7 => 7 | 8 => 1 | 9 => 6 | _ => 3
structure EnvE (ks : List Nat) (A : Nat → Addr) (w : World) : Prop where
  var : ∀ k ∈ ks, w.cell? ⟨errG k, 0, none⟩ = some (.iface 371 (.pointer (some (A k))))
  row : ∀ k ∈ ks, ∃ c t, w.heap[(A k).block]? = some (.cells c t (0, 0))
  inj : ∀ j ∈ ks, ∀ k ∈ ks, A j = A k → j = k
theorem Below.cell_same {w w' : World} (hb : Below w.heap.size w w') {a : Addr} {v : Value} (h : w.cell? a = some v) : w'.cell? a = some v :=
  (hb.cell (World.block_lt_of_cell? w a h)).trans h
theorem Below.row_same {w w' : World} (hb : Below w.heap.size w w') {b : Nat} {o : Obj} (h : w.heap[b]? = some o) : w'.heap[b]? = some o :=
  (hb.block b (Array.getElem?_eq_some_iff.1 h).1).trans h
theorem EnvE.below {ks : List Nat} {A : Nat → Addr} {w w' : World} (h : EnvE ks A w) (hb : Below w.heap.size w w') : EnvE ks A w' :=
  ⟨fun k hk => Below.cell_same hb (h.var k hk), fun k hk => let ⟨c, t, hc⟩ := h.row k hk; ⟨c, t, Below.row_same hb hc⟩, h.inj⟩
theorem EnvE.sub {ks js : List Nat} {A : Nat → Addr} {w : World} (h : EnvE ks A w) (hs : ∀ k ∈ js, k ∈ ks) : EnvE js A w :=
  ⟨fun k hk => h.var k (hs k hk), fun k hk => h.row k (hs k hk), fun j hj k hk => h.inj j (hs j hj) k (hs k hk)⟩
def errV (A : Nat → Addr) (code : Nat) : Value := if code = 0 then .nilIface else .iface 371 (.pointer (some (A code)))
theorem errV_zero (A : Nat → Addr) : errV A 0 = .nilIface := rfl
theorem errV_pos (A : Nat → Addr) {c : Nat} (h : c ≠ 0) : errV A c = .iface 371 (.pointer (some (A c))) := if_neg h
def allErrs : List Nat := [1, 2, 3, 4, 5, 6, 7, 8, 9, 10]
theorem Below.drewN {B : Nat} {a w : World} (h : Below B a w) (n : Nat) : Below B a (w.drewN n) := below_drewN h n
structure EnvP (ks : List Nat) (A : Nat → Addr) (w : World) : Prop where
  m : EnvM w
  errs : EnvE ks A w
  has : 1 ∈ ks ∧ 2 ∈ ks
  range : ∃ te pe, w.cell? ⟨14, 0, none⟩ = some (.iface te pe)
  syn : ∃ te pe, w.cell? ⟨13, 0, none⟩ = some (.iface te pe)
  pow10 : Lib.TabIs Tryz.prog w "internal/strconv.uint64pow10" .u64 Lib.pow10Tab
theorem var?_below {P : Program} {w w' : World} {n : String} {cs : Array Value} (h : w.var? P n = some cs) (hb : Below w.heap.size w w') : w'.var? P n = some cs := by
  unfold World.var? at h ⊢
  cases hg : P.globalNamed n with
  | none => simp [hg] at h
  | some g =>
    simp only [hg, Option.bind_some] at h ⊢
    have hlt : g < w.heap.size := by
      rcases Nat.lt_or_ge g w.heap.size with h' | h'
      · exact h'
      · simp [Array.getElem?_eq_none h'] at h
    rw [hb.block g hlt]
    exact h
theorem EnvP.below {ks : List Nat} {A : Nat → Addr} {w w' : World} (h : EnvP ks A w) (hb : Below w.heap.size w w') : EnvP ks A w' :=
  { m := h.m.below hb, errs := h.errs.below hb, has := h.has
    range := let ⟨te, pe, e⟩ := h.range; ⟨te, pe, Below.cell_some hb e⟩
    syn := let ⟨te, pe, e⟩ := h.syn; ⟨te, pe, Below.cell_some hb e⟩
    pow10 := var?_below h.pow10 hb
  }
end Go.Proofs.Pw

namespace Go.Proofs.Pw
open Go.RowKit
open Go.Lib hiding intOf
def mdF (n : Nat) (P V : Nat → ByteArray) : List Md := (List.range n).map fun j => ((P j).data.toList, (V j).data.toList)
theorem mdF_length (n P V) : (mdF n P V).length = n := by simp [mdF]
theorem mdF_get (n P V) (j : Nat) (h : j < n) : (mdF n P V)[j]? = some ((P j).data.toList, (V j).data.toList) := by simp [mdF, h]
theorem mdF_take_succ (n P V) (k : Nat) (h : k < n) : (mdF n P V).take (k + 1) = (mdF n P V).take k ++ [((P k).data.toList, (V k).data.toList)] := by
  rw [List.take_add_one, mdF_get n P V k h]; rfl
theorem mdF_take_all (n P V) : (mdF n P V).take n = mdF n P V := List.take_of_length_le (by rw [mdF_length]; exact Nat.le_refl _)
theorem bytes_eq {a b : ByteArray} : a.data.toList = b.data.toList ↔ a = b := ⟨fun h => by
  apply ByteArray.ext; apply Array.ext'; exact h, fun h => by rw [h]⟩
def ModsAt (w : World) (v : Value) (l : List Md) : Prop :=
  ∃ a n cap P V, v = .slice a n cap ∧ l = mdF n P V ∧ n ≤ cap ∧ cap ≤ 9223372036854775807 ∧ ∀ j, j < n → ∃ b o, a = some ⟨b, o, none⟩ ∧ w.cell? ⟨b, o + j * 2, none⟩ = some (.string (P j)) ∧ w.cell? ⟨b, o + j * 2 + 1, none⟩ = some (.string (V j))
theorem ModsAt.below {w w' : World} {v : Value} {l : List Md} (h : ModsAt w v l) (hb : Below w.heap.size w w') : ModsAt w' v l := by
  obtain ⟨a, n, cap, P, V, h1, h2, h3, h4, h5⟩ := h
  exact ⟨a, n, cap, P, V, h1, h2, h3, h4, fun j hj => let ⟨b, o, e1, e2, e3⟩ := h5 j hj; ⟨b, o, e1, Below.cell_some hb e2, Below.cell_some hb e3⟩⟩
theorem ModsAt.nil (w : World) : ModsAt w (.slice none 0 0) [] := ⟨none, 0, 0, fun _ => ByteArray.empty, fun _ => ByteArray.empty, rfl, rfl, Nat.le_refl _, by decide, fun j hj => absurd hj (Nat.not_lt_zero _)⟩
def findI {α : Type} (p : α → Bool) (l : List α) : Int := match l.findIdx? p with | some k => (k : Int) | none => -1
theorem findI_hit {α : Type} {p : α → Bool} {l : List α} {k : Nat} {x : α} (hk : l[k]? = some x) (hp : p x = true) (h0 : ∀ j y, j < k → l[j]? = some y → p y = false) : findI p l = k := by
  have : l.findIdx? p = some k := by
    rw [List.findIdx?_eq_some_iff_getElem]
    obtain ⟨h, e⟩ := List.getElem?_eq_some_iff.1 hk
    refine ⟨h, by rw [e]; exact hp, fun j hj => ?_⟩
    have := h0 j l[j] hj (List.getElem?_eq_getElem _)
    simp [this]
  unfold findI
  rw [this]
theorem findI_none {α : Type} {p : α → Bool} {l : List α} (h : ∀ (j : Nat) (y : α), l[j]? = some y → p y = false) : findI p l = -1 := by
  have : l.findIdx? p = none := by
    rw [List.findIdx?_eq_none_iff]
    intro x hx
    obtain ⟨j, hj⟩ := List.getElem?_of_mem hx
    rw [h j x hj]
  unfold findI
  rw [this]
theorem Tryz.md_fields : Tryz.prog.underlying 29 = some (.struct (Tryz.prog.fieldsOf 29)) := by kernel_rfl
theorem Tryz.md_held : Tryz.prog.stoodInHeld 29 = false := by kernel_rfl
theorem Tryz.md_guard : Tryz.prog.eqGuardType Tryz.prog.depth 29 = false := by kernel_rfl
theorem md_equal (p v q u : ByteArray) (w : World) : (Op.equalIn 10000 29 (.agg #[.string p, .string v]) (.agg #[.string q, .string u])).run Tryz.prog w = .ok (decide (p = q ∧ v = u)) w := by
  have u3 := Tryz.underlying9
  have a3 := Tryz.isAgg9
  have z3 := Tryz.sizeOf9
  rw [show (10000 : Nat) = 9999 + 1 from rfl, run_equalIn_agg w 9999 29 _ _ Tryz.md_fields Tryz.md_held]
  simp only [Program.fieldsOf, Tryz.underlying29]
  go_simp
  have e1 : (p.toList = q.toList) ↔ p = q := by rw [ByteArray.toList_eq, ByteArray.toList_eq]; exact bytes_eq
  have e2 : (v.toList = u.toList) ↔ v = u := by rw [ByteArray.toList_eq, ByteArray.toList_eq]; exact bytes_eq
  by_cases h1 : p = q
  · by_cases h2 : v = u
    · simp [h1, h2]
    · have : ¬ v.toList = u.toList := fun h => h2 (e2.1 h)
      simp [h1, h2, this]
  · have : ¬ p.toList = q.toList := fun h => h1 (e1.1 h)
    simp [h1, this]
theorem md_eql (p v q u : ByteArray) (w : World) : (binOp .eql 29 (.agg #[.string p, .string v]) (.agg #[.string q, .string u])).run Tryz.prog w = .ok (.bool (decide (p = q ∧ v = u))) w := by
  rw [run_eql_struct, md_equal]; rfl
end Go.Proofs.Pw

namespace Go.Proofs.Pw
open Go.Lib hiding intOf
structure Fl where
  path : Str
  reqs : List Md
  excl : List Md
def firstE (g : Nat → Nat) : Nat → Nat × Int
  | 0 => (0, -1)
  | n + 1 => if (firstE g n).1 ≠ 0 then firstE g n else if g n ≠ 0 then (g n, (n : Int)) else (0, -1)
theorem firstE_none {g : Nat → Nat} : ∀ {n : Nat}, (∀ j, j < n → g j = 0) → firstE g n = (0, -1)
  | 0, _ => rfl
  | n + 1, h => by
    rw [firstE, firstE_none (n := n) (fun j hj => h j (by omega)), if_neg (by simp), if_neg (by simp [h n (by omega)])]
theorem firstE_hit {g : Nat → Nat} {k : Nat} (hg : g k ≠ 0) (h : ∀ j, j < k → g j = 0) : ∀ {n : Nat}, k < n → firstE g n = (g k, (k : Int))
  | 0, hk => absurd hk (Nat.not_lt_zero _)
  | n + 1, hk => by
    by_cases e : k = n
    · subst e
      rw [firstE, firstE_none h, if_neg (by simp), if_pos hg]
    · have := firstE_hit hg h (n := n) (by omega)
      rw [firstE, this, if_pos hg]
theorem firstE_zero {g : Nat → Nat} : ∀ {n : Nat}, (firstE g n).1 = 0 → ∀ j, j < n → g j = 0
  | 0, _, j, hj => absurd hj (Nat.not_lt_zero _)
  | n + 1, h, j, hj => by
    rw [firstE] at h
    by_cases h1 : (firstE g n).1 = 0
    · rw [if_neg (by simp [h1])] at h
      by_cases h2 : g n = 0
      · by_cases e : j = n
        · rw [e]; exact h2
        · exact firstE_zero h1 j (by omega)
      · rw [if_pos h2] at h
        exact absurd h h2
    · rw [if_pos h1] at h
      exact absurd h h1
def mdAt (l : List Md) (i : Nat) : Md := l.getD i ([], [])
theorem mdAt_get {l : List Md} {i : Nat} (h : i < l.length) : l[i]? = some (mdAt l i) := by
  unfold mdAt
  rw [List.getD_eq_getElem?_getD, List.getElem?_eq_getElem h]; rfl
theorem mdAt_mem {l : List Md} {i : Nat} (h : i < l.length) : mdAt l i ∈ l := List.mem_of_getElem? (mdAt_get h)
theorem mdAt_mdF {n : Nat} {P V : Nat → ByteArray} {i : Nat} (h : i < n) : mdAt (mdF n P V) i = ((P i).data.toList, (V i).data.toList) := by
  unfold mdAt
  rw [List.getD_eq_getElem?_getD, mdF_get n P V i h]; rfl
def reqE (p : Str) (l : List Md) (i : Nat) : Nat :=
  if mdErr (mdAt l i) ≠ 0 then mdErr (mdAt l i) else if (mdAt l i).1 = p then 3 else if 0 < i ∧ compareBytes (mdAt l i).1 (mdAt l (i - 1)).1 ≤ 0 then 8 else 0
def excE (l : List Md) (i : Nat) : Nat :=
  if mdErr (mdAt l i) ≠ 0 then mdErr (mdAt l i) else if 0 < i ∧ modAhead (mdAt l (i - 1)) (mdAt l i) = false then 8 else 0
def claE (r x : List Md) (i : Nat) : Nat := if mdAt r i ∈ x then 9 else 0
def orE (a b : Nat × Int) : Nat × Int := if a.1 ≠ 0 then a else b
theorem orE_zero {a b : Nat × Int} : (orE a b).1 = 0 ↔ a.1 = 0 ∧ b.1 = 0 := by
  unfold orE
  by_cases h : a.1 = 0
  · rw [if_neg (by simp [h])]; simp [h]
  · rw [if_pos h]; simp [h]
structure Right (f : Fl) : Prop where
  path : pathErr f.path = 0
  reqs : f.reqs.length ≤ 20
  excl : f.excl.length ≤ 20
  req : ∀ i, i < f.reqs.length → reqE f.path f.reqs i = 0
  exc : ∀ i, i < f.excl.length → excE f.excl i = 0
  cla : ∀ i, i < f.reqs.length → claE f.reqs f.excl i = 0
theorem Right.mem {f : Fl} (h : Right f) : (∀ m ∈ f.reqs, mdErr m = 0) ∧ ∀ m ∈ f.excl, mdErr m = 0 := by
  constructor
  · intro m hm
    obtain ⟨i, hi⟩ := List.getElem?_of_mem hm
    have hl := (List.getElem?_eq_some_iff.1 hi).1
    have h1 := h.req i hl
    rw [mdAt_get hl] at hi
    injection hi with hi
    unfold reqE at h1
    rw [hi] at h1
    by_cases h2 : mdErr m = 0
    · exact h2
    · rw [if_pos h2] at h1; exact h1
  · intro m hm
    obtain ⟨i, hi⟩ := List.getElem?_of_mem hm
    have hl := (List.getElem?_eq_some_iff.1 hi).1
    have h1 := h.exc i hl
    rw [mdAt_get hl] at hi
    injection hi with hi
    unfold excE at h1
    rw [hi] at h1
    by_cases h2 : mdErr m = 0
    · exact h2
    · rw [if_pos h2] at h1; exact h1
end Go.Proofs.Pw

namespace Go.Proofs.Pw
open Go.Lib hiding intOf
def hasP (p : Str) (m : Md) : Bool := decide (m.1 = p)
theorem findI_eq_none {α : Type} {p : α → Bool} {l : List α} : findI p l < 0 ↔ ∀ x ∈ l, p x = false := by
  unfold findI
  cases h : l.findIdx? p with
  | none =>
    rw [List.findIdx?_eq_none_iff] at h
    exact ⟨fun _ => h, fun _ => by decide⟩
  | some k =>
    rw [List.findIdx?_eq_some_iff_getElem] at h
    obtain ⟨hk, h1, _⟩ := h
    constructor
    · intro h; simp only at h; omega
    · intro h
      rw [h _ (List.getElem_mem hk)] at h1
      cases h1
theorem findI_spec {α : Type} {p : α → Bool} {l : List α} {k : Nat} (h : findI p l = k) : ∃ x, l[k]? = some x ∧ p x = true := by
  unfold findI at h
  cases hf : l.findIdx? p with
  | none => rw [hf] at h; simp only at h; omega
  | some j =>
    rw [hf] at h
    simp only at h
    obtain rfl : j = k := by omega
    rw [List.findIdx?_eq_some_iff_getElem] at hf
    obtain ⟨hk, h1, _⟩ := hf
    exact ⟨_, List.getElem?_eq_getElem hk, h1⟩
def RiseP (l : List Md) : Prop := l.Pairwise fun a b => compareBytes a.1 b.1 < 0
theorem compareBytes_self (a : Str) : compareBytes a a = 0 := compareBytes_ord.self a
theorem cb_trans {a b c : Str} (h1 : compareBytes a b < 0) (h2 : compareBytes b c < 0) : compareBytes a c < 0 := by
  have h := compareBytes_ord
  have a1 := h.tr a b c (by omega) (by omega)
  rcases Int.lt_or_eq_of_le a1 with a2 | a2
  · exact a2
  · exfalso
    have a3 := h.zero a2
    have a4 := h.tr c a b (by omega) (by omega)
    have a5 := (h.anti b c).1 h2
    omega
theorem Right.rise {f : Fl} (h : Right f) : RiseP f.reqs := by
  have step : ∀ i, i + 1 < f.reqs.length → compareBytes (mdAt f.reqs i).1 (mdAt f.reqs (i + 1)).1 < 0 := by
    intro i hi
    have h1 := h.req (i + 1) hi
    unfold reqE at h1
    have h0 := h.mem.1 _ (mdAt_mem hi)
    rw [if_neg (by simp [h0])] at h1
    split at h1
    · cases h1
    · split at h1
      · cases h1
      · rename_i h2
        rw [Nat.add_sub_cancel] at h2
        have h3 : ¬ compareBytes (mdAt f.reqs (i + 1)).1 (mdAt f.reqs i).1 ≤ 0 := fun e => h2 ⟨Nat.succ_pos _, e⟩
        exact (compareBytes_ord.anti _ _).2 (by omega)
  have all : ∀ j i, i < j → j < f.reqs.length → compareBytes (mdAt f.reqs i).1 (mdAt f.reqs j).1 < 0 := by
    intro j
    induction j with
    | zero => intro i hi; exact absurd hi (Nat.not_lt_zero _)
    | succ j ih =>
      intro i hi hj
      by_cases e : i = j
      · subst e; exact step i hj
      · exact cb_trans (ih i (by omega) (by omega)) (step j hj)
  unfold RiseP
  rw [List.pairwise_iff_getElem]
  intro i j hi hj hij
  have e : ∀ k (hk : k < f.reqs.length), mdAt f.reqs k = f.reqs[k] := fun k hk => by
    have := mdAt_get hk
    rw [List.getElem?_eq_getElem hk] at this
    exact (Option.some.inj this).symm
  have := all j i hij hj
  rw [e i hi, e j hj] at this
  exact this
theorem RiseP.unique : ∀ {l : List Md}, RiseP l → ∀ {a b : Md}, a ∈ l → b ∈ l → a.1 = b.1 → a = b
  | [], _, _, _, h, _, _ => by simp at h
  | x :: r, h, a, b, ha, hb, e => by
    have h1 := List.pairwise_cons.1 h
    rcases List.mem_cons.1 ha with ea | ha' <;> rcases List.mem_cons.1 hb with eb | hb'
    · rw [ea, eb]
    · have := h1.1 b hb'
      rw [← ea, e, compareBytes_self] at this
      omega
    · have := h1.1 a ha'
      rw [← eb, e, compareBytes_self] at this
      omega
    · exact RiseP.unique h1.2 ha' hb' e
theorem stays {l : List Md} (h : RiseP l) (p : Str) {x : Md} (hx : x ∈ l) : (findI (hasP x.1) (l.filter fun y => !hasP p y) < 0 ↔ x.1 = p) ∧ ∀ k : Nat, findI (hasP x.1) (l.filter fun y => !hasP p y) = k → (l.filter fun y => !hasP p y)[k]? = some x := by
  constructor
  · rw [findI_eq_none]
    constructor
    · intro hn
      by_cases e : x.1 = p
      · exact e
      · have := hn x (List.mem_filter.2 ⟨hx, by simp [hasP, e]⟩)
        simp [hasP] at this
    · intro e y hy
      have := (List.mem_filter.1 hy).2
      unfold hasP at this ⊢
      rw [e]
      simpa using this
  · intro k hk
    obtain ⟨y, hy, hp⟩ := findI_spec hk
    have hyl := (List.mem_filter.1 (List.mem_of_getElem? hy)).1
    have e : y.1 = x.1 := by simpa [hasP] using hp
    rw [hy, h.unique hyl hx e]
end Go.Proofs.Pw

namespace Go.Proofs.Pw
open Go.Lib hiding intOf
structure En where
  md : Md
  reqs : List Md
  packs : List Str
  back : Bool
def noEn : En := ⟨([], []), [], [], false⟩
def enAt (l : List En) (i : Nat) : En := l.getD i noEn
theorem enAt_get {l : List En} {i : Nat} (h : i < l.length) : l[i]? = some (enAt l i) := by
  unfold enAt
  rw [List.getD_eq_getElem?_getD, List.getElem?_eq_getElem h]; rfl
theorem enAt_mem {l : List En} {i : Nat} (h : i < l.length) : enAt l i ∈ l := List.mem_of_getElem? (enAt_get h)
theorem enAt_elem {l : List En} {i : Nat} (h : i < l.length) : enAt l i = l[i] := by
  have := enAt_get h
  rw [List.getElem?_eq_getElem h] at this
  exact (Option.some.inj this).symm
def reqsErr (e : En) : Nat := if 20 < e.reqs.length then 7 else (firstE (reqE e.md.1 e.reqs) e.reqs.length).1
def packOk (s : Str) : Bool := decide (s = [46]) || decide (pathErr s = 0)
def packE (l : List Str) (i : Nat) : Nat := if 0 < i ∧ compareBytes (l.getD i []) (l.getD (i - 1) []) ≤ 0 then 8 else 0
def packsErr (e : En) : Nat := if 10 < e.packs.length then 7 else if e.packs.all packOk then (firstE (packE e.packs) e.packs.length).1 else 1
def entErr (l : List En) (i : Nat) : Nat :=
  if mdErr (enAt l i).md ≠ 0 then mdErr (enAt l i).md
  else if 0 < i ∧ modAhead (enAt l (i - 1)).md (enAt l i).md = false then 8
  else if reqsErr (enAt l i) ≠ 0 then reqsErr (enAt l i) else packsErr (enAt l i)
def isMd (m : Md) (e : En) : Bool := decide (e.md = m)
def findE (l : List En) (m : Md) : Int := findI (isMd m) l
def lost (l : List En) (m : Md) : Bool := decide (findE l m < 0)
def lostE (l : List En) (i : Nat) : Nat := if (enAt l i).reqs.any (lost l) then 5 else 0
def idxErr (l : List En) : Nat × Int :=
  if 100 < l.length then (7, -1) else orE (firstE (entErr l) l.length) (firstE (lostE l) l.length)
theorem findE_lt {l : List En} {m : Md} : findE l m < 0 ↔ ∀ e ∈ l, e.md ≠ m := by
  unfold findE
  rw [findI_eq_none]
  exact ⟨fun h e he => of_decide_eq_false (h e he), fun h e he => decide_eq_false (h e he)⟩
theorem findE_at {l : List En} {m : Md} {k : Nat} (h : findE l m = k) : k < l.length ∧ (enAt l k).md = m := by
  obtain ⟨x, hx, hp⟩ := findI_spec h
  have hl := (List.getElem?_eq_some_iff.1 hx).1
  rw [enAt_get hl] at hx
  exact ⟨hl, by rw [Option.some.inj hx]; exact of_decide_eq_true hp⟩
theorem findE_nat {l : List En} {m : Md} (h : ¬ findE l m < 0) : ∃ k : Nat, findE l m = k ∧ k < l.length ∧ (enAt l k).md = m :=
  have h0 : findE l m = ((findE l m).toNat : Int) := by omega
  ⟨(findE l m).toNat, h0, findE_at h0⟩
structure RightI (l : List En) : Prop where
  len : l.length ≤ 100
  mds : ∀ e ∈ l, mdErr e.md = 0
  rise : Rises modCmp (l.map (·.md))
  reqs : ∀ e ∈ l, reqsErr e = 0
  packs : ∀ e ∈ l, packsErr e = 0
  all : ∀ e ∈ l, ∀ m ∈ e.reqs, ∃ x ∈ l, x.md = m
theorem entErr_zero {l : List En} {i : Nat} (h : entErr l i = 0) : mdErr (enAt l i).md = 0 ∧ (0 < i → modAhead (enAt l (i - 1)).md (enAt l i).md = true) ∧ reqsErr (enAt l i) = 0 ∧ packsErr (enAt l i) = 0 := by
  unfold entErr at h
  by_cases h1 : mdErr (enAt l i).md = 0
  · rw [if_neg (by simp [h1])] at h
    by_cases h2 : 0 < i ∧ modAhead (enAt l (i - 1)).md (enAt l i).md = false
    · rw [if_pos h2] at h; cases h
    · rw [if_neg h2] at h
      by_cases h3 : reqsErr (enAt l i) = 0
      · rw [if_neg (by simp [h3])] at h
        refine ⟨h1, fun hi => ?_, h3, h⟩
        cases h4 : modAhead (enAt l (i - 1)).md (enAt l i).md
        · exact absurd ⟨hi, h4⟩ h2
        · rfl
      · rw [if_pos h3] at h; exact absurd h h3
  · rw [if_pos h1] at h; exact absurd h h1
theorem rises_step {α : Type} {f : α → α → Int} (hf : Ord3 f) {l : List α} (h : ∀ i (h1 : i + 1 < l.length), f l[i] l[i + 1] < 0) : Rises f l := by
  have tr : ∀ a b c, f a b < 0 → f b c < 0 → f a c < 0 := fun a b c h1 h2 => by
    have a1 := hf.tr a b c (by omega) (by omega)
    rcases Int.lt_or_eq_of_le a1 with a2 | a2
    · exact a2
    · exfalso
      have a3 := hf.zero a2
      have a4 := hf.tr c a b (by omega) (by omega)
      have a5 := (hf.anti b c).1 h2
      omega
  have all : ∀ j i (hij : i < j) (hj : j < l.length), f l[i] l[j] < 0 := by
    intro j
    induction j with
    | zero => intro i hi; exact absurd hi (Nat.not_lt_zero _)
    | succ j ih =>
      intro i hi hj
      by_cases e : i = j
      · subst e; exact h i hj
      · exact tr _ _ _ (ih i (by omega) (by omega)) (h j hj)
  unfold Rises
  rw [List.pairwise_iff_getElem]
  exact fun i j _ hj hij => all j i hij hj
theorem mem_enAt {l : List En} {e : En} (h : e ∈ l) : ∃ i, i < l.length ∧ enAt l i = e := by
  obtain ⟨i, hi⟩ := List.getElem?_of_mem h
  have hl := (List.getElem?_eq_some_iff.1 hi).1
  rw [enAt_get hl] at hi
  exact ⟨i, hl, Option.some.inj hi⟩
theorem rightI_of {l : List En} (h : (idxErr l).1 = 0) : RightI l := by
  unfold idxErr at h
  by_cases h0 : 100 < l.length
  · rw [if_pos h0] at h; cases h
  · rw [if_neg h0, orE_zero] at h
    have h1 := fun i hi => entErr_zero (firstE_zero h.1 i hi)
    have h2 := firstE_zero h.2
    have hm : ∀ e ∈ l, mdErr e.md = 0 := fun e he => by
      obtain ⟨i, hi, rfl⟩ := mem_enAt he
      exact (h1 i hi).1
    refine ⟨by omega, hm, rises_step modCmp_ord fun i hi => ?_, fun e he => ?_, fun e he => ?_, fun e he m hme => ?_⟩
    · rw [List.length_map] at hi
      have := (h1 (i + 1) hi).2.1 (by omega)
      rw [Nat.add_sub_cancel, modAhead_iff (hm _ (enAt_mem (by omega))) (hm _ (enAt_mem hi)), enAt_elem (by omega), enAt_elem hi] at this
      simpa using of_decide_eq_true this
    · obtain ⟨i, hi, rfl⟩ := mem_enAt he
      exact (h1 i hi).2.2.1
    · obtain ⟨i, hi, rfl⟩ := mem_enAt he
      exact (h1 i hi).2.2.2
    · obtain ⟨i, hi, rfl⟩ := mem_enAt he
      have h3 := h2 i hi
      unfold lostE at h3
      by_cases h4 : (enAt l i).reqs.any (lost l) = true
      · rw [if_pos h4] at h3; cases h3
      · have h5 : lost l m = false := by
          cases h6 : lost l m
          · rfl
          · exact absurd (List.any_eq_true.2 ⟨m, hme, h6⟩) h4
        unfold lost at h5
        rw [decide_eq_false_iff_not] at h5
        obtain ⟨k, _, hk, e⟩ := findE_nat h5
        exact ⟨_, enAt_mem hk, e⟩
theorem RightI.req {l : List En} (h : RightI l) {e : En} (he : e ∈ l) : ∀ m ∈ e.reqs, mdErr m = 0 := fun m hm => by
  obtain ⟨x, hx, rfl⟩ := h.all e he m hm
  exact h.mds x hx
theorem rises_inj {α β : Type} {f : α → α → Int} (hf : Ord3 f) {k : β → α} : ∀ {l : List β}, Rises f (l.map k) → ∀ {a b : β}, a ∈ l → b ∈ l → k a = k b → a = b
  | [], _, _, _, h, _, _ => by simp at h
  | x :: r, h, a, b, ha, hb, e => by
    have h1 := List.pairwise_cons.1 h
    rcases List.mem_cons.1 ha with ea | ha' <;> rcases List.mem_cons.1 hb with eb | hb'
    · rw [ea, eb]
    · have := h1.1 (k b) (List.mem_map_of_mem hb')
      rw [← ea, e, hf.self] at this
      omega
    · have := h1.1 (k a) (List.mem_map_of_mem ha')
      rw [← eb, e, hf.self] at this
      omega
    · exact rises_inj hf h1.2 ha' hb' e
theorem RightI.one {l : List En} (h : RightI l) {a b : En} (ha : a ∈ l) (hb : b ∈ l) (e : a.md = b.md) : a = b := rises_inj modCmp_ord (k := (·.md)) h.rise ha hb e
def enF (n : Nat) (P V : Nat → ByteArray) (R : Nat → List Md) (K : Nat → List Str) (B : Nat → Bool) : List En := (List.range n).map fun j => ⟨((P j).data.toList, (V j).data.toList), R j, K j, B j⟩
theorem enF_length (n P V R K B) : (enF n P V R K B).length = n := by simp [enF]
theorem enF_get (n P V R K B) (j : Nat) (h : j < n) : (enF n P V R K B)[j]? = some ⟨((P j).data.toList, (V j).data.toList), R j, K j, B j⟩ := by simp [enF, h]
theorem enAt_enF {n P V R K B} {j : Nat} (h : j < n) : enAt (enF n P V R K B) j = ⟨((P j).data.toList, (V j).data.toList), R j, K j, B j⟩ := by
  unfold enAt
  rw [List.getD_eq_getElem?_getD, enF_get n P V R K B j h]; rfl
end Go.Proofs.Pw

namespace Go.Proofs.Pw
open Go.Lib hiding intOf
def versL (l : List En) (p : Str) : List Str := (l.filter fun e => decide (e.md.1 = p)).map (·.md.2)
def backB (l : List En) (p v : Str) : Bool := decide (0 ≤ findE l (p, v)) && (enAt l (findE l (p, v)).toNat).back
def preB (v : Str) : Bool := decide (verErr v ≠ 0) || decide (0 < (verPre v).length)
def likedL (l : List En) (p : Str) (vs : List Str) : List Str :=
  if vs.filter (fun v => !(backB l p v || preB v)) ≠ [] then vs.filter (fun v => !(backB l p v || preB v))
  else if vs.filter (fun v => !backB l p v) ≠ [] then vs.filter (fun v => !backB l p v) else vs
def lastS (vs : List Str) : Str := (vs.getLast?).getD []
def latestL (l : List En) (p : Str) : Str := lastS (likedL l p (vsort (versL l p)))
theorem snoc_ind {α : Type} {p : List α → Prop} (h0 : p []) (h1 : ∀ l a, p l → p (l ++ [a])) (l : List α) : p l := by
  have : ∀ r : List α, p r.reverse := fun r => by
    induction r with
    | nil => exact h0
    | cons a r ih => rw [List.reverse_cons]; exact h1 _ _ ih
  have h := this l.reverse
  rwa [List.reverse_reverse] at h
theorem likedL_sub {l : List En} {p : Str} {vs : List Str} {v : Str} (h : v ∈ likedL l p vs) : v ∈ vs := by
  unfold likedL at h
  split at h
  · exact (List.mem_filter.1 h).1
  · split at h
    · exact (List.mem_filter.1 h).1
    · exact h
theorem likedL_ne {l : List En} {p : Str} {vs : List Str} (h : vs ≠ []) : likedL l p vs ≠ [] := by
  unfold likedL
  split
  · assumption
  · split
    · assumption
    · exact h
theorem lastS_mem {vs : List Str} (h : vs ≠ []) : lastS vs ∈ vs := by
  unfold lastS
  rw [List.getLast?_eq_some_getLast h, Option.getD_some]
  exact List.getLast_mem h
theorem versL_mem {l : List En} {p v : Str} : v ∈ versL l p ↔ ∃ e ∈ l, e.md = (p, v) := by
  unfold versL
  rw [List.mem_map]
  constructor
  · rintro ⟨e, he, rfl⟩
    exact ⟨e, (List.mem_filter.1 he).1, by rw [← of_decide_eq_true (List.mem_filter.1 he).2]⟩
  · rintro ⟨e, he, e1⟩
    refine ⟨e, List.mem_filter.2 ⟨he, decide_eq_true (by rw [e1])⟩, by rw [e1]⟩
end Go.Proofs.Pw
