/- Da: walks and plain laws, joined: SortMath ModLaw World Mem FileMath Ver. Conditions: at each theorem. -/
import Derived.Test.YtnanklfbmmionaaGreatDoorDaa
import Derived.Lib.SlicesCompact
import Derived.Test.YtnanklfbmmionaaGreatDoorProg
import Derived.WalkKit
import Derived.WalkSmall
import Derived.Lib.LaidTab
import Derived.Lib.ItoaNum
import Derived.WalkLawsBesides
import Derived.WalkSpells
import Derived.Laws.StructEq
import Derived.RegionTactic
import Derived.BigRegion
import Derived.Test.YtnanklfbmmionaaGreatDoorShelf
import Derived.Stop.IfaceNil
import Derived.LaidEql
import Derived.Deep.QuietTactic
import Derived.BigQuiet
import Derived.Shelf.Strings.SlTrimAscii

namespace Go.Proofs.Pw
open Go.Lib hiding intOf
section
variable {α : Type} {f : α → α → Int}
def Rises (f : α → α → Int) (l : List α) : Prop := l.Pairwise fun a b => f a b < 0
theorem rises_ext (hf : Ord3 f) : ∀ {l m : List α}, Rises f l → Rises f m → (∀ x, x ∈ l ↔ x ∈ m) → l = m
  | [], [], _, _, _ => rfl
  | [], b :: t, _, _, h => by have := (h b).2 (by simp); simp at this
  | a :: r, [], _, _, h => by have := (h a).1 (by simp); simp at this
  | a :: r, b :: t, hl, hm, h => by
    have h1 := List.pairwise_cons.1 hl
    have h2 := List.pairwise_cons.1 hm
    have hab : a = b := by
      rcases List.mem_cons.1 ((h a).1 (by simp)) with e | e
      · exact e
      · rcases List.mem_cons.1 ((h b).2 (by simp)) with e' | e'
        · exact e'.symm
        · have x1 := h1.1 b e'
          have x2 := h2.1 a e
          have := (hf.anti a b).1 x1
          omega
    subst hab
    congr 1
    apply rises_ext hf h1.2 h2.2
    intro x
    constructor
    · intro hx
      rcases List.mem_cons.1 ((h x).1 (by simp [hx])) with e | e
      · subst e
        have := h1.1 x hx
        rw [hf.self] at this
        omega
      · exact e
    · intro hx
      rcases List.mem_cons.1 ((h x).2 (by simp [hx])) with e | e
      · subst e
        have := h2.1 x hx
        rw [hf.self] at this
        omega
      · exact e
variable [DecidableEq α]
def insU (f : α → α → Int) (s : α) : List α → List α
  | [] => [s]
  | a :: r => if f a s < 0 then a :: insU f s r else if a = s then a :: r else s :: a :: r
theorem insU_mem (f : α → α → Int) (s x : α) : ∀ l : List α, x ∈ insU f s l ↔ x = s ∨ x ∈ l
  | [] => by simp [insU]
  | a :: r => by
    unfold insU
    split
    · rw [List.mem_cons, insU_mem f s x r, List.mem_cons]
      constructor
      · rintro (h | h | h) <;> simp [h]
      · rintro (h | h | h) <;> simp [h]
    · split
      · rename_i e
        subst e
        simp
      · simp
theorem insU_rises (hf : Ord3 f) (s : α) : ∀ l : List α, (∀ a ∈ l, f a s = 0 → a = s) → Rises f l → Rises f (insU f s l)
  | [], _, _ => by simp [insU, Rises]
  | a :: r, hz, h => by
    have h1 := List.pairwise_cons.1 h
    unfold insU
    split
    · rename_i hlt
      refine List.pairwise_cons.2 ⟨fun x hx => ?_, insU_rises hf s r (fun b hb => hz b (by simp [hb])) h1.2⟩
      rcases (insU_mem f s x r).1 hx with rfl | hx
      · exact hlt
      · exact h1.1 x hx
    · rename_i hge
      split
      · exact h
      · rename_i hne
        have hsa : f s a < 0 := by
          have h0 : f a s ≠ 0 := fun e => hne (hz a (by simp) e)
          have := hf.anti s a
          omega
        refine List.pairwise_cons.2 ⟨fun x hx => ?_, h⟩
        rcases List.mem_cons.1 hx with rfl | hx
        · exact hsa
        · have hax := h1.1 x hx
          have t := hf.tr s a x (by omega) (by omega)
          rcases Int.lt_or_eq_of_le t with t | t
          · exact t
          · exfalso
            have hxs := hf.zero t
            have h1' := hf.tr a x s (by omega) (by omega)
            have h2' := (hf.anti s a).1 hsa
            omega
def insAll (f : α → α → Int) (l : List α) : List α := l.foldl (fun o s => insU f s o) []
theorem insFold_mem (f : α → α → Int) (x : α) : ∀ (l o : List α), x ∈ l.foldl (fun o s => insU f s o) o ↔ x ∈ l ∨ x ∈ o
  | [], o => by simp
  | s :: r, o => by
    rw [List.foldl_cons, insFold_mem f x r, insU_mem, List.mem_cons]
    constructor
    · rintro (h | h | h) <;> simp [h]
    · rintro ((h | h) | h) <;> simp [h]
theorem insAll_mem (f : α → α → Int) (l : List α) (x : α) : x ∈ insAll f l ↔ x ∈ l := by
  unfold insAll; rw [insFold_mem]; simp
theorem insFold_rises (hf : Ord3 f) (P : α → Prop) (hz : ∀ a b, P a → P b → f a b = 0 → a = b) : ∀ (l o : List α), (∀ a ∈ l, P a) → (∀ a ∈ o, P a) → Rises f o → Rises f (l.foldl (fun o s => insU f s o) o)
  | [], o, _, _, h => h
  | s :: r, o, hl, ho, h => by
    rw [List.foldl_cons]
    refine insFold_rises hf P hz r _ (fun a ha => hl a (by simp [ha])) (fun a ha => ?_) (insU_rises hf s o (fun a ha e => hz a s (ho a ha) (hl s (by simp)) e) h)
    rcases (insU_mem f s a o).1 ha with rfl | ha
    · exact hl a (by simp)
    · exact ho a ha
theorem insAll_rises (hf : Ord3 f) (P : α → Prop) (hz : ∀ a b, P a → P b → f a b = 0 → a = b) (l : List α) (hl : ∀ a ∈ l, P a) : Rises f (insAll f l) :=
  insFold_rises hf P hz l [] hl (by simp) List.Pairwise.nil
end
section
variable {α : Type} [Inhabited α] [DecidableEq α] {f : α → α → Int}
theorem compact_mem (d : Array α) (x : α) : x ∈ compactUpTo d d.size ↔ ∃ i, i < d.size ∧ d[i]! = x := by
  unfold compactUpTo
  simp only [List.mem_map, List.mem_filter, List.mem_range]
  constructor
  · rintro ⟨i, ⟨h1, _⟩, h2⟩
    exact ⟨i, h1, h2⟩
  · rintro ⟨i, h1, h2⟩
    induction i using Nat.strongRecOn with
    | _ i ih =>
      by_cases hk : keeps d i = true
      · exact ⟨i, ⟨h1, hk⟩, h2⟩
      · obtain ⟨j, rfl⟩ : ∃ j, i = j + 1 := by
          cases i with
          | zero => exact absurd (by simp [keeps]) hk
          | succ j => exact ⟨j, rfl⟩
        have he : d[j]! = x := by
          rw [← h2]
          by_cases e : d[j]! = d[j + 1]!
          · exact e
          · exact absurd (by simp [keeps]; exact fun h => e h.symm) hk
        exact ih j (by omega) (by omega) he
theorem compact_rises (hf : Ord3 f) (d : Array α) (hs : ∀ i j, i < j → j < d.size → f d[i]! d[j]! ≤ 0) (hz : ∀ i j, i < d.size → j < d.size → f d[i]! d[j]! = 0 → d[i]! = d[j]!) : Rises f (compactUpTo d d.size) := by
  unfold compactUpTo Rises
  rw [List.pairwise_map]
  apply List.Pairwise.imp_of_mem (R := fun a b => a < b) _ ((List.pairwise_lt_range).filter _)
  intro i j hi hj hij
  simp only [List.mem_filter, List.mem_range] at hi hj
  obtain ⟨k, rfl⟩ : ∃ k, j = k + 1 := ⟨j - 1, by omega⟩
  have hne : ¬ d[k]! = d[k + 1]! := by
    have := hj.2
    simp [keeps] at this
    exact fun e => this e.symm
  have h1 := hs k (k + 1) (by omega) hj.1
  have h2 : f d[k]! d[k + 1]! < 0 := by
    rcases Int.lt_or_eq_of_le h1 with h | h
    · exact h
    · exact absurd (hz k (k + 1) (by omega) hj.1 h) hne
  by_cases e : i = k
  · subst e; exact h2
  · have h3 := hs i k (by omega) (by omega)
    have h4 := hf.tr _ _ _ h3 h1
    rcases Int.lt_or_eq_of_le h4 with h | h
    · exact h
    · exfalso
      have h5 := hf.zero h
      have := hf.tr _ _ _ (by omega : f d[k + 1]! d[i]! ≤ 0) h3
      have := hf.anti d[k + 1]! d[k]!
      have := hf.anti d[k]! d[k + 1]!
      omega
end
def vsort (l : List Str) : List Str := insAll verCmp (l.filter fun s => decide (verErr s = 0))
theorem vsort_mem (l : List Str) (x : Str) : x ∈ vsort l ↔ x ∈ l ∧ verErr x = 0 := by
  unfold vsort; rw [insAll_mem]; simp
theorem vsort_rises (l : List Str) : Rises verCmp (vsort l) :=
  insAll_rises verCmp_ord (fun s => verErr s = 0) (fun a b ha hb e => (verCmp_same ha hb).1 e) _ (by simp)
end Go.Proofs.Pw

namespace Go.Proofs.Pw
open Go.Lib hiding intOf
def mdErr (m : Md) : Nat := modErr m.1 m.2
theorem modErr_zero {p v : Str} (h : modErr p v = 0) : pathErr p = 0 ∧ verErr v = 0 := by
  unfold modErr at h
  by_cases h1 : pathErr p = 0
  · refine ⟨h1, ?_⟩
    by_cases h2 : verErr v = 0
    · exact h2
    · rw [if_neg (by rw [h1]; simp), if_pos h2] at h
      exact h
  · rw [if_pos h1] at h
    exact absurd h h1
theorem modErr_le (p v : Str) : modErr p v ≤ 4 := by
  unfold modErr
  split
  · exact pathErr_le p
  · split
    · have := verErr_le v; omega
    · split <;> decide
def modAhead (a b : Md) : Bool := decide (compareBytes a.1 b.1 < 0) || (decide (a.1 = b.1) && verLess a.2 b.2)
def modCmp (a b : Md) : Int := orI (compareBytes a.1 b.1) (verCmp a.2 b.2)
theorem modCmp_ord : Ord3 modCmp := Ord3.or (compareBytes_ord.comap (fun m : Md => m.1)) (verCmp_ord.comap (fun m : Md => m.2))
theorem modCmp_zero {a b : Md} (ha : mdErr a = 0) (hb : mdErr b = 0) (h : modCmp a b = 0) : a = b := by
  obtain ⟨h1, h2⟩ := orI_eq.1 h
  exact Prod.ext (compareBytes_zero h1) ((verCmp_same (modErr_zero ha).2 (modErr_zero hb).2).1 h2)
theorem modAhead_iff {a b : Md} (ha : mdErr a = 0) (hb : mdErr b = 0) : modAhead a b = decide (modCmp a b < 0) := by
  unfold modAhead modCmp verLess
  rw [Bool.eq_iff_iff]
  simp only [Bool.or_eq_true, Bool.and_eq_true, decide_eq_true_eq, orI_lt]
  rw [compareBytes_zero_iff]
  constructor
  · rintro (h | ⟨h, _, _, h2⟩)
    · exact .inl h
    · exact .inr ⟨h, h2⟩
  · rintro (h | ⟨h, h2⟩)
    · exact .inl h
    · exact .inr ⟨h, (modErr_zero ha).2, (modErr_zero hb).2, h2⟩
end Go.Proofs.Pw

namespace Go.Proofs.Pw
open Go.RowKit
structure EnvM (w : World) : Prop where
  maxLen : ∃ m, w.cell? ⟨12, 0, none⟩ = some (.int .i64 m)
theorem lt_of_cell {w : World} {a : Addr} {v : Value} (h : w.cell? a = some v) : a.block < w.heap.size := World.block_lt_of_cell? w a h
theorem Below.cell_some {w w' : World} (hb : Below w.heap.size w w') {a : Addr} {v : Value} (h : w.cell? a = some v) : w'.cell? a = some v :=
  (hb.cell (lt_of_cell h)).trans h
theorem EnvM.below {w w' : World} (h : EnvM w) (hb : Below w.heap.size w w') : EnvM w' := by
  obtain ⟨m, hm⟩ := h.maxLen
  exact ⟨m, Below.cell_some hb hm⟩
theorem below_step {w w1 w2 : World} (h : Below w.heap.size w w1) (h2 : Below w1.heap.size w1 w2) : Below w.heap.size w w2 := h.trans (h2.mono h.size)
theorem below_alloc (w : World) (o : Obj) : Below w.heap.size w (w.alloc o) := (Below.refl _ _).alloc (Nat.le_refl _) _
def errG : Nat → Nat
  | 1 => 2 | 2 => 5 | 3 => 6 | 4 => 7 | 5 => 0
  | 6 => 8 | 7 => 4 | 8 => 1 | 9 => 9 | _ => 3
structure EnvE (ks : List Nat) (A : Nat → Addr) (w : World) : Prop where
  var : ∀ k ∈ ks, w.cell? ⟨errG k, 0, none⟩ = some (.iface 317 (.pointer (some (A k))))
  row : ∀ k ∈ ks, ∃ c t, w.heap[(A k).block]? = some (.cells c t (0, 0))
  inj : ∀ j ∈ ks, ∀ k ∈ ks, A j = A k → j = k
theorem Below.cell_same {w w' : World} (hb : Below w.heap.size w w') {a : Addr} {v : Value} (h : w.cell? a = some v) : w'.cell? a = some v :=
  (hb.cell (World.block_lt_of_cell? w a h)).trans h
theorem Below.row_same {w w' : World} (hb : Below w.heap.size w w') {b : Nat} {o : Obj} (h : w.heap[b]? = some o) : w'.heap[b]? = some o :=
  (hb.block b (Array.getElem?_eq_some_iff.1 h).1).trans h
theorem EnvE.below {ks : List Nat} {A : Nat → Addr} {w w' : World} (h : EnvE ks A w) (hb : Below w.heap.size w w') : EnvE ks A w' :=
  ⟨fun k hk => Below.cell_same hb (h.var k hk), fun k hk => let ⟨c, t, hc⟩ := h.row k hk; ⟨c, t, Below.row_same hb hc⟩, h.inj⟩
theorem EnvE.sub {ks js : List Nat} {A : Nat → Addr} {w : World} (h : EnvE ks A w) (hs : ∀ k ∈ js, k ∈ ks) : EnvE js A w :=
  ⟨fun k hk => h.var k (hs k hk), fun k hk => h.row k (hs k hk), fun j hj k hk => h.inj j (hs j hj) k (hs k hk)⟩
def errV (A : Nat → Addr) (code : Nat) : Value := if code = 0 then .nilIface else .iface 317 (.pointer (some (A code)))
theorem errV_zero (A : Nat → Addr) : errV A 0 = .nilIface := rfl
theorem errV_pos (A : Nat → Addr) {c : Nat} (h : c ≠ 0) : errV A c = .iface 317 (.pointer (some (A c))) := if_neg h
def allErrs : List Nat := [1, 2, 3, 4, 5, 6, 7, 8, 9, 10]
theorem mem_allErrs {k : Nat} (h1 : 1 ≤ k) (h2 : k ≤ 10) : k ∈ allErrs := by
  unfold allErrs; simp; omega
theorem Below.drewN {B : Nat} {a w : World} (h : Below B a w) (n : Nat) : Below B a (w.drewN n) := below_drewN h n
structure EnvP (ks : List Nat) (A : Nat → Addr) (w : World) : Prop where
  m : EnvM w
  errs : EnvE ks A w
  has : 1 ∈ ks ∧ 2 ∈ ks
  range : ∃ te pe, w.cell? ⟨14, 0, none⟩ = some (.iface te pe)
  pow10 : Lib.TabIs Tryz.prog w "internal/strconv.uint64pow10" .u64 Lib.pow10Tab
theorem var?_below {P : Program} {w w' : World} {n : String} {cs : Array Value} (h : w.var? P n = some cs) (hb : Below w.heap.size w w') : w'.var? P n = some cs := by
  unfold World.var? at h ⊢
  cases hg : P.globalNamed n with
  | none => simp [hg] at h
  | some g =>
    simp only [hg, Option.bind_some] at h ⊢
    have hlt : g < w.heap.size := by
      rcases Nat.lt_or_ge g w.heap.size with h' | h'
      · exact h'
      · simp [Array.getElem?_eq_none h'] at h
    rw [hb.block g hlt]
    exact h
theorem EnvP.below {ks : List Nat} {A : Nat → Addr} {w w' : World} (h : EnvP ks A w) (hb : Below w.heap.size w w') : EnvP ks A w' :=
  { m := h.m.below hb, errs := h.errs.below hb, has := h.has
    range := let ⟨te, pe, e⟩ := h.range; ⟨te, pe, Below.cell_some hb e⟩
    pow10 := var?_below h.pow10 hb
  }
end Go.Proofs.Pw

namespace Go.Proofs.Pw
open Go.RowKit
open Go.Lib hiding intOf
def mdF (n : Nat) (P V : Nat → ByteArray) : List Md := (List.range n).map fun j => ((P j).data.toList, (V j).data.toList)
theorem mdF_length (n P V) : (mdF n P V).length = n := by simp [mdF]
theorem mdF_get (n P V) (j : Nat) (h : j < n) : (mdF n P V)[j]? = some ((P j).data.toList, (V j).data.toList) := by simp [mdF, h]
theorem mdF_take_succ (n P V) (k : Nat) (h : k < n) : (mdF n P V).take (k + 1) = (mdF n P V).take k ++ [((P k).data.toList, (V k).data.toList)] := by
  rw [List.take_add_one, mdF_get n P V k h]; rfl
theorem mdF_take_all (n P V) : (mdF n P V).take n = mdF n P V := List.take_of_length_le (by rw [mdF_length]; exact Nat.le_refl _)
theorem bytes_eq {a b : ByteArray} : a.data.toList = b.data.toList ↔ a = b := ⟨fun h => by
  apply ByteArray.ext; apply Array.ext'; exact h, fun h => by rw [h]⟩
def ModsAt (w : World) (v : Value) (l : List Md) : Prop :=
  ∃ a n cap P V, v = .slice a n cap ∧ l = mdF n P V ∧ n ≤ cap ∧ cap ≤ 9223372036854775807 ∧ ∀ j, j < n → ∃ b o, a = some ⟨b, o, none⟩ ∧ w.cell? ⟨b, o + j * 2, none⟩ = some (.string (P j)) ∧ w.cell? ⟨b, o + j * 2 + 1, none⟩ = some (.string (V j))
theorem ModsAt.below {w w' : World} {v : Value} {l : List Md} (h : ModsAt w v l) (hb : Below w.heap.size w w') : ModsAt w' v l := by
  obtain ⟨a, n, cap, P, V, h1, h2, h3, h4, h5⟩ := h
  exact ⟨a, n, cap, P, V, h1, h2, h3, h4, fun j hj => let ⟨b, o, e1, e2, e3⟩ := h5 j hj; ⟨b, o, e1, Below.cell_some hb e2, Below.cell_some hb e3⟩⟩
theorem ModsAt.nil (w : World) : ModsAt w (.slice none 0 0) [] := ⟨none, 0, 0, fun _ => ByteArray.empty, fun _ => ByteArray.empty, rfl, rfl, Nat.le_refl _, by decide, fun j hj => absurd hj (Nat.not_lt_zero _)⟩
def findI {α : Type} (p : α → Bool) (l : List α) : Int := match l.findIdx? p with | some k => (k : Int) | none => -1
theorem findI_hit {α : Type} {p : α → Bool} {l : List α} {k : Nat} {x : α} (hk : l[k]? = some x) (hp : p x = true) (h0 : ∀ j y, j < k → l[j]? = some y → p y = false) : findI p l = k := by
  have : l.findIdx? p = some k := by
    rw [List.findIdx?_eq_some_iff_getElem]
    obtain ⟨h, e⟩ := List.getElem?_eq_some_iff.1 hk
    refine ⟨h, by rw [e]; exact hp, fun j hj => ?_⟩
    have := h0 j l[j] hj (List.getElem?_eq_getElem _)
    simp [this]
  unfold findI
  rw [this]
theorem findI_none {α : Type} {p : α → Bool} {l : List α} (h : ∀ (j : Nat) (y : α), l[j]? = some y → p y = false) : findI p l = -1 := by
  have : l.findIdx? p = none := by
    rw [List.findIdx?_eq_none_iff]
    intro x hx
    obtain ⟨j, hj⟩ := List.getElem?_of_mem hx
    rw [h j x hj]
  unfold findI
  rw [this]
theorem Tryz.md_fields : Tryz.prog.underlying 29 = some (.struct (Tryz.prog.fieldsOf 29)) := by kernel_rfl
theorem Tryz.md_held : Tryz.prog.stoodInHeld 29 = false := by kernel_rfl
theorem Tryz.md_guard : Tryz.prog.eqGuardType Tryz.prog.depth 29 = false := by kernel_rfl
theorem md_equal (p v q u : ByteArray) (w : World) : (Op.equalIn 10000 29 (.agg #[.string p, .string v]) (.agg #[.string q, .string u])).run Tryz.prog w = .ok (decide (p = q ∧ v = u)) w := by
  have u3 := Tryz.underlying9
  have a3 := Tryz.isAgg9
  have z3 := Tryz.sizeOf9
  rw [show (10000 : Nat) = 9999 + 1 from rfl, run_equalIn_agg w 9999 29 _ _ Tryz.md_fields Tryz.md_held]
  simp only [Program.fieldsOf, Tryz.underlying29]
  go_simp
  have e1 : (p.toList = q.toList) ↔ p = q := by rw [ByteArray.toList_eq, ByteArray.toList_eq]; exact bytes_eq
  have e2 : (v.toList = u.toList) ↔ v = u := by rw [ByteArray.toList_eq, ByteArray.toList_eq]; exact bytes_eq
  by_cases h1 : p = q
  · by_cases h2 : v = u
    · simp [h1, h2]
    · have : ¬ v.toList = u.toList := fun h => h2 (e2.1 h)
      simp [h1, h2, this]
  · have : ¬ p.toList = q.toList := fun h => h1 (e1.1 h)
    simp [h1, this]
theorem md_eql (p v q u : ByteArray) (w : World) : (binOp .eql 29 (.agg #[.string p, .string v]) (.agg #[.string q, .string u])).run Tryz.prog w = .ok (.bool (decide (p = q ∧ v = u))) w := by
  rw [run_eql_struct, md_equal]; rfl
theorem md_neq (p v q u : ByteArray) (w : World) : (binOp .neq 29 (.agg #[.string p, .string v]) (.agg #[.string q, .string u])).run Tryz.prog w = .ok (.bool (!decide (p = q ∧ v = u))) w := by
  rw [run_neq_struct, md_equal]; rfl
theorem findPath_calls (v : Value) (l : List Md) (s : ByteArray) (w : World) (h : ModsAt w v l) :
    Calls Tryz.prog 99 #[v, .string s] w fun e w' => e = .returned (.int .i64 (findI (fun m : Md => decide (m.1 = s.data.toList)) l)) ∧ w = w' := by
  obtain ⟨a, n, cap, P, V, rfl, rfl, hn, hcap, hc⟩ := h
  replace hc := Lib.hid hc
  go_enter Tryz.func99, Tryz.ntmps99
  go_wp2_with fail
  go_loop [5] (fun i => ∃ k : Nat, k ≤ n ∧ i = .int .i64 k ∧ Hid (∀ j, j < k → (P j).data.toList ≠ s.data.toList)) (fun i => n - (intOf i).toNat)
  case atStart => exact ⟨0, Nat.zero_le _, rfl, Lib.hid (fun j hj => absurd hj (Nat.not_lt_zero _))⟩
  case round =>
    obtain ⟨k, hk, rfl, HA⟩ := hrel
    by_cases hlt : k < n
    · obtain ⟨b, o, rfl, d1, d2⟩ := hc.out k hlt
      by_cases he : (P k).data.toList = s.data.toList
      · have HF : Hid (findI (fun m : Md => decide (m.1 = s.data.toList)) (mdF n P V) = k) := Lib.hid (findI_hit (mdF_get n P V k hlt) (by simp [he]) (fun j y hj hy => by
          rw [mdF_get n P V j (by omega)] at hy
          cases hy
          exact decide_eq_false (HA.out j hj)))
        have he2 := bytes_eq.1 he
        rw [he2] at d1
        clear he he2
        go_wp2_with fail
        go_ret
        rw [HF.out]
        exact ⟨rfl, rfl⟩
      · have he1 : ((P k).toList == s.toList) = false := by rw [ByteArray.toList_eq, ByteArray.toList_eq]; exact beq_eq_false_iff_ne.2 he
        have he2 : P k ≠ s := fun e => he (by rw [e])
        have he3 : (P k).toList ≠ s.toList := by rw [ByteArray.toList_eq, ByteArray.toList_eq]; exact he
        have HN : Hid (∀ j, j < k + 1 → (P j).data.toList ≠ s.data.toList) := Lib.hid (fun j hj => by
          by_cases e : j = k
          · subst e; exact he
          · exact HA.out j (by omega))
        clear he
        go_wp2_with fail
        go_round
        case rel => exact ⟨k + 1, by omega, by go_num, HN⟩
        case measure => simp [intOf]; omega
    · obtain rfl : k = n := by omega
      have HF : Hid (findI (fun m : Md => decide (m.1 = s.data.toList)) (mdF k P V) = -1) := Lib.hid (findI_none (fun j y hy => by
        have hj : j < k := by have := (List.getElem?_eq_some_iff.1 hy).1; rwa [mdF_length] at this
        rw [mdF_get k P V j hj] at hy
        cases hy
        exact decide_eq_false (HA.out j hj)))
      go_wp2_with fail
      go_ret
      rw [HF.out]
      exact ⟨rfl, rfl⟩
end Go.Proofs.Pw

namespace Go.Proofs.Pw
open Go.Lib hiding intOf
structure Fl where
  path : Str
  reqs : List Md
  excl : List Md
def firstE (g : Nat → Nat) : Nat → Nat × Int
  | 0 => (0, -1)
  | n + 1 => if (firstE g n).1 ≠ 0 then firstE g n else if g n ≠ 0 then (g n, (n : Int)) else (0, -1)
theorem firstE_none {g : Nat → Nat} : ∀ {n : Nat}, (∀ j, j < n → g j = 0) → firstE g n = (0, -1)
  | 0, _ => rfl
  | n + 1, h => by
    rw [firstE, firstE_none (n := n) (fun j hj => h j (by omega)), if_neg (by simp), if_neg (by simp [h n (by omega)])]
theorem firstE_hit {g : Nat → Nat} {k : Nat} (hg : g k ≠ 0) (h : ∀ j, j < k → g j = 0) : ∀ {n : Nat}, k < n → firstE g n = (g k, (k : Int))
  | 0, hk => absurd hk (Nat.not_lt_zero _)
  | n + 1, hk => by
    by_cases e : k = n
    · subst e
      rw [firstE, firstE_none h, if_neg (by simp), if_pos hg]
    · have := firstE_hit hg h (n := n) (by omega)
      rw [firstE, this, if_pos hg]
theorem firstE_zero {g : Nat → Nat} : ∀ {n : Nat}, (firstE g n).1 = 0 → ∀ j, j < n → g j = 0
  | 0, _, j, hj => absurd hj (Nat.not_lt_zero _)
  | n + 1, h, j, hj => by
    rw [firstE] at h
    by_cases h1 : (firstE g n).1 = 0
    · rw [if_neg (by simp [h1])] at h
      by_cases h2 : g n = 0
      · by_cases e : j = n
        · rw [e]; exact h2
        · exact firstE_zero h1 j (by omega)
      · rw [if_pos h2] at h
        exact absurd h h2
    · rw [if_pos h1] at h
      exact absurd h h1
def mdAt (l : List Md) (i : Nat) : Md := l.getD i ([], [])
theorem mdAt_get {l : List Md} {i : Nat} (h : i < l.length) : l[i]? = some (mdAt l i) := by
  unfold mdAt
  rw [List.getD_eq_getElem?_getD, List.getElem?_eq_getElem h]; rfl
theorem mdAt_mem {l : List Md} {i : Nat} (h : i < l.length) : mdAt l i ∈ l := List.mem_of_getElem? (mdAt_get h)
theorem mdAt_mdF {n : Nat} {P V : Nat → ByteArray} {i : Nat} (h : i < n) : mdAt (mdF n P V) i = ((P i).data.toList, (V i).data.toList) := by
  unfold mdAt
  rw [List.getD_eq_getElem?_getD, mdF_get n P V i h]; rfl
def reqE (p : Str) (l : List Md) (i : Nat) : Nat :=
  if mdErr (mdAt l i) ≠ 0 then mdErr (mdAt l i) else if (mdAt l i).1 = p then 3 else if 0 < i ∧ compareBytes (mdAt l i).1 (mdAt l (i - 1)).1 ≤ 0 then 8 else 0
def excE (l : List Md) (i : Nat) : Nat :=
  if mdErr (mdAt l i) ≠ 0 then mdErr (mdAt l i) else if 0 < i ∧ modAhead (mdAt l (i - 1)) (mdAt l i) = false then 8 else 0
def claE (r x : List Md) (i : Nat) : Nat := if mdAt r i ∈ x then 9 else 0
def orE (a b : Nat × Int) : Nat × Int := if a.1 ≠ 0 then a else b
theorem orE_zero {a b : Nat × Int} : (orE a b).1 = 0 ↔ a.1 = 0 ∧ b.1 = 0 := by
  unfold orE
  by_cases h : a.1 = 0
  · rw [if_neg (by simp [h])]; simp [h]
  · rw [if_pos h]; simp [h]
structure Right (f : Fl) : Prop where
  path : pathErr f.path = 0
  reqs : f.reqs.length ≤ 20
  excl : f.excl.length ≤ 20
  req : ∀ i, i < f.reqs.length → reqE f.path f.reqs i = 0
  exc : ∀ i, i < f.excl.length → excE f.excl i = 0
  cla : ∀ i, i < f.reqs.length → claE f.reqs f.excl i = 0
theorem Right.mem {f : Fl} (h : Right f) : (∀ m ∈ f.reqs, mdErr m = 0) ∧ ∀ m ∈ f.excl, mdErr m = 0 := by
  constructor
  · intro m hm
    obtain ⟨i, hi⟩ := List.getElem?_of_mem hm
    have hl := (List.getElem?_eq_some_iff.1 hi).1
    have h1 := h.req i hl
    rw [mdAt_get hl] at hi
    injection hi with hi
    unfold reqE at h1
    rw [hi] at h1
    by_cases h2 : mdErr m = 0
    · exact h2
    · rw [if_pos h2] at h1; exact h1
  · intro m hm
    obtain ⟨i, hi⟩ := List.getElem?_of_mem hm
    have hl := (List.getElem?_eq_some_iff.1 hi).1
    have h1 := h.exc i hl
    rw [mdAt_get hl] at hi
    injection hi with hi
    unfold excE at h1
    rw [hi] at h1
    by_cases h2 : mdErr m = 0
    · exact h2
    · rw [if_pos h2] at h1; exact h1
end Go.Proofs.Pw

namespace Go.Proofs.Pw
open Go.RowKit
open Go.Lib hiding intOf
theorem Tryz.err_comp : (Tryz.prog.info? 317).map (·.comparable) = some true := by kernel_rfl
theorem Tryz.err_size : (Tryz.prog.info? 319).map (·.size) = some 1 := by kernel_rfl
theorem trim_calls (s cs : ByteArray) (w : World) (hs : s.size ≤ 4000000000) (hc : cs.size ≤ 1000) (ha : ∀ b ∈ cs.data.toList, b.toNat < 128) :
    Calls Tryz.prog 192 #[.string s, .string cs] w fun e w' => e = .returned (.string ⟨(Lib.trimS s.data.toList cs.data.toList).toArray⟩) ∧ Below w.heap.size w w' :=
  Any.strings_Trim_laid Tryz.lays160 (by kernel_rfl) s cs w (by omega) (by omega) (fun j b h => ha b (List.mem_of_getElem? h))
theorem toList_mk (l : Str) : (⟨l.toArray⟩ : ByteArray).toList = l := by rw [toList_data]
theorem data_mk (l : Str) : (⟨l.toArray⟩ : ByteArray).data.toList = l := rfl
theorem isEmpty_toList (s : ByteArray) : s.toList.isEmpty = s.data.toList.isEmpty := by rw [toList_data]
theorem digits_calls (s : ByteArray) (w : World) (hs : s.size ≤ 4000000000) :
    Calls Tryz.prog 191 #[.string s] w fun e w' => e = .returned (.bool (areDigits s.data.toList)) ∧ Below w.heap.size w w' := by
  have HT := Lib.hid (trimS_nil_bool s.data.toList digitsSet isDig digitsSet_ok)
  cases he : s.data.toList.isEmpty with
  | true =>
    have h1 : s.toList.isEmpty = true := by rw [isEmpty_toList, he]
    have h2 : s.toList = [] := by simpa using h1
    have HD : Hid (areDigits s.data.toList = false) := by unfold areDigits; show _ = _; rw [he]; rfl
    clear he
    go_enter Tryz.func191, Tryz.ntmps191
    go_wp2_with fail
    go_ret
    exact ⟨by rw [HD.out]; simp, Below.refl _ _⟩
  | false =>
    have h1 : s.toList.isEmpty = false := by rw [isEmpty_toList, he]
    have h2 : (s.toList == []) = false := by simpa using h1
    have HD : Hid (areDigits s.data.toList = s.data.toList.all isDig) := by unfold areDigits; show _ = _; rw [he]; rfl
    clear he
    go_enter Tryz.func191, Tryz.ntmps191
    go_wp2_with fail
    refine (trim_calls _ _ _ hs (by decide) (by decide)).mono ?_
    rintro e w1 ⟨rfl, hb1⟩
    cases ha : s.data.toList.all isDig with
    | true =>
      have e1 : trimS s.data.toList (⟨#[48, 49, 50, 51, 52, 53, 54, 55, 56, 57]⟩ : ByteArray).data.toList = [] := by
        have := HT.out
        rw [ha] at this
        exact beq_iff_eq.1 this
      rw [e1]
      clear e1
      go_wp2_with fail
      go_ret
      exact ⟨by rw [HD.out, ha]; simp, hb1⟩
    | false =>
      have e1 : (trimS s.data.toList (⟨#[48, 49, 50, 51, 52, 53, 54, 55, 56, 57]⟩ : ByteArray).data.toList == []) = false := by
        have := HT.out
        rw [ha] at this
        exact this
      generalize trimS s.data.toList (⟨#[48, 49, 50, 51, 52, 53, 54, 55, 56, 57]⟩ : ByteArray).data.toList = t at e1 ⊢
      have e2 : (⟨t.toArray⟩ : ByteArray).toList.isEmpty = false := by rw [toList_mk]; simpa using e1
      clear e1
      go_wp2_with fail
      go_ret
      exact ⟨by rw [HD.out, ha]; simp_all, hb1⟩
theorem atoi_calls (ks : List Nat) (A : Nat → Addr) (s : ByteArray) (w : World) (hE : EnvP ks A w) (hs : s.size ≤ 4000000000) (hd : areDigits s.data.toList = true) :
    Calls Tryz.prog 154 #[.string s] w fun e w' => ((∃ x te pe, e = .returned (.tuple #[.int .i64 x, .iface te pe]) ∧ 6 < s.size) ∨ (e = .returned (.tuple #[.int .i64 (decVal s.data.toList), .nilIface]))) ∧ Below w.heap.size w w' := by
  rcases atoiAll_digits hd with h | h
  · obtain ⟨te, pe, hr⟩ := hE.range
    refine (Tryz.strconv_Atoi_range s (by omega) h _ w hr (.inr ⟨te, pe, rfl⟩)).mono ?_
    rintro e w' ⟨N, rfl, _, _, hb⟩
    exact ⟨.inl ⟨_, _, _, rfl, by rw [size_eq]; exact atoiAll_range_long hd h⟩, hb⟩
  · refine (Tryz.strconv_Atoi_ok s (by omega) _ h w).mono ?_
    rintro e w' ⟨rfl, hw⟩
    refine ⟨.inr rfl, ?_⟩
    rcases hw with rfl | ⟨t, rfl⟩
    · exact Below.refl _ _
    · exact Lib.bytesWorld_below _ _ _
theorem numberOf_text {s : Str} (h : areDigits s = false ∨ (1 < s.length ∧ s.head? = some 48)) : numberOf s = (0, 1) := by unfold numberOf; rw [if_pos h]
theorem numberOf_long {s : Str} (h : ¬ (areDigits s = false ∨ (1 < s.length ∧ s.head? = some 48))) (hl : 6 < s.length) : numberOf s = (0, 2) := by unfold numberOf; rw [if_neg h, if_pos hl]
theorem numberOf_ok {s : Str} (h : ¬ (areDigits s = false ∨ (1 < s.length ∧ s.head? = some 48))) (hl : ¬ 6 < s.length) : numberOf s = (decVal s, 0) := by unfold numberOf; rw [if_neg h, if_neg hl]
theorem number_text (ks : List Nat) (A : Nat → Addr) (s : ByteArray) (w : World) (hE : EnvP ks A w) (hs : s.size ≤ 4000000000) (hd : areDigits s.data.toList = false ∨ (areDigits s.data.toList = true ∧ 1 < s.data.toList.length ∧ s.data.toList.head? = some 48)) :
    Calls Tryz.prog 141 #[.string s] w fun e w' => e = .returned (.tuple #[.int .i64 0, errV A 1]) ∧ Below w.heap.size w w' := by
  rcases hd with hd | ⟨hd, hl, h0⟩
  · have HD := Lib.hid hd
    clear hd
    go_enter Tryz.func141, Tryz.ntmps141
    go_wp2_with fail
    refine (digits_calls _ _ hs).mono ?_
    rintro e w1 ⟨rfl, hb1⟩
    rw [HD.out]
    have hE1 := (hE.below hb1).errs.var 1 hE.has.1
    simp only [errG] at hE1
    go_wp2_with fail
    go_quiet (fail)
    go_wp2_with fail
    go_ret2
    exact ⟨rfl, Below.drewN hb1 _⟩
  · have HD := Lib.hid hd
    have hl' : 1 < s.size := by rw [size_eq]; exact hl
    have h0' : (s[0]'(by omega)) = 48 := by
      cases hsd : s.data.toList with
      | nil => rw [hsd] at hl; simp at hl
      | cons c r =>
        rw [hsd] at h0
        simp at h0
        have : s.data.toList[0]? = some 48 := by rw [hsd, h0]; rfl
        have h2 : s.data.toList[0]? = some (s[0]'(by omega)) := by
          rw [List.getElem?_eq_getElem (by rw [← size_eq]; omega)]; rfl
        rw [h2] at this
        exact Option.some.inj this
    have h0'' : ((s[0]'(by omega)).toNat : Int) = 48 := by rw [h0']; rfl
    clear hd hl h0 h0'
    go_enter Tryz.func141, Tryz.ntmps141
    go_wp2_with fail
    refine (digits_calls _ _ hs).mono ?_
    rintro e w1 ⟨rfl, hb1⟩
    rw [HD.out]
    have hE1 := (hE.below hb1).errs.var 1 hE.has.1
    simp only [errG] at hE1
    go_wp2_with fail
    go_quiet (fail)
    go_wp2_with fail
    go_ret2
    exact ⟨rfl, Below.drewN hb1 _⟩
set_option maxHeartbeats 400000 in
theorem number_long (ks : List Nat) (A : Nat → Addr) (s : ByteArray) (w : World) (hE : EnvP ks A w) (hs : s.size ≤ 4000000000) (hd : areDigits s.data.toList = true) (hz : ¬ (1 < s.data.toList.length ∧ s.data.toList.head? = some 48)) (h6 : 6 < s.size) :
    Calls Tryz.prog 141 #[.string s] w fun e w' => e = .returned (.tuple #[.int .i64 0, errV A 2]) ∧ Below w.heap.size w w' := by
  have HD := Lib.hid hd
  have hv := decVal_small hd hz
  rw [← size_eq] at hv
  have HS := Lib.hid hv
  have hne : 0 < s.size := by
    rw [size_eq]
    cases hsd : s.data.toList with
    | nil => rw [hsd] at hd; simp [areDigits] at hd
    | cons c r => simp
  have h01 : (1 < s.size ∧ (((s[0]'hne).toNat : Int) == 48) = false) ∨ ¬ 1 < s.size := by
    by_cases h1 : 1 < s.size
    · refine .inl ⟨h1, ?_⟩
      rw [beq_eq_false_iff_ne]
      intro e
      apply hz
      refine ⟨by rw [← size_eq]; exact h1, ?_⟩
      have h2 : s.data.toList[0]? = some (s[0]'hne) := by
        rw [List.getElem?_eq_getElem (by rw [← size_eq]; omega)]; rfl
      rw [List.head?_eq_getElem?, h2]
      have : (s[0]'hne).toNat = 48 := by exact_mod_cast e
      rw [show (48 : UInt8) = UInt8.ofNat 48 from rfl, ← this, UInt8.ofNat_toNat]
    · exact .inr h1
  clear hd hz hv
  obtain ⟨h1, h2⟩ := h01.resolve_right (by omega)
  all_goals
    go_enter Tryz.func141, Tryz.ntmps141
    go_wp2_with fail
    refine (digits_calls _ _ hs).mono ?_
    rintro e w1 ⟨rfl, hb1⟩
    rw [HD.out]
    have hEa := hE.below hb1
    go_wp2_with fail
    refine (atoi_calls ks A _ _ hEa hs HD.out).mono ?_
    rintro e w2 ⟨hr, hb2⟩
    have hE2 := (hEa.below hb2).errs.var 2 hE.has.2
    simp only [errG] at hE2
    rcases hr with ⟨x, te, pe, rfl, h7⟩ | rfl
    · go_wp2_with fail
      go_quiet (fail)
      go_wp2_with fail
      go_ret2
      exact ⟨rfl, Below.drewN (below_step hb1 hb2) _⟩
    · have hbig : 999999 < decVal s.data.toList := by
        rcases Nat.lt_or_ge 999999 (decVal s.data.toList) with h | h
        · exact h
        · have := HS.out.1 h
          omega
      generalize decVal s.data.toList = v at hbig ⊢
      go_wp2_with fail
      go_quiet (fail)
      go_wp2_with fail
      go_ret2
      exact ⟨rfl, Below.drewN (below_step hb1 hb2) _⟩
set_option maxHeartbeats 400000 in
theorem number_ok (ks : List Nat) (A : Nat → Addr) (s : ByteArray) (w : World) (hE : EnvP ks A w) (hs : s.size ≤ 4000000000) (hd : areDigits s.data.toList = true) (hz : ¬ (1 < s.data.toList.length ∧ s.data.toList.head? = some 48)) (h6 : ¬ 6 < s.size) :
    Calls Tryz.prog 141 #[.string s] w fun e w' => e = .returned (.tuple #[.int .i64 (decVal s.data.toList), errV A 0]) ∧ Below w.heap.size w w' := by
  have HD := Lib.hid hd
  have hv := decVal_small hd hz
  rw [← size_eq] at hv
  have HS := Lib.hid hv
  have hne : 0 < s.size := by
    rw [size_eq]
    cases hsd : s.data.toList with
    | nil => rw [hsd] at hd; simp [areDigits] at hd
    | cons c r => simp
  have h01 : (1 < s.size ∧ (((s[0]'hne).toNat : Int) == 48) = false) ∨ ¬ 1 < s.size := by
    by_cases h1 : 1 < s.size
    · refine .inl ⟨h1, ?_⟩
      rw [beq_eq_false_iff_ne]
      intro e
      apply hz
      refine ⟨by rw [← size_eq]; exact h1, ?_⟩
      have h2 : s.data.toList[0]? = some (s[0]'hne) := by
        rw [List.getElem?_eq_getElem (by rw [← size_eq]; omega)]; rfl
      rw [List.head?_eq_getElem?, h2]
      have : (s[0]'hne).toNat = 48 := by exact_mod_cast e
      rw [show (48 : UInt8) = UInt8.ofNat 48 from rfl, ← this, UInt8.ofNat_toNat]
    · exact .inr h1
  clear hd hz hv
  rcases h01 with ⟨h1, h2⟩ | h1
  all_goals
    go_enter Tryz.func141, Tryz.ntmps141
    go_wp2_with fail
    refine (digits_calls _ _ hs).mono ?_
    rintro e w1 ⟨rfl, hb1⟩
    rw [HD.out]
    have hEa := hE.below hb1
    go_wp2_with fail
    refine (atoi_calls ks A _ _ hEa hs HD.out).mono ?_
    rintro e w2 ⟨hr, hb2⟩
    have hE2 := (hEa.below hb2).errs.var 2 hE.has.2
    simp only [errG] at hE2
    rcases hr with ⟨x, te, pe, rfl, h7⟩ | rfl
    · exact absurd h7 h6
    · have hsm : decVal s.data.toList ≤ 999999 := HS.out.2 (by omega)
      go_wp2_with fail
      go_ret2
      exact ⟨rfl, below_step hb1 hb2⟩
theorem number_calls (ks : List Nat) (A : Nat → Addr) (s : ByteArray) (w : World) (hE : EnvP ks A w) (hs : s.size ≤ 4000000000) :
    Calls Tryz.prog 141 #[.string s] w fun e w' => e = .returned (.tuple #[.int .i64 ((numberOf s.data.toList).1 : Nat), errV A (numberOf s.data.toList).2]) ∧ Below w.heap.size w w' := by
  by_cases h : areDigits s.data.toList = false ∨ (1 < s.data.toList.length ∧ s.data.toList.head? = some 48)
  · rw [numberOf_text h]
    refine number_text ks A s w hE hs ?_
    cases hd : areDigits s.data.toList with
    | false => exact .inl rfl
    | true => exact .inr ⟨rfl, h.resolve_left (by rw [hd]; decide)⟩
  · have hd : areDigits s.data.toList = true := by simpa using fun e => h (.inl e)
    have hz : ¬ (1 < s.data.toList.length ∧ s.data.toList.head? = some 48) := fun e => h (.inr e)
    by_cases hl : 6 < s.data.toList.length
    · rw [numberOf_long h hl]
      exact number_long ks A s w hE hs hd hz (by rw [size_eq]; exact hl)
    · rw [numberOf_ok h hl]
      exact number_ok ks A s w hE hs hd hz (by rw [size_eq]; exact hl)
theorem worse_calls (ks : List Nat) (A : Nat → Addr) (i j : Nat) (w : World) (hE : EnvP ks A w) (hi : i = 0 ∨ i ∈ ks) :
    Calls Tryz.prog 142 #[errV A i, errV A j] w fun e w' => e = .returned (errV A (worseN i j)) ∧ w = w' := by
  have hT := hE.errs.var 1 hE.has.1
  simp only [errG] at hT
  obtain ⟨i0, hi0, hcmp⟩ := Option.map_eq_some_iff.1 Tryz.err_comp
  obtain ⟨j0, hj0, hjs⟩ := Option.map_eq_some_iff.1 Tryz.err_size
  by_cases hi1 : i = 1
  · subst hi1
    have hw : worseN 1 j = 1 := by simp [worseN]
    rw [hw, errV_pos A (c := 1) (by decide)]
    have heq := run_eql_iface_ptr_same (P := Tryz.prog) w (A 1) Tryz.underlying41 Tryz.underlying317 hi0 hcmp hj0
    clear hw
    go_enter Tryz.func142, Tryz.ntmps142
    go_wp2_with fail
    go_ret
    exact ⟨rfl, rfl⟩
  · by_cases h0 : i = 0
    · subst h0
      have hw : worseN 0 j = j := by unfold worseN; split <;> simp_all
      rw [hw, errV_zero]
      have heq := run_eql_iface_nil_left (P := Tryz.prog) w 317 (.pointer (some (A 1))) Tryz.underlying41
      clear hw hi1 hi
      by_cases hj1 : j = 0
      · subst hj1
        rw [errV_zero]
        go_enter Tryz.func142, Tryz.ntmps142
        go_wp2_with fail
        go_ret
        exact ⟨rfl, rfl⟩
      · rw [errV_pos A hj1]
        clear hj1
        go_enter Tryz.func142, Tryz.ntmps142
        go_wp2_with fail
        go_ret
        exact ⟨rfl, rfl⟩
    · have hik := hi.resolve_left h0
      obtain ⟨ca, ta, ha⟩ := hE.errs.row i hik
      obtain ⟨cb, tb, hb⟩ := hE.errs.row 1 hE.has.1
      have heq := run_eql_iface_ptr_other (P := Tryz.prog) w Tryz.underlying41 Tryz.underlying317 hi0 hcmp hj0 (by rw [hjs]; decide) (fun e => hi1 (hE.errs.inj _ hik _ hE.has.1 e)) ha hb
      by_cases hj1 : j = 0
      · subst hj1
        have hw : worseN i 0 = i := by simp [worseN]
        rw [hw, errV_zero, errV_pos A h0]
        clear hw h0 hi1 hi
        go_enter Tryz.func142, Tryz.ntmps142
        go_wp2_with fail
        go_ret
        exact ⟨rfl, rfl⟩
      · have hw : worseN i j = j := by simp [worseN, hi1, hj1]
        rw [hw, errV_pos A h0, errV_pos A hj1]
        clear hw h0 hi1 hi hj1
        go_enter Tryz.func142, Tryz.ntmps142
        go_wp2_with fail
        go_ret
        exact ⟨rfl, rfl⟩
theorem partErr_text {s : Str} (h : s = [] ∨ 8 < s.length ∨ s.all isPartByte = false) : partErr s = 1 := by unfold partErr; rw [if_pos h]
set_option maxHeartbeats 400000 in
theorem part_calls (ks : List Nat) (A : Nat → Addr) (s : ByteArray) (w : World) (hE : EnvP ks A w) (hs : s.size ≤ 4000000000) :
    Calls Tryz.prog 143 #[.string s] w fun e w' => e = .returned (errV A (partErr s.data.toList)) ∧ Below w.heap.size w w' := by
  have hT := hE.errs.var 1 hE.has.1
  simp only [errG] at hT
  have HP := Lib.hid (trimS_nil_bool s.data.toList partSet isPartByte partSet_ok)
  have hsz := size_eq s
  by_cases he : s.data.toList = []
  · rw [partErr_text (.inl he), errV_pos A (c := 1) (by decide)]
    have h1 : s.toList.isEmpty = true := by rw [isEmpty_toList, he]; rfl
    have h2 : s.toList = [] := by simpa using h1
    clear he hsz
    go_enter Tryz.func143, Tryz.ntmps143
    go_wp2_with fail
    go_ret
    exact ⟨rfl, Below.refl _ _⟩
  · have h1 : s.toList.isEmpty = false := by rw [isEmpty_toList]; simpa using he
    have h2 : (s.toList == []) = false := by simpa using h1
    by_cases hl : 8 < s.size
    · rw [partErr_text (.inr (.inl (by rw [← hsz]; exact hl))), errV_pos A (c := 1) (by decide)]
      clear he hsz
      go_enter Tryz.func143, Tryz.ntmps143
      go_wp2_with fail
      go_ret
      exact ⟨rfl, Below.refl _ _⟩
    · have HL := Lib.hid hsz
      have HE := Lib.hid he
      clear hsz he
      cases ha : s.data.toList.all isPartByte with
      | false =>
        rw [partErr_text (.inr (.inr ha)), errV_pos A (c := 1) (by decide)]
        have e1 : (trimS s.data.toList partSet == []) = false := by rw [HP.out, ha]
        clear ha
        go_enter Tryz.func143, Tryz.ntmps143
        go_wp2_with fail
        refine (trim_calls _ _ _ hs (by decide) (by decide)).mono ?_
        rintro e w1 ⟨rfl, hb1⟩
        have hT1 := Below.cell_some hb1 hT
        rw [show (⟨#[97, 98, 99, 100, 101, 102, 103, 104, 105, 106, 107, 108, 109, 110, 111, 112, 113, 114, 115, 116, 117, 118, 119, 120, 121, 122, 65, 66, 67, 68, 69, 70, 71, 72, 73, 74, 75, 76, 77, 78, 79, 80, 81, 82, 83, 84, 85, 86, 87, 88, 89, 90, 48, 49, 50, 51, 52, 53, 54, 55, 56, 57, 45]⟩ : ByteArray).data.toList = partSet from rfl]
        generalize trimS s.data.toList partSet = t at e1 ⊢
        have e2 : (⟨t.toArray⟩ : ByteArray).toList.isEmpty = false := by rw [toList_mk]; simpa using e1
        have e3 : t.isEmpty = false := by simpa using e1
        clear e1 hT
        go_wp2_with fail
        go_ret
        exact ⟨rfl, hb1⟩
      | true =>
        have e1 : trimS s.data.toList partSet = [] := by
          have := HP.out
          rw [ha] at this
          exact beq_iff_eq.1 this
        have hpe : partErr s.data.toList = if areDigits s.data.toList then (numberOf s.data.toList).2 else 0 := by
          unfold partErr
          rw [if_neg]
          rintro (h | h | h)
          · exact HE.out h
          · rw [← HL.out] at h; exact hl h
          · rw [ha] at h; exact absurd h (by decide)
        rw [hpe]
        clear hpe ha
        generalize hc : (if areDigits s.data.toList then (numberOf s.data.toList).2 else 0) = c
        have HC := Lib.hid hc
        clear hc
        have E1 := Lib.hid e1
        clear e1
        go_enter Tryz.func143, Tryz.ntmps143
        go_wp2_with fail
        refine (trim_calls _ _ _ hs (by decide) (by decide)).mono ?_
        rintro e w1 ⟨rfl, hb1⟩
        rw [show (⟨#[97, 98, 99, 100, 101, 102, 103, 104, 105, 106, 107, 108, 109, 110, 111, 112, 113, 114, 115, 116, 117, 118, 119, 120, 121, 122, 65, 66, 67, 68, 69, 70, 71, 72, 73, 74, 75, 76, 77, 78, 79, 80, 81, 82, 83, 84, 85, 86, 87, 88, 89, 90, 48, 49, 50, 51, 52, 53, 54, 55, 56, 57, 45]⟩ : ByteArray).data.toList = partSet from rfl, E1.out]
        go_wp2_with fail
        refine (digits_calls _ _ hs).mono ?_
        rintro e w2 ⟨rfl, hb2⟩
        cases hd : areDigits s.data.toList with
        | false =>
          obtain rfl : c = 0 := by have := HC.out; rw [hd] at this; exact this.symm
          clear hd
          go_wp2_with fail
          go_ret
          exact ⟨rfl, below_step hb1 hb2⟩
        | true =>
          obtain rfl : c = (numberOf s.data.toList).2 := by have := HC.out; rw [hd] at this; exact this.symm
          clear hd
          go_wp2_with fail
          refine (number_calls ks A _ _ ((hE.below hb1).below hb2) hs).mono ?_
          rintro e w3 ⟨rfl, hb3⟩
          go_wp2_with fail
          go_ret
          exact ⟨rfl, below_step (below_step hb1 hb2) hb3⟩
end Go.Proofs.Pw
