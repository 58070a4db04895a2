/- St: walks and plain laws, joined: VerTxt SortMath ModLaw World Mem FileMath FileLaw. Conditions: at each theorem. -/
import Derived.Test.YtglhgbcebpeomaaGreatDoorSta
import Derived.Lib.Join
import Derived.Lib.SlicesCompact
import Derived.Test.YtglhgbcebpeomaaGreatDoorProg
import Derived.WalkKit
import Derived.WalkSmall
import Derived.Lib.LaidTab
import Derived.Lib.ItoaNum
import Derived.WalkLawsBesides
import Derived.WalkSpells
import Derived.Laws.StructEq
import Derived.RegionTactic
import Derived.BigRegion

namespace Go.Proofs.Pw
open Go.Lib hiding intOf
def cutAt (c : UInt8) : Str → Str → List Str
  | acc, [] => [acc]
  | acc, b :: l => if b = c then acc :: cutAt c [] l else cutAt c (acc ++ [b]) l
theorem cutAt_no (c : UInt8) : ∀ (l acc : Str), c ∉ l → cutAt c acc l = [acc ++ l]
  | [], acc, _ => by simp [cutAt]
  | b :: l, acc, h => by
    simp only [List.mem_cons, not_or] at h
    rw [cutAt, if_neg (fun e => h.1 e.symm), cutAt_no c l _ h.2]
    simp
theorem cutAt_hit (c : UInt8) : ∀ (a acc r : Str), c ∉ a → cutAt c acc (a ++ c :: r) = (acc ++ a) :: cutAt c [] r
  | [], acc, r, _ => by simp [cutAt]
  | b :: l, acc, r, h => by
    simp only [List.mem_cons, not_or] at h
    rw [List.cons_append, cutAt, if_neg (fun e => h.1 e.symm), cutAt_hit c l _ r h.2]
    simp
theorem mem_at {c : UInt8} {s : Str} (h : c ∈ s) : ∃ a b, s = a ++ c :: b ∧ c ∉ a := by
  induction s with
  | nil => cases h
  | cons x l ih =>
    by_cases e : c = x
    · subst e
      exact ⟨[], l, rfl, by simp⟩
    · have hm : c ∈ l := (List.mem_cons.1 h).resolve_left e
      obtain ⟨a, b, rfl, hn⟩ := ih hm
      exact ⟨x :: a, b, rfl, by simp [e, hn]⟩
theorem index_byte_at {c : UInt8} {a b : Str} (h : c ∉ a) : index (a ++ c :: b) [c] = a.length := by
  have := index_at (a := a) (b := b) (sub := [c]) (by simp) (by intro d hd; simp at hd; subst hd; exact h)
  simpa using this
theorem index_byte_no {c : UInt8} {s : Str} (h : c ∉ s) : index s [c] = -1 := index_no (by simp) (by intro d hd; simp at hd; subst hd; exact h)
theorem split_cutAt (c : UInt8) : ∀ (n : Nat) (s : Str), s.length ≤ n → split s [c] = cutAt c [] s
  | n, s, hn => by
    by_cases h : c ∈ s
    · obtain ⟨a, b, rfl, ha⟩ := mem_at h
      rw [cutAt_hit c a [] b ha, split_hit (by simp) (index_byte_at ha)]
      have e1 : (a ++ c :: b).take a.length = a := List.take_left
      have e2 : (a ++ c :: b).drop (a.length + [c].length) = b := by
        rw [show a.length + [c].length = (a ++ [c]).length by simp, show a ++ c :: b = (a ++ [c]) ++ b by simp, List.drop_left]
      rw [e1, e2]
      cases n with
      | zero => simp at hn
      | succ n => rw [split_cutAt c n b (by simp at hn; omega)]; rfl
    · rw [split_none (index_byte_no h), cutAt_no c s [] h]
      rfl
theorem split_eq (c : UInt8) (s : Str) : split s [c] = cutAt c [] s := split_cutAt c s.length s (Nat.le_refl _)
theorem cut_at {c : UInt8} {a b : Str} (h : c ∉ a) : cut (a ++ c :: b) [c] = (a, b, true) := by
  unfold cut
  rw [index_byte_at h, if_pos (by omega)]
  have e1 : (a ++ c :: b).take (a.length : Int).toNat = a := List.take_left
  have e2 : (a ++ c :: b).drop ((a.length : Int).toNat + [c].length) = b := by
    rw [show (a.length : Int).toNat + [c].length = (a ++ [c]).length by simp, show a ++ c :: b = (a ++ [c]) ++ b by simp, List.drop_left]
  rw [e1, e2]
theorem cut_no {c : UInt8} {s : Str} (h : c ∉ s) : cut s [c] = (s, [], false) := by
  unfold cut
  rw [index_byte_no h, if_neg (by omega)]
theorem join_two (x y : Str) (r : List Str) (sep : Str) : join (x :: y :: r) sep = x ++ sep ++ join (y :: r) sep := by
  rw [join_cons, join_cons]
  simp [joinTail, List.append_assoc]
theorem cutAt_ne (c : UInt8) : ∀ (l acc : Str), cutAt c acc l ≠ []
  | [], acc => by simp [cutAt]
  | b :: l, acc => by
    rw [cutAt]
    split
    · simp
    · exact cutAt_ne c l _
theorem join_cutAt (c : UInt8) : ∀ (l acc : Str), join (cutAt c acc l) [c] = acc ++ l
  | [], acc => by simp [cutAt, join_one]
  | b :: l, acc => by
    rw [cutAt]
    split
    · rename_i e
      subst e
      have hn := cutAt_ne b l []
      cases hc : cutAt b [] l with
      | nil => exact absurd hc hn
      | cons y r =>
        rw [join_two, ← hc, join_cutAt b l []]
        simp
    · rw [join_cutAt c l]
      simp
theorem join_split (c : UInt8) (s : Str) : join (split s [c]) [c] = s := by rw [split_eq, join_cutAt]; rfl
theorem split_ne (c : UInt8) (s : Str) : split s [c] ≠ [] := by rw [split_eq]; exact cutAt_ne c s []
def verFmtS (a b c : Str) (pre : List Str) : Str := 118 :: ((a ++ 46 :: (b ++ 46 :: c)) ++ (if pre = [] then [] else 45 :: join pre [46]))
def verFmt (a b c : Int) (pre : List Str) : Str := verFmtS (itoa a) (itoa b) (itoa c) pre
theorem worseN_zero {a b : Nat} : worseN a b = 0 ↔ a = 0 ∧ b = 0 := by
  unfold worseN
  split <;> omega
theorem numErrs_zero : ∀ (l : List Str) (b : Nat), numErrs l b = 0 ↔ b = 0 ∧ ∀ w ∈ l, (numberOf w).2 = 0
  | [], b => by simp [numErrs]
  | w :: r, b => by
    have := numErrs_zero r (worseN b (numberOf w).2)
    show numErrs r (worseN b (numberOf w).2) = 0 ↔ _
    rw [this, worseN_zero]
    simp only [List.mem_cons, forall_eq_or_imp, and_assoc]
theorem partErrs_zero : ∀ (l : List Str) (b : Nat), partErrs l b = 0 ↔ b = 0 ∧ ∀ w ∈ l, partErr w = 0
  | [], b => by simp [partErrs]
  | w :: r, b => by
    have := partErrs_zero r (worseN b (partErr w))
    show partErrs r (worseN b (partErr w)) = 0 ↔ _
    rw [this, worseN_zero]
    simp only [List.mem_cons, forall_eq_or_imp, and_assoc]
theorem verErrs_zero (s : Str) : verErrs s = 0 ↔ (∀ w ∈ verWords s, (numberOf w).2 = 0) ∧ (∀ w ∈ verPres s, partErr w = 0) ∧ (verPres s).length ≤ 5 := by
  unfold verErrs
  simp only
  by_cases h : 5 < (verPres s).length
  · rw [if_pos h, worseN_zero]
    constructor
    · rintro ⟨_, h2⟩; omega
    · rintro ⟨_, _, h2⟩; omega
  · rw [if_neg h, partErrs_zero, numErrs_zero]
    constructor
    · rintro ⟨⟨_, h1⟩, h2⟩; exact ⟨h1, h2, by omega⟩
    · rintro ⟨h1, h2, _⟩; exact ⟨⟨rfl, h1⟩, h2⟩
theorem verErr_zero (s : Str) : verErr s = 0 ↔ hasPrefix s [118] = true ∧ (verWords s).length = 3 ∧ (∀ w ∈ verWords s, (numberOf w).2 = 0) ∧ (∀ w ∈ verPres s, partErr w = 0) ∧ (verPres s).length ≤ 5 := by
  unfold verErr
  by_cases h : hasPrefix s [118] = false ∨ (verWords s).length ≠ 3
  · rw [if_pos h]
    constructor
    · intro h2; omega
    · rintro ⟨h1, h2, _⟩
      rcases h with h | h
      · rw [h1] at h; cases h
      · exact absurd h2 h
  · rw [if_neg h, verErrs_zero]
    rw [not_or] at h
    have h1 : hasPrefix s [118] = true := by simpa using h.1
    have h2 : (verWords s).length = 3 := Decidable.of_not_not h.2
    simp [h1, h2]
theorem itoa_ofNat (n : Nat) : itoa (n : Int) = decDigits n := by unfold itoa; rw [if_neg (by omega)]; simp
theorem numberOf_itoa {s : Str} (h : (numberOf s).2 = 0) : itoa ((numberOf s).1 : Nat) = s := by
  obtain ⟨h1, h2, h3, _⟩ := numberOf_err h
  rw [h3]
  exact (itoa_decVal h1).2 h2
theorem hasPrefix_v {s : Str} (h : hasPrefix s [118] = true) : s = 118 :: trimPrefix s [118] := by
  unfold trimPrefix
  rw [if_pos h]
  unfold hasPrefix at h
  obtain ⟨t, rfl⟩ := List.isPrefixOf_iff_prefix.1 h
  rfl
theorem list_three {l : List Str} (h : l.length = 3) : l = [l.getD 0 [], l.getD 1 [], l.getD 2 []] := by
  match l, h with
  | [a, b, c], _ => rfl
theorem ver_back {s : Str} (h : verErr s = 0) : verFmt (verNum s 0 : Nat) (verNum s 1 : Nat) (verNum s 2 : Nat) (verPre s) = s := by
  obtain ⟨h1, h2, h3, h4, h5⟩ := (verErr_zero s).1 h
  have hp : verPre s = verPres s := by unfold verPre; rw [if_pos h]
  have hn : ∀ i, i < 3 → itoa (verNum s i : Nat) = (verWords s).getD i [] := fun i hi => by
    unfold verNum
    rw [if_pos h]
    apply numberOf_itoa
    apply h3
    rw [List.getD_eq_getElem?_getD, List.getElem?_eq_getElem (by omega)]
    exact List.getElem_mem _
  unfold verFmt verFmtS
  rw [hn 0 (by omega), hn 1 (by omega), hn 2 (by omega), hp]
  have hw : join (verWords s) [46] = (verWords s).getD 0 [] ++ 46 :: ((verWords s).getD 1 [] ++ 46 :: (verWords s).getD 2 []) := by
    conv => lhs; rw [list_three h2]
    rw [join_two, join_two, join_one]
    simp
  rw [← hw]
  have hs := hasPrefix_v h1
  conv => rhs; rw [hs]
  congr 1
  unfold verWords verPres
  by_cases hd : (45 : UInt8) ∈ trimPrefix s [118]
  · obtain ⟨a, b, e, ha⟩ := mem_at hd
    rw [e, cut_at ha]
    simp only [↓reduceIte]
    rw [join_split, if_neg (split_ne _ _), join_split]
  · rw [cut_no hd]
    simp only [Bool.false_eq_true, ↓reduceIte, List.append_nil]
    rw [join_split]
theorem ver_inj {a b : Str} (ha : verErr a = 0) (hb : verErr b = 0) (hn : ∀ i, i < 3 → verNum a i = verNum b i) (hp : verPre a = verPre b) : a = b := by
  rw [← ver_back ha, ← ver_back hb, hn 0 (by omega), hn 1 (by omega), hn 2 (by omega), hp]
theorem verCmp_same {a b : Str} (ha : verErr a = 0) (hb : verErr b = 0) : verCmp a b = 0 ↔ a = b :=
  ⟨fun h => ver_inj ha hb (verCmp_zero h).1 (verCmp_zero h).2, fun e => by subst e; exact verCmp_ord.self a⟩
end Go.Proofs.Pw

namespace Go.Proofs.Pw
open Go.Lib hiding intOf
section
variable {α : Type} {f : α → α → Int}
def Rises (f : α → α → Int) (l : List α) : Prop := l.Pairwise fun a b => f a b < 0
theorem rises_ext (hf : Ord3 f) : ∀ {l m : List α}, Rises f l → Rises f m → (∀ x, x ∈ l ↔ x ∈ m) → l = m
  | [], [], _, _, _ => rfl
  | [], b :: t, _, _, h => by have := (h b).2 (by simp); simp at this
  | a :: r, [], _, _, h => by have := (h a).1 (by simp); simp at this
  | a :: r, b :: t, hl, hm, h => by
    have h1 := List.pairwise_cons.1 hl
    have h2 := List.pairwise_cons.1 hm
    have hab : a = b := by
      rcases List.mem_cons.1 ((h a).1 (by simp)) with e | e
      · exact e
      · rcases List.mem_cons.1 ((h b).2 (by simp)) with e' | e'
        · exact e'.symm
        · have x1 := h1.1 b e'
          have x2 := h2.1 a e
          have := (hf.anti a b).1 x1
          omega
    subst hab
    congr 1
    apply rises_ext hf h1.2 h2.2
    intro x
    constructor
    · intro hx
      rcases List.mem_cons.1 ((h x).1 (by simp [hx])) with e | e
      · subst e
        have := h1.1 x hx
        rw [hf.self] at this
        omega
      · exact e
    · intro hx
      rcases List.mem_cons.1 ((h x).2 (by simp [hx])) with e | e
      · subst e
        have := h2.1 x hx
        rw [hf.self] at this
        omega
      · exact e
variable [DecidableEq α]
def insU (f : α → α → Int) (s : α) : List α → List α
  | [] => [s]
  | a :: r => if f a s < 0 then a :: insU f s r else if a = s then a :: r else s :: a :: r
theorem insU_mem (f : α → α → Int) (s x : α) : ∀ l : List α, x ∈ insU f s l ↔ x = s ∨ x ∈ l
  | [] => by simp [insU]
  | a :: r => by
    unfold insU
    split
    · rw [List.mem_cons, insU_mem f s x r, List.mem_cons]
      constructor
      · rintro (h | h | h) <;> simp [h]
      · rintro (h | h | h) <;> simp [h]
    · split
      · rename_i e
        subst e
        simp
      · simp
def insAll (f : α → α → Int) (l : List α) : List α := l.foldl (fun o s => insU f s o) []
theorem insFold_mem (f : α → α → Int) (x : α) : ∀ (l o : List α), x ∈ l.foldl (fun o s => insU f s o) o ↔ x ∈ l ∨ x ∈ o
  | [], o => by simp
  | s :: r, o => by
    rw [List.foldl_cons, insFold_mem f x r, insU_mem, List.mem_cons]
    constructor
    · rintro (h | h | h) <;> simp [h]
    · rintro ((h | h) | h) <;> simp [h]
theorem insAll_mem (f : α → α → Int) (l : List α) (x : α) : x ∈ insAll f l ↔ x ∈ l := by
  unfold insAll; rw [insFold_mem]; simp
end
section
variable {α : Type} [Inhabited α] [DecidableEq α] {f : α → α → Int}
end
def vsort (l : List Str) : List Str := insAll verCmp (l.filter fun s => decide (verErr s = 0))
theorem vsort_mem (l : List Str) (x : Str) : x ∈ vsort l ↔ x ∈ l ∧ verErr x = 0 := by
  unfold vsort; rw [insAll_mem]; simp
end Go.Proofs.Pw

namespace Go.Proofs.Pw
open Go.Lib hiding intOf
def mdErr (m : Md) : Nat := modErr m.1 m.2
def mdText (m : Md) : Str := modText m.1 m.2
theorem modErr_zero {p v : Str} (h : modErr p v = 0) : pathErr p = 0 ∧ verErr v = 0 := by
  unfold modErr at h
  by_cases h1 : pathErr p = 0
  · refine ⟨h1, ?_⟩
    by_cases h2 : verErr v = 0
    · exact h2
    · rw [if_neg (by rw [h1]; simp), if_pos h2] at h
      exact h
  · rw [if_pos h1] at h
    exact absurd h h1
theorem modErr_le (p v : Str) : modErr p v ≤ 4 := by
  unfold modErr
  split
  · exact pathErr_le p
  · split
    · have := verErr_le v; omega
    · split <;> decide
def modAhead (a b : Md) : Bool := decide (compareBytes a.1 b.1 < 0) || (decide (a.1 = b.1) && verLess a.2 b.2)
def modCmp (a b : Md) : Int := orI (compareBytes a.1 b.1) (verCmp a.2 b.2)
theorem modCmp_ord : Ord3 modCmp := Ord3.or (compareBytes_ord.comap (fun m : Md => m.1)) (verCmp_ord.comap (fun m : Md => m.2))
theorem modCmp_zero {a b : Md} (ha : mdErr a = 0) (hb : mdErr b = 0) (h : modCmp a b = 0) : a = b := by
  obtain ⟨h1, h2⟩ := orI_eq.1 h
  exact Prod.ext (compareBytes_zero h1) ((verCmp_same (modErr_zero ha).2 (modErr_zero hb).2).1 h2)
theorem modAhead_iff {a b : Md} (ha : mdErr a = 0) (hb : mdErr b = 0) : modAhead a b = decide (modCmp a b < 0) := by
  unfold modAhead modCmp verLess
  rw [Bool.eq_iff_iff]
  simp only [Bool.or_eq_true, Bool.and_eq_true, decide_eq_true_eq, orI_lt]
  rw [compareBytes_zero_iff]
  constructor
  · rintro (h | ⟨h, _, _, h2⟩)
    · exact .inl h
    · exact .inr ⟨h, h2⟩
  · rintro (h | ⟨h, h2⟩)
    · exact .inl h
    · exact .inr ⟨h, (modErr_zero ha).2, (modErr_zero hb).2, h2⟩
end Go.Proofs.Pw

namespace Go.Proofs.Pw
open Go.RowKit
structure EnvM (w : World) : Prop where
  maxLen : ∃ m, w.cell? ⟨12, 0, none⟩ = some (.int .i64 m)
theorem lt_of_cell {w : World} {a : Addr} {v : Value} (h : w.cell? a = some v) : a.block < w.heap.size := World.block_lt_of_cell? w a h
theorem Below.cell_some {w w' : World} (hb : Below w.heap.size w w') {a : Addr} {v : Value} (h : w.cell? a = some v) : w'.cell? a = some v :=
  (hb.cell (lt_of_cell h)).trans h
theorem EnvM.below {w w' : World} (h : EnvM w) (hb : Below w.heap.size w w') : EnvM w' := by
  obtain ⟨m, hm⟩ := h.maxLen
  exact ⟨m, Below.cell_some hb hm⟩
theorem below_step {w w1 w2 : World} (h : Below w.heap.size w w1) (h2 : Below w1.heap.size w1 w2) : Below w.heap.size w w2 := h.trans (h2.mono h.size)
theorem below_alloc (w : World) (o : Obj) : Below w.heap.size w (w.alloc o) := (Below.refl _ _).alloc (Nat.le_refl _) _
def errG : Nat → Nat
  | 1 => 2 | 2 => 4 | 3 => 8 | 4 => 5 | 5 => 0
  | 6 => 9 | 7 => 7 | 8 => 1 | 9 => 6 | _ => 3
structure EnvE (ks : List Nat) (A : Nat → Addr) (w : World) : Prop where
  var : ∀ k ∈ ks, w.cell? ⟨errG k, 0, none⟩ = some (.iface 371 (.pointer (some (A k))))
  row : ∀ k ∈ ks, ∃ c t, w.heap[(A k).block]? = some (.cells c t (0, 0))
  inj : ∀ j ∈ ks, ∀ k ∈ ks, A j = A k → j = k
theorem Below.cell_same {w w' : World} (hb : Below w.heap.size w w') {a : Addr} {v : Value} (h : w.cell? a = some v) : w'.cell? a = some v :=
  (hb.cell (World.block_lt_of_cell? w a h)).trans h
theorem Below.row_same {w w' : World} (hb : Below w.heap.size w w') {b : Nat} {o : Obj} (h : w.heap[b]? = some o) : w'.heap[b]? = some o :=
  (hb.block b (Array.getElem?_eq_some_iff.1 h).1).trans h
theorem EnvE.below {ks : List Nat} {A : Nat → Addr} {w w' : World} (h : EnvE ks A w) (hb : Below w.heap.size w w') : EnvE ks A w' :=
  ⟨fun k hk => Below.cell_same hb (h.var k hk), fun k hk => let ⟨c, t, hc⟩ := h.row k hk; ⟨c, t, Below.row_same hb hc⟩, h.inj⟩
theorem EnvE.sub {ks js : List Nat} {A : Nat → Addr} {w : World} (h : EnvE ks A w) (hs : ∀ k ∈ js, k ∈ ks) : EnvE js A w :=
  ⟨fun k hk => h.var k (hs k hk), fun k hk => h.row k (hs k hk), fun j hj k hk => h.inj j (hs j hj) k (hs k hk)⟩
def errV (A : Nat → Addr) (code : Nat) : Value := if code = 0 then .nilIface else .iface 371 (.pointer (some (A code)))
theorem errV_zero (A : Nat → Addr) : errV A 0 = .nilIface := rfl
theorem errV_pos (A : Nat → Addr) {c : Nat} (h : c ≠ 0) : errV A c = .iface 371 (.pointer (some (A c))) := if_neg h
def allErrs : List Nat := [1, 2, 3, 4, 5, 6, 7, 8, 9, 10]
theorem mem_allErrs {k : Nat} (h1 : 1 ≤ k) (h2 : k ≤ 10) : k ∈ allErrs := by
  unfold allErrs; simp; omega
theorem Below.drewN {B : Nat} {a w : World} (h : Below B a w) (n : Nat) : Below B a (w.drewN n) := below_drewN h n
structure EnvP (ks : List Nat) (A : Nat → Addr) (w : World) : Prop where
  m : EnvM w
  errs : EnvE ks A w
  has : 1 ∈ ks ∧ 2 ∈ ks
  range : ∃ te pe, w.cell? ⟨14, 0, none⟩ = some (.iface te pe)
  syn : ∃ te pe, w.cell? ⟨13, 0, none⟩ = some (.iface te pe)
  pow10 : Lib.TabIs Tryz.prog w "internal/strconv.uint64pow10" .u64 Lib.pow10Tab
theorem var?_below {P : Program} {w w' : World} {n : String} {cs : Array Value} (h : w.var? P n = some cs) (hb : Below w.heap.size w w') : w'.var? P n = some cs := by
  unfold World.var? at h ⊢
  cases hg : P.globalNamed n with
  | none => simp [hg] at h
  | some g =>
    simp only [hg, Option.bind_some] at h ⊢
    have hlt : g < w.heap.size := by
      rcases Nat.lt_or_ge g w.heap.size with h' | h'
      · exact h'
      · simp [Array.getElem?_eq_none h'] at h
    rw [hb.block g hlt]
    exact h
theorem EnvP.below {ks : List Nat} {A : Nat → Addr} {w w' : World} (h : EnvP ks A w) (hb : Below w.heap.size w w') : EnvP ks A w' :=
  { m := h.m.below hb, errs := h.errs.below hb, has := h.has
    range := let ⟨te, pe, e⟩ := h.range; ⟨te, pe, Below.cell_some hb e⟩
    syn := let ⟨te, pe, e⟩ := h.syn; ⟨te, pe, Below.cell_some hb e⟩
    pow10 := var?_below h.pow10 hb
  }
end Go.Proofs.Pw

namespace Go.Proofs.Pw
open Go.RowKit
open Go.Lib hiding intOf
def mdF (n : Nat) (P V : Nat → ByteArray) : List Md := (List.range n).map fun j => ((P j).data.toList, (V j).data.toList)
theorem mdF_length (n P V) : (mdF n P V).length = n := by simp [mdF]
theorem mdF_get (n P V) (j : Nat) (h : j < n) : (mdF n P V)[j]? = some ((P j).data.toList, (V j).data.toList) := by simp [mdF, h]
theorem mdF_take_succ (n P V) (k : Nat) (h : k < n) : (mdF n P V).take (k + 1) = (mdF n P V).take k ++ [((P k).data.toList, (V k).data.toList)] := by
  rw [List.take_add_one, mdF_get n P V k h]; rfl
theorem mdF_take_all (n P V) : (mdF n P V).take n = mdF n P V := List.take_of_length_le (by rw [mdF_length]; exact Nat.le_refl _)
theorem bytes_eq {a b : ByteArray} : a.data.toList = b.data.toList ↔ a = b := ⟨fun h => by
  apply ByteArray.ext; apply Array.ext'; exact h, fun h => by rw [h]⟩
def ModsAt (w : World) (v : Value) (l : List Md) : Prop :=
  ∃ a n cap P V, v = .slice a n cap ∧ l = mdF n P V ∧ n ≤ cap ∧ cap ≤ 9223372036854775807 ∧ ∀ j, j < n → ∃ b o, a = some ⟨b, o, none⟩ ∧ w.cell? ⟨b, o + j * 2, none⟩ = some (.string (P j)) ∧ w.cell? ⟨b, o + j * 2 + 1, none⟩ = some (.string (V j))
theorem ModsAt.below {w w' : World} {v : Value} {l : List Md} (h : ModsAt w v l) (hb : Below w.heap.size w w') : ModsAt w' v l := by
  obtain ⟨a, n, cap, P, V, h1, h2, h3, h4, h5⟩ := h
  exact ⟨a, n, cap, P, V, h1, h2, h3, h4, fun j hj => let ⟨b, o, e1, e2, e3⟩ := h5 j hj; ⟨b, o, e1, Below.cell_some hb e2, Below.cell_some hb e3⟩⟩
theorem ModsAt.nil (w : World) : ModsAt w (.slice none 0 0) [] := ⟨none, 0, 0, fun _ => ByteArray.empty, fun _ => ByteArray.empty, rfl, rfl, Nat.le_refl _, by decide, fun j hj => absurd hj (Nat.not_lt_zero _)⟩
def findI {α : Type} (p : α → Bool) (l : List α) : Int := match l.findIdx? p with | some k => (k : Int) | none => -1
theorem findI_hit {α : Type} {p : α → Bool} {l : List α} {k : Nat} {x : α} (hk : l[k]? = some x) (hp : p x = true) (h0 : ∀ j y, j < k → l[j]? = some y → p y = false) : findI p l = k := by
  have : l.findIdx? p = some k := by
    rw [List.findIdx?_eq_some_iff_getElem]
    obtain ⟨h, e⟩ := List.getElem?_eq_some_iff.1 hk
    refine ⟨h, by rw [e]; exact hp, fun j hj => ?_⟩
    have := h0 j l[j] hj (List.getElem?_eq_getElem _)
    simp [this]
  unfold findI
  rw [this]
theorem findI_none {α : Type} {p : α → Bool} {l : List α} (h : ∀ (j : Nat) (y : α), l[j]? = some y → p y = false) : findI p l = -1 := by
  have : l.findIdx? p = none := by
    rw [List.findIdx?_eq_none_iff]
    intro x hx
    obtain ⟨j, hj⟩ := List.getElem?_of_mem hx
    rw [h j x hj]
  unfold findI
  rw [this]
theorem Tryz.md_fields : Tryz.prog.underlying 29 = some (.struct (Tryz.prog.fieldsOf 29)) := by kernel_rfl
theorem Tryz.md_held : Tryz.prog.stoodInHeld 29 = false := by kernel_rfl
theorem Tryz.md_guard : Tryz.prog.eqGuardType Tryz.prog.depth 29 = false := by kernel_rfl
theorem md_equal (p v q u : ByteArray) (w : World) : (Op.equalIn 10000 29 (.agg #[.string p, .string v]) (.agg #[.string q, .string u])).run Tryz.prog w = .ok (decide (p = q ∧ v = u)) w := by
  have u3 := Tryz.underlying9
  have a3 := Tryz.isAgg9
  have z3 := Tryz.sizeOf9
  rw [show (10000 : Nat) = 9999 + 1 from rfl, run_equalIn_agg w 9999 29 _ _ Tryz.md_fields Tryz.md_held]
  simp only [Program.fieldsOf, Tryz.underlying29]
  go_simp
  have e1 : (p.toList = q.toList) ↔ p = q := by rw [ByteArray.toList_eq, ByteArray.toList_eq]; exact bytes_eq
  have e2 : (v.toList = u.toList) ↔ v = u := by rw [ByteArray.toList_eq, ByteArray.toList_eq]; exact bytes_eq
  by_cases h1 : p = q
  · by_cases h2 : v = u
    · simp [h1, h2]
    · have : ¬ v.toList = u.toList := fun h => h2 (e2.1 h)
      simp [h1, h2, this]
  · have : ¬ p.toList = q.toList := fun h => h1 (e1.1 h)
    simp [h1, this]
theorem md_eql (p v q u : ByteArray) (w : World) : (binOp .eql 29 (.agg #[.string p, .string v]) (.agg #[.string q, .string u])).run Tryz.prog w = .ok (.bool (decide (p = q ∧ v = u))) w := by
  rw [run_eql_struct, md_equal]; rfl
theorem md_neq (p v q u : ByteArray) (w : World) : (binOp .neq 29 (.agg #[.string p, .string v]) (.agg #[.string q, .string u])).run Tryz.prog w = .ok (.bool (!decide (p = q ∧ v = u))) w := by
  rw [run_neq_struct, md_equal]; rfl
end Go.Proofs.Pw

namespace Go.Proofs.Pw
open Go.Lib hiding intOf
structure Fl where
  path : Str
  reqs : List Md
  excl : List Md
def firstE (g : Nat → Nat) : Nat → Nat × Int
  | 0 => (0, -1)
  | n + 1 => if (firstE g n).1 ≠ 0 then firstE g n else if g n ≠ 0 then (g n, (n : Int)) else (0, -1)
theorem firstE_none {g : Nat → Nat} : ∀ {n : Nat}, (∀ j, j < n → g j = 0) → firstE g n = (0, -1)
  | 0, _ => rfl
  | n + 1, h => by
    rw [firstE, firstE_none (n := n) (fun j hj => h j (by omega)), if_neg (by simp), if_neg (by simp [h n (by omega)])]
theorem firstE_hit {g : Nat → Nat} {k : Nat} (hg : g k ≠ 0) (h : ∀ j, j < k → g j = 0) : ∀ {n : Nat}, k < n → firstE g n = (g k, (k : Int))
  | 0, hk => absurd hk (Nat.not_lt_zero _)
  | n + 1, hk => by
    by_cases e : k = n
    · subst e
      rw [firstE, firstE_none h, if_neg (by simp), if_pos hg]
    · have := firstE_hit hg h (n := n) (by omega)
      rw [firstE, this, if_pos hg]
theorem firstE_zero {g : Nat → Nat} : ∀ {n : Nat}, (firstE g n).1 = 0 → ∀ j, j < n → g j = 0
  | 0, _, j, hj => absurd hj (Nat.not_lt_zero _)
  | n + 1, h, j, hj => by
    rw [firstE] at h
    by_cases h1 : (firstE g n).1 = 0
    · rw [if_neg (by simp [h1])] at h
      by_cases h2 : g n = 0
      · by_cases e : j = n
        · rw [e]; exact h2
        · exact firstE_zero h1 j (by omega)
      · rw [if_pos h2] at h
        exact absurd h h2
    · rw [if_pos h1] at h
      exact absurd h h1
def mdAt (l : List Md) (i : Nat) : Md := l.getD i ([], [])
theorem mdAt_get {l : List Md} {i : Nat} (h : i < l.length) : l[i]? = some (mdAt l i) := by
  unfold mdAt
  rw [List.getD_eq_getElem?_getD, List.getElem?_eq_getElem h]; rfl
theorem mdAt_mem {l : List Md} {i : Nat} (h : i < l.length) : mdAt l i ∈ l := List.mem_of_getElem? (mdAt_get h)
theorem mdAt_mdF {n : Nat} {P V : Nat → ByteArray} {i : Nat} (h : i < n) : mdAt (mdF n P V) i = ((P i).data.toList, (V i).data.toList) := by
  unfold mdAt
  rw [List.getD_eq_getElem?_getD, mdF_get n P V i h]; rfl
def reqE (p : Str) (l : List Md) (i : Nat) : Nat :=
  if mdErr (mdAt l i) ≠ 0 then mdErr (mdAt l i) else if (mdAt l i).1 = p then 3 else if 0 < i ∧ compareBytes (mdAt l i).1 (mdAt l (i - 1)).1 ≤ 0 then 8 else 0
def excE (l : List Md) (i : Nat) : Nat :=
  if mdErr (mdAt l i) ≠ 0 then mdErr (mdAt l i) else if 0 < i ∧ modAhead (mdAt l (i - 1)) (mdAt l i) = false then 8 else 0
def claE (r x : List Md) (i : Nat) : Nat := if mdAt r i ∈ x then 9 else 0
def orE (a b : Nat × Int) : Nat × Int := if a.1 ≠ 0 then a else b
theorem orE_zero {a b : Nat × Int} : (orE a b).1 = 0 ↔ a.1 = 0 ∧ b.1 = 0 := by
  unfold orE
  by_cases h : a.1 = 0
  · rw [if_neg (by simp [h])]; simp [h]
  · rw [if_pos h]; simp [h]
structure Right (f : Fl) : Prop where
  path : pathErr f.path = 0
  reqs : f.reqs.length ≤ 20
  excl : f.excl.length ≤ 20
  req : ∀ i, i < f.reqs.length → reqE f.path f.reqs i = 0
  exc : ∀ i, i < f.excl.length → excE f.excl i = 0
  cla : ∀ i, i < f.reqs.length → claE f.reqs f.excl i = 0
theorem Right.mem {f : Fl} (h : Right f) : (∀ m ∈ f.reqs, mdErr m = 0) ∧ ∀ m ∈ f.excl, mdErr m = 0 := by
  constructor
  · intro m hm
    obtain ⟨i, hi⟩ := List.getElem?_of_mem hm
    have hl := (List.getElem?_eq_some_iff.1 hi).1
    have h1 := h.req i hl
    rw [mdAt_get hl] at hi
    injection hi with hi
    unfold reqE at h1
    rw [hi] at h1
    by_cases h2 : mdErr m = 0
    · exact h2
    · rw [if_pos h2] at h1; exact h1
  · intro m hm
    obtain ⟨i, hi⟩ := List.getElem?_of_mem hm
    have hl := (List.getElem?_eq_some_iff.1 hi).1
    have h1 := h.exc i hl
    rw [mdAt_get hl] at hi
    injection hi with hi
    unfold excE at h1
    rw [hi] at h1
    by_cases h2 : mdErr m = 0
    · exact h2
    · rw [if_pos h2] at h1; exact h1
theorem cut_rest {s : Str} (h : (cut s [10]).2.2 = true) : (cut s [10]).2.1.length < s.length := by
  by_cases hm : (10 : UInt8) ∈ s
  · obtain ⟨a, b, rfl, ha⟩ := mem_at hm
    rw [cut_at ha]
    simp; omega
  · rw [cut_no hm] at h; cases h
end Go.Proofs.Pw

namespace Go.Proofs.Pw
open Go.Lib hiding intOf
def hasP (p : Str) (m : Md) : Bool := decide (m.1 = p)
theorem findI_eq_none {α : Type} {p : α → Bool} {l : List α} : findI p l < 0 ↔ ∀ x ∈ l, p x = false := by
  unfold findI
  cases h : l.findIdx? p with
  | none =>
    rw [List.findIdx?_eq_none_iff] at h
    exact ⟨fun _ => h, fun _ => by decide⟩
  | some k =>
    rw [List.findIdx?_eq_some_iff_getElem] at h
    obtain ⟨hk, h1, _⟩ := h
    constructor
    · intro h; simp only at h; omega
    · intro h
      rw [h _ (List.getElem_mem hk)] at h1
      cases h1
theorem findI_spec {α : Type} {p : α → Bool} {l : List α} {k : Nat} (h : findI p l = k) : ∃ x, l[k]? = some x ∧ p x = true := by
  unfold findI at h
  cases hf : l.findIdx? p with
  | none => rw [hf] at h; simp only at h; omega
  | some j =>
    rw [hf] at h
    simp only at h
    obtain rfl : j = k := by omega
    rw [List.findIdx?_eq_some_iff_getElem] at hf
    obtain ⟨hk, h1, _⟩ := hf
    exact ⟨_, List.getElem?_eq_getElem hk, h1⟩
def RiseP (l : List Md) : Prop := l.Pairwise fun a b => compareBytes a.1 b.1 < 0
theorem compareBytes_self (a : Str) : compareBytes a a = 0 := compareBytes_ord.self a
theorem cb_trans {a b c : Str} (h1 : compareBytes a b < 0) (h2 : compareBytes b c < 0) : compareBytes a c < 0 := by
  have h := compareBytes_ord
  have a1 := h.tr a b c (by omega) (by omega)
  rcases Int.lt_or_eq_of_le a1 with a2 | a2
  · exact a2
  · exfalso
    have a3 := h.zero a2
    have a4 := h.tr c a b (by omega) (by omega)
    have a5 := (h.anti b c).1 h2
    omega
theorem Right.rise {f : Fl} (h : Right f) : RiseP f.reqs := by
  have step : ∀ i, i + 1 < f.reqs.length → compareBytes (mdAt f.reqs i).1 (mdAt f.reqs (i + 1)).1 < 0 := by
    intro i hi
    have h1 := h.req (i + 1) hi
    unfold reqE at h1
    have h0 := h.mem.1 _ (mdAt_mem hi)
    rw [if_neg (by simp [h0])] at h1
    split at h1
    · cases h1
    · split at h1
      · cases h1
      · rename_i h2
        rw [Nat.add_sub_cancel] at h2
        have h3 : ¬ compareBytes (mdAt f.reqs (i + 1)).1 (mdAt f.reqs i).1 ≤ 0 := fun e => h2 ⟨Nat.succ_pos _, e⟩
        exact (compareBytes_ord.anti _ _).2 (by omega)
  have all : ∀ j i, i < j → j < f.reqs.length → compareBytes (mdAt f.reqs i).1 (mdAt f.reqs j).1 < 0 := by
    intro j
    induction j with
    | zero => intro i hi; exact absurd hi (Nat.not_lt_zero _)
    | succ j ih =>
      intro i hi hj
      by_cases e : i = j
      · subst e; exact step i hj
      · exact cb_trans (ih i (by omega) (by omega)) (step j hj)
  unfold RiseP
  rw [List.pairwise_iff_getElem]
  intro i j hi hj hij
  have e : ∀ k (hk : k < f.reqs.length), mdAt f.reqs k = f.reqs[k] := fun k hk => by
    have := mdAt_get hk
    rw [List.getElem?_eq_getElem hk] at this
    exact (Option.some.inj this).symm
  have := all j i hij hj
  rw [e i hi, e j hj] at this
  exact this
theorem RiseP.unique : ∀ {l : List Md}, RiseP l → ∀ {a b : Md}, a ∈ l → b ∈ l → a.1 = b.1 → a = b
  | [], _, _, _, h, _, _ => by simp at h
  | x :: r, h, a, b, ha, hb, e => by
    have h1 := List.pairwise_cons.1 h
    rcases List.mem_cons.1 ha with ea | ha' <;> rcases List.mem_cons.1 hb with eb | hb'
    · rw [ea, eb]
    · have := h1.1 b hb'
      rw [← ea, e, compareBytes_self] at this
      omega
    · have := h1.1 a ha'
      rw [← eb, e, compareBytes_self] at this
      omega
    · exact RiseP.unique h1.2 ha' hb' e
theorem stays {l : List Md} (h : RiseP l) (p : Str) {x : Md} (hx : x ∈ l) : (findI (hasP x.1) (l.filter fun y => !hasP p y) < 0 ↔ x.1 = p) ∧ ∀ k : Nat, findI (hasP x.1) (l.filter fun y => !hasP p y) = k → (l.filter fun y => !hasP p y)[k]? = some x := by
  constructor
  · rw [findI_eq_none]
    constructor
    · intro hn
      by_cases e : x.1 = p
      · exact e
      · have := hn x (List.mem_filter.2 ⟨hx, by simp [hasP, e]⟩)
        simp [hasP] at this
    · intro e y hy
      have := (List.mem_filter.1 hy).2
      unfold hasP at this ⊢
      rw [e]
      simpa using this
  · intro k hk
    obtain ⟨y, hy, hp⟩ := findI_spec hk
    have hyl := (List.mem_filter.1 (List.mem_of_getElem? hy)).1
    have e : y.1 = x.1 := by simpa [hasP] using hp
    rw [hy, h.unique hyl hx e]
end Go.Proofs.Pw
