/- Plain mathematics of the order of versions: it is an order. No program in sight. -/
import Derived.Test.YtfkimddlgopgbaaGreatDoorVerMath
import Derived.Lib.Bytealg
namespace Go.Proofs.Pw
open Go.Lib

def orI (a b : Int) : Int := if a = 0 then b else a
/-- ver.comparePart -/
def cmpPart (a b : Str) : Int :=
  if areDigits a && areDigits b then orI ((a.length : Int) - b.length) (compareBytes a b)
  else if areDigits a then -1 else if areDigits b then 1 else compareBytes a b
/-- slices.CompareFunc with it -/
def cmpList : List Str → List Str → Int
  | [], [] => 0
  | [], _ :: _ => -1
  | _ :: _, [] => 1
  | a :: r, b :: t => orI (cmpPart a b) (cmpList r t)
/-- ver.Compare -/
def verCmp (a b : Str) : Int :=
  let n := orI ((verNum a 0 : Int) - verNum b 0) (orI ((verNum a 1 : Int) - verNum b 1) ((verNum a 2 : Int) - verNum b 2))
  if n = 0 ∧ decide ((verPre a).length = 0) ≠ decide ((verPre b).length = 0) then ((verPre b).length : Int) - (verPre a).length
  else orI n (cmpList (verPre a) (verPre b))
/-- ver.Less -/
def verLess (a b : Str) : Bool := decide (verErr a = 0 ∧ verErr b = 0 ∧ verCmp a b < 0)

/-! ### orders -/
structure Ord3 {α : Type} (f : α → α → Int) : Prop where
  anti : ∀ a b, f a b < 0 ↔ 0 < f b a
  tr : ∀ a b c, f a b ≤ 0 → f b c ≤ 0 → f a c ≤ 0

section
variable {α β : Type} {f g : α → α → Int}
theorem Ord3.self (h : Ord3 f) (a : α) : f a a = 0 := by have := h.anti a a; omega
theorem Ord3.zero (h : Ord3 f) {a b : α} (e : f a b = 0) : f b a = 0 := by have := h.anti a b; have := h.anti b a; omega
theorem orI_le {a b : Int} : orI a b ≤ 0 ↔ a < 0 ∨ (a = 0 ∧ b ≤ 0) := by unfold orI; split <;> omega
theorem orI_lt {a b : Int} : orI a b < 0 ↔ a < 0 ∨ (a = 0 ∧ b < 0) := by unfold orI; split <;> omega
theorem orI_gt {a b : Int} : 0 < orI a b ↔ 0 < a ∨ (a = 0 ∧ 0 < b) := by unfold orI; split <;> omega
theorem orI_eq {a b : Int} : orI a b = 0 ↔ a = 0 ∧ b = 0 := by unfold orI; split <;> omega
theorem Ord3.or (hf : Ord3 f) (hg : Ord3 g) : Ord3 fun a b => orI (f a b) (g a b) := by
  refine ⟨fun a b => ?_, fun a b c h1 h2 => ?_⟩
  · have := hf.anti a b
    have := hf.anti b a
    have := hg.anti a b
    rw [orI_lt, orI_gt]
    omega
  · rw [orI_le] at *
    have a1 := hf.anti a b
    have a2 := hf.anti b a
    have a3 := hf.anti a c
    have a4 := hf.anti c a
    have a5 := hf.anti b c
    have a6 := hf.anti c b
    have t1 := hf.tr a b c
    have t2 := hf.tr b c a
    have t3 := hf.tr c a b
    have t4 := hg.tr a b c
    omega
theorem Ord3.comap (hf : Ord3 f) (k : β → α) : Ord3 fun a b => f (k a) (k b) := ⟨fun _ _ => hf.anti _ _, fun _ _ _ => hf.tr _ _ _⟩
theorem ord3_sub (k : α → Int) : Ord3 fun a b => k a - k b := ⟨fun a b => by omega, fun a b c => by omega⟩
theorem Ord3.sign (hg : Ord3 g) (h : ∀ a b, (f a b < 0 ↔ g a b < 0) ∧ (f a b = 0 ↔ g a b = 0)) : Ord3 f := by
  refine ⟨fun a b => ?_, fun a b c h1 h2 => ?_⟩
  · have := hg.anti a b
    have := h a b
    have := h b a
    omega
  · have := hg.tr a b c
    have := h a b
    have := h b c
    have := h a c
    omega

def lexI (f : α → α → Int) : List α → List α → Int
  | [], [] => 0
  | [], _ :: _ => -1
  | _ :: _, [] => 1
  | a :: r, b :: t => orI (f a b) (lexI f r t)
theorem lexI_anti (hf : Ord3 f) : ∀ a b : List α, lexI f a b < 0 ↔ 0 < lexI f b a
  | [], [] => by simp [lexI]
  | [], _ :: _ => by simp [lexI]
  | _ :: _, [] => by simp [lexI]
  | a :: r, b :: t => by
    have := lexI_anti hf r t
    have := hf.anti a b
    have := hf.anti b a
    rw [lexI, lexI, orI_lt, orI_gt]
    omega
theorem lexI_tr (hf : Ord3 f) : ∀ a b c : List α, lexI f a b ≤ 0 → lexI f b c ≤ 0 → lexI f a c ≤ 0
  | [], _, [] => by simp [lexI]
  | [], _, _ :: _ => by simp [lexI]
  | _ :: _, [], _ => by simp [lexI]
  | _ :: _, _ :: _, [] => by simp [lexI]
  | a :: r, b :: s, c :: t => by
    have := lexI_tr hf r s t
    rw [lexI, lexI, lexI, orI_le, orI_le, orI_le]
    have a1 := hf.anti a b
    have a2 := hf.anti b a
    have a3 := hf.anti a c
    have a4 := hf.anti c a
    have a5 := hf.anti b c
    have a6 := hf.anti c b
    have t1 := hf.tr a b c
    have t2 := hf.tr b c a
    have t3 := hf.tr c a b
    omega
theorem lexI_ord (hf : Ord3 f) : Ord3 (lexI f) := ⟨lexI_anti hf, lexI_tr hf⟩
theorem lexI_zero (hf : ∀ a b, f a b = 0 → a = b) : ∀ a b : List α, lexI f a b = 0 → a = b
  | [], [], _ => rfl
  | [], _ :: _, h => by simp [lexI] at h
  | _ :: _, [], h => by simp [lexI] at h
  | a :: r, b :: t, h => by
    rw [lexI, orI_eq] at h
    rw [hf a b h.1, lexI_zero hf r t h.2]
end

def byteCmp (a b : UInt8) : Int := if a < b then -1 else if b < a then 1 else 0
theorem byteCmp_ord : Ord3 byteCmp := by
  refine ⟨fun a b => ?_, fun a b c => ?_⟩
  · unfold byteCmp
    simp only [UInt8.lt_iff_toNat_lt]
    split <;> split <;> (try split) <;> omega
  · unfold byteCmp
    simp only [UInt8.lt_iff_toNat_lt]
    split <;> split <;> split <;> (try split) <;> (try split) <;> (try split) <;> omega
theorem byteCmp_zero (a b : UInt8) (h : byteCmp a b = 0) : a = b := by
  unfold byteCmp at h
  simp only [UInt8.lt_iff_toNat_lt] at h
  apply UInt8.toNat_inj.1
  split at h
  · omega
  · split at h <;> omega
theorem compareBytes_eq : ∀ a b : Str, compareBytes a b = lexI byteCmp a b
  | [], [] => rfl
  | [], _ :: _ => rfl
  | _ :: _, [] => rfl
  | a :: r, b :: t => by
    rw [compareBytes, lexI, compareBytes_eq r t]
    unfold byteCmp orI
    split
    · simp
    · split
      · simp
      · simp
theorem compareBytes_ord : Ord3 compareBytes := (lexI_ord byteCmp_ord).sign fun a b => by rw [compareBytes_eq]; exact ⟨Iff.rfl, Iff.rfl⟩
theorem compareBytes_zero {a b : Str} (h : compareBytes a b = 0) : a = b := lexI_zero byteCmp_zero a b (by rw [← compareBytes_eq]; exact h)
theorem compareBytes_zero_iff {a b : Str} : compareBytes a b = 0 ↔ a = b := ⟨compareBytes_zero, fun e => by subst e; exact compareBytes_ord.self a⟩

def ndig (s : Str) : Int := if areDigits s then 0 else 1
def dlen (s : Str) : Int := if areDigits s then s.length else 0
theorem cmpPart_eq (a b : Str) : cmpPart a b = orI (ndig a - ndig b) (orI (dlen a - dlen b) (compareBytes a b)) := by
  unfold cmpPart ndig dlen
  cases areDigits a <;> cases areDigits b <;> simp [orI]
theorem cmpPart_ord : Ord3 cmpPart :=
  ((ord3_sub ndig).or ((ord3_sub dlen).or compareBytes_ord)).sign fun a b => by rw [cmpPart_eq]; exact ⟨Iff.rfl, Iff.rfl⟩
theorem cmpPart_zero (a b : Str) (h : cmpPart a b = 0) : a = b := by
  rw [cmpPart_eq, orI_eq, orI_eq] at h
  exact compareBytes_zero h.2.2
theorem cmpList_eq : ∀ a b : List Str, cmpList a b = lexI cmpPart a b
  | [], [] => rfl
  | [], _ :: _ => rfl
  | _ :: _, [] => rfl
  | a :: r, b :: t => by rw [cmpList, lexI, cmpList_eq r t]
theorem cmpList_ord : Ord3 cmpList := (lexI_ord cmpPart_ord).sign fun a b => by rw [cmpList_eq]; exact ⟨Iff.rfl, Iff.rfl⟩
theorem cmpList_zero {a b : List Str} (h : cmpList a b = 0) : a = b := lexI_zero cmpPart_zero a b (by rw [← cmpList_eq]; exact h)

def preEnd (s : Str) : Int := if (verPre s).length = 0 then 1 else 0
def verNums (a b : Str) : Int := orI ((verNum a 0 : Int) - verNum b 0) (orI ((verNum a 1 : Int) - verNum b 1) ((verNum a 2 : Int) - verNum b 2))
def verKey (a b : Str) : Int := orI (verNums a b) (orI (preEnd a - preEnd b) (cmpList (verPre a) (verPre b)))
theorem verKey_ord : Ord3 verKey :=
  (((ord3_sub fun s => (verNum s 0 : Int)).or ((ord3_sub fun s => (verNum s 1 : Int)).or (ord3_sub fun s => (verNum s 2 : Int)))).or ((ord3_sub preEnd).or (cmpList_ord.comap verPre)))
theorem verCmp_eq (a b : Str) : verCmp a b = if verNums a b = 0 ∧ decide ((verPre a).length = 0) ≠ decide ((verPre b).length = 0) then ((verPre b).length : Int) - (verPre a).length else orI (verNums a b) (cmpList (verPre a) (verPre b)) := rfl
theorem verCmp_sign (a b : Str) : (verCmp a b < 0 ↔ verKey a b < 0) ∧ (verCmp a b = 0 ↔ verKey a b = 0) := by
  rw [verCmp_eq]
  unfold verKey preEnd
  generalize verNums a b = n
  generalize cmpList (verPre a) (verPre b) = c
  generalize (verPre a).length = x
  generalize (verPre b).length = y
  by_cases hn : n = 0
  · subst hn
    by_cases hx : x = 0
    · by_cases hy : y = 0
      · simp [hx, hy, orI]
      · simp [hx, hy, orI]
    · by_cases hy : y = 0
      · simp [hx, hy, orI]; omega
      · simp [hx, hy, orI]
  · simp [hn, orI]
theorem verCmp_ord : Ord3 verCmp := verKey_ord.sign verCmp_sign
theorem verCmp_zero {a b : Str} (h : verCmp a b = 0) : (∀ i, i < 3 → verNum a i = verNum b i) ∧ verPre a = verPre b := by
  have h2 := (verCmp_sign a b).2.1 h
  unfold verKey verNums at h2
  rw [orI_eq, orI_eq, orI_eq, orI_eq] at h2
  refine ⟨fun i hi => ?_, cmpList_zero h2.2.2⟩
  obtain rfl | rfl | rfl : i = 0 ∨ i = 1 ∨ i = 2 := by omega
  all_goals omega

/-! ### the references' answers -/
def sgn (n : Int) : Int := if n < 0 then -1 else if 0 < n then 1 else 0
theorem sgn_lt {n : Int} : sgn n < 0 ↔ n < 0 := by unfold sgn; split <;> (try split) <;> omega
theorem sgn_neg {n : Int} (h : n < 0) : sgn n = -1 := if_pos h
theorem sgn_pos {n : Int} (h : 0 < n) : sgn n = 1 := by unfold sgn; rw [if_neg (by omega), if_pos h]
theorem sgn_zero {n : Int} : sgn n = 0 ↔ n = 0 := by unfold sgn; split <;> (try split) <;> omega
/-- R.orderPart -/
def ordPart (a b : Str) : Int :=
  if areDigits a && areDigits b then sgn (((numberOf a).1 : Int) - (numberOf b).1)
  else if areDigits a || areDigits b then (if areDigits a then -1 else 1) else sgn (compareBytes a b)

theorem decVal_same : ∀ a b : Str, a.length = b.length → a.all isDig = true → b.all isDig = true → (decVal a < decVal b ↔ compareBytes a b < 0) ∧ (decVal a = decVal b ↔ compareBytes a b = 0)
  | [], [], _, _, _ => by simp [compareBytes]
  | [], _ :: _, h, _, _ => by simp at h
  | _ :: _, [], h, _, _ => by simp at h
  | a :: r, b :: t, h, h1, h2 => by
    simp only [List.all_cons, Bool.and_eq_true] at h1 h2
    have hl : r.length = t.length := by simpa using h
    have ih := decVal_same r t hl h1.2 h2.2
    have l1 := decVal_lt r h1.2
    have l2 := decVal_lt t h2.2
    have d1 := dig_lt h1.1
    have d2 := dig_lt h2.1
    rw [decVal_cons, decVal_cons, compareBytes]
    simp only [UInt8.lt_iff_toNat_lt]
    rw [hl] at l1 ⊢
    generalize 10 ^ t.length = p at *
    by_cases hab : a.toNat < b.toNat
    · rw [if_pos hab]
      have : (a.toNat - 48 + 1) * p ≤ (b.toNat - 48) * p := Nat.mul_le_mul_right p (by omega)
      rw [Nat.add_mul, Nat.one_mul] at this
      omega
    · rw [if_neg hab]
      by_cases hba : b.toNat < a.toNat
      · rw [if_pos hba]
        have : (b.toNat - 48 + 1) * p ≤ (a.toNat - 48) * p := Nat.mul_le_mul_right p (by omega)
        rw [Nat.add_mul, Nat.one_mul] at this
        omega
      · rw [if_neg hba]
        have e : a.toNat = b.toNat := by omega
        rw [e]
        omega
theorem decVal_ge {c : UInt8} {r : Str} (h : (c :: r).all isDig = true) (hc : c ≠ 48) : 10 ^ r.length ≤ decVal (c :: r) := by
  simp only [List.all_cons, Bool.and_eq_true] at h
  have d1 := dig_lt h.1
  rw [decVal_cons]
  have : c.toNat ≠ 48 := fun e => hc (UInt8.toNat_inj.1 (by simpa using e))
  have := Nat.mul_le_mul_right (10 ^ r.length) (show 1 ≤ c.toNat - 48 by omega)
  omega
theorem decVal_short {a b : Str} (ha : a.all isDig = true) (hb : b.all isDig = true) (hz : ¬ (1 < b.length ∧ b.head? = some 48)) (h0 : a ≠ []) (h : a.length < b.length) : decVal a < decVal b := by
  cases b with
  | nil => simp at h
  | cons c r =>
    have h1 : 0 < a.length := List.length_pos_iff.2 h0
    have hc : c ≠ 48 := fun e => hz ⟨by omega, by simp [e]⟩
    have g := decVal_ge hb hc
    have l := decVal_lt a ha
    have := Nat.pow_le_pow_right (n := 10) (by decide) (show a.length ≤ r.length by simp at h; omega)
    omega
theorem numberOf_err {s : Str} (h : (numberOf s).2 = 0) : areDigits s = true ∧ ¬ (1 < s.length ∧ s.head? = some 48) ∧ (numberOf s).1 = decVal s ∧ s.length ≤ 6 := by
  unfold numberOf at h ⊢
  by_cases h1 : areDigits s = false ∨ (1 < s.length ∧ s.head? = some 48)
  · rw [if_pos h1] at h; simp at h
  · rw [if_neg h1] at h ⊢
    by_cases h2 : 6 < s.length
    · rw [if_pos h2] at h; simp at h
    · rw [if_neg h2]
      rw [not_or] at h1
      exact ⟨by simpa using h1.1, h1.2, rfl, by omega⟩
theorem partErr_zero {s : Str} (h : partErr s = 0) : s ≠ [] ∧ s.length ≤ 8 ∧ s.all isPartByte = true ∧ (areDigits s = true → (numberOf s).2 = 0) := by
  unfold partErr at h
  by_cases h1 : s = [] ∨ 8 < s.length ∨ s.all isPartByte = false
  · rw [if_pos h1] at h; simp at h
  · rw [if_neg h1] at h
    rw [not_or, not_or] at h1
    refine ⟨h1.1, by omega, by simpa using h1.2.2, fun hd => ?_⟩
    rw [if_pos hd] at h
    exact h
theorem ordPart_eq {a b : Str} (ha : partErr a = 0) (hb : partErr b = 0) : ordPart a b = sgn (cmpPart a b) := by
  unfold ordPart cmpPart
  cases hx : areDigits a <;> cases hy : areDigits b
  · simp
  · simp [sgn]
  · simp [sgn]
  · obtain ⟨a1, a2, a3, a4⟩ := numberOf_err ((partErr_zero ha).2.2.2 hx)
    obtain ⟨b1, b2, b3, b4⟩ := numberOf_err ((partErr_zero hb).2.2.2 hy)
    simp only [Bool.and_self, ↓reduceIte]
    rw [a3, b3]
    have g : ∀ s : Str, areDigits s = true → s ≠ [] ∧ s.all isDig = true := fun s h => by
      unfold areDigits at h
      simp only [Bool.and_eq_true, Bool.not_eq_true', List.isEmpty_eq_false_iff] at h
      exact h
    have ga := g a hx
    have gb := g b hy
    have hor : ∀ x y : Int, x ≠ 0 → orI x y = x := fun x y h => if_neg h
    by_cases h1 : a.length < b.length
    · have := decVal_short ga.2 gb.2 b2 ga.1 h1
      rw [hor _ _ (by omega), sgn_neg (by omega), sgn_neg (by omega)]
    · by_cases h2 : b.length < a.length
      · have := decVal_short gb.2 ga.2 a2 gb.1 h2
        rw [hor _ _ (by omega), sgn_pos (by omega), sgn_pos (by omega)]
      · have he : a.length = b.length := by omega
        have := decVal_same a b he ga.2 gb.2
        rw [he, Int.sub_self]
        show sgn _ = sgn (orI 0 _)
        unfold orI
        rw [if_pos rfl]
        unfold sgn
        generalize compareBytes a b = c at *
        split <;> split <;> (try split) <;> (try split) <;> omega
end Go.Proofs.Pw
