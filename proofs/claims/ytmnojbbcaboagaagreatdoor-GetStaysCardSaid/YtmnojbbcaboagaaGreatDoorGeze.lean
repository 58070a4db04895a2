/- Ge: walks and plain laws, joined: PinTab PinRange Query4. Conditions: at each theorem. -/
import Derived.Test.YtmnojbbcaboagaaGreatDoorGezb
import Derived.Test.YtmnojbbcaboagaaGreatDoorGezd
import Derived.MapKept
import Derived.Carry
import Derived.Maps.RangeRun
import Derived.Maps.RangeWalk
import Derived.Test.YtmnojbbcaboagaaGreatDoorGen

namespace Go.Proofs.Pw
open Go.RowKit
open Go.Lib hiding intOf
abbrev PinB := ByteArray × ByteArray × Bool
def pinV (p : ByteArray × Bool) : Value := .agg #[.string p.1, .bool p.2]
def pinT (p : PinB) : PinM := ⟨p.1.data.toList, p.2.1.data.toList, p.2.2⟩
def pinFind (S : List PinB) (k : ByteArray) : Option PinB := S.find? fun p => decide (p.1 = k)
def noPin : ByteArray × Bool := (⟨#[]⟩, false)
structure PinsIn (w : World) (b : Nat) (S : List PinB) (es : Array MapEntry) (clock : Nat) : Prop where
  blk : w.heap[b]? = some (.map es clock)
  st : MapKept.Stamped es clock
  ents : es.toList.map (fun e => (e.key, e.val)) = S.map fun p => (.string p.1, pinV p.2)
def PinTab (w : World) (b : Nat) (S : List PinB) : Prop := ∃ es clock, PinsIn w b S es clock
theorem PinsIn.len {w : World} {b : Nat} {S : List PinB} {es : Array MapEntry} {clock : Nat} (h : PinsIn w b S es clock) : es.size = S.length := by
  have := congrArg List.length h.ents
  simpa using this
theorem PinsIn.get {w : World} {b : Nat} {S : List PinB} {es : Array MapEntry} {clock : Nat} (h : PinsIn w b S es clock) {j : Nat} {e : MapEntry} (he : es[j]? = some e) : ∃ p, S[j]? = some p ∧ e.key = .string p.1 ∧ e.val = pinV p.2 := by
  have h1 := congrArg (fun l : List (Value × Value) => l[j]?) h.ents
  simp only [List.getElem?_map] at h1
  rw [Array.getElem?_toList, he, Option.map_some] at h1
  obtain ⟨p, hp, e2⟩ := Option.map_eq_some_iff.1 h1.symm
  injection e2 with e3 e4
  exact ⟨p, hp, e3.symm, e4.symm⟩
theorem PinsIn.keys {w : World} {b : Nat} {S : List PinB} {es : Array MapEntry} {clock : Nat} (h : PinsIn w b S es clock) : ∀ x ∈ es.toList, MapKept.IsKey .string x.key := by
  intro x hx
  obtain ⟨j, hj⟩ := List.mem_iff_getElem?.1 hx
  rw [Array.getElem?_toList] at hj
  obtain ⟨p, _, hk, _⟩ := h.get hj
  rw [hk]
  trivial
theorem PinsIn.nodup {w : World} {b : Nat} {S : List PinB} {es : Array MapEntry} {clock : Nat} (h : PinsIn w b S es clock) : (S.map (·.1)).Nodup := by
  have h1 := h.st.2.2
  have e : es.toList.map (·.key) = (S.map (·.1)).map Value.string := by
    have := congrArg (List.map Prod.fst) h.ents
    rw [List.map_map, List.map_map] at this
    rw [List.map_map]
    exact this
  rw [e, List.nodup_iff_pairwise_ne, List.pairwise_map] at h1
  exact h1.imp fun h e => h (by rw [e])
theorem PinTab.below {w w' : World} {b : Nat} {S : List PinB} (h : PinTab w b S) (hb : Below w.heap.size w w') : PinTab w' b S := by
  obtain ⟨es, clock, h1, h2, h3⟩ := h
  exact ⟨es, clock, by rw [hb.block b (Array.getElem?_eq_some_iff.1 h1).1]; exact h1, h2, h3⟩
theorem PinTab.lt {w : World} {b : Nat} {S : List PinB} (h : PinTab w b S) : b < w.heap.size := by
  obtain ⟨es, clock, h1, _⟩ := h
  exact (Array.getElem?_eq_some_iff.1 h1).1
theorem pinTab_made (w : World) : PinTab (w.alloc (.map #[] 0)) w.heap.size [] := ⟨#[], 0, Go.Deep.blk_alloc_new w _, MapKept.stamped_empty 0, rfl⟩
theorem PinTab.nodup {w : World} {b : Nat} {S : List PinB} (h : PinTab w b S) : ((S.map pinT).map (·.path)).Nodup := by
  obtain ⟨es, clock, h1⟩ := h
  have := h1.nodup
  rw [List.map_map]
  have e : S.map ((fun x : PinM => x.path) ∘ pinT) = (S.map (·.1)).map fun b : ByteArray => b.data.toList := by rw [List.map_map]; rfl
  rw [e]
  refine List.Pairwise.map _ (fun a b h e => h (bytes_eq.1 e)) this
theorem pinFind_at {S : List PinB} {k : ByteArray} {j : Nat} {p : PinB} (hn : (S.map (·.1)).Nodup) (hj : S[j]? = some p) (hk : p.1 = k) : pinFind S k = some p := by
  unfold pinFind
  induction S generalizing j with
  | nil => simp at hj
  | cons x r ih =>
    rw [List.map_cons] at hn
    obtain ⟨h1, h2⟩ := List.nodup_cons.1 hn
    rw [List.find?_cons]
    cases j with
    | zero =>
      simp only [List.getElem?_cons_zero, Option.some.injEq] at hj
      subst hj
      rw [decide_eq_true hk]
    | succ j =>
      simp only [List.getElem?_cons_succ] at hj
      rw [decide_eq_false (fun e => h1 (by rw [e, ← hk]; exact List.mem_map.2 ⟨p, List.mem_of_getElem? hj, rfl⟩))]
      exact ih h2 hj
theorem pinFind_none {S : List PinB} {k : ByteArray} (h : ∀ (j : Nat) (p : PinB), S[j]? = some p → p.1 ≠ k) : pinFind S k = none := by
  unfold pinFind
  rw [List.find?_eq_none]
  intro p hp
  obtain ⟨j, hj⟩ := List.mem_iff_getElem?.1 hp
  simp [h j p hj]
theorem PinsIn.find {w : World} {b : Nat} {S : List PinB} {es : Array MapEntry} {clock : Nat} (h : PinsIn w b S es clock) (k : ByteArray) :
    (Instr.findNow .string (.string k) es.toList 0 = some none ∧ pinFind S k = none ∧ ∀ x ∈ es.toList, x.key ≠ .string k) ∨ ∃ j e p, Instr.findNow .string (.string k) es.toList 0 = some (some (j, e.val)) ∧ es[j]? = some e ∧ S[j]? = some p ∧ p.1 = k ∧ e.key = .string k ∧ e.val = pinV p.2 ∧ pinFind S k = some p := by
  rcases MapKept.findNow_spec (d := .string) (k := .string k) trivial es.toList 0 h.keys with ⟨h1, h2⟩ | ⟨j, e, h1, h2, h3⟩
  · refine .inl ⟨h1, pinFind_none fun j p hj hk => ?_, h2⟩
    have hl : j < es.size := by rw [h.len]; exact (List.getElem?_eq_some_iff.1 hj).1
    obtain ⟨p', hp', e1, _⟩ := h.get (Array.getElem?_eq_getElem hl)
    rw [hj] at hp'
    obtain rfl := Option.some.inj hp'
    exact h2 es[j] (by simp) (by rw [e1, hk])
  · rw [Array.getElem?_toList] at h2
    obtain ⟨p, hp, e1, e2⟩ := h.get h2
    have hk : p.1 = k := by
      rw [h3] at e1
      injection e1 with e1
      exact e1.symm
    exact .inr ⟨j, e, p, by rw [h1, Nat.zero_add], h2, hp, hk, h3, e2, pinFind_at h.nodup hp hk⟩
theorem run_zero_pin (w : World) : (zeroValue 123).run Tryz.prog w = .ok (pinV noPin) w := Tryz.zeroValue123 w
theorem pin_lookup {w : World} {b : Nat} {S : List PinB} (h : PinTab w b S) (k : ByteArray) (c : Bool) :
    (Instr.lookup 69 (.map (some b)) (.string k) c).run Tryz.prog w = .ok (if c then .tuple #[pinV (((pinFind S k).map (·.2)).getD noPin), .bool (pinFind S k).isSome] else pinV (((pinFind S k).map (·.2)).getD noPin)) w := by
  obtain ⟨es, clock, hp⟩ := h
  unfold Instr.lookup
  rcases hp.find k with ⟨h1, h2, _⟩ | ⟨j, e, p, h1, h2, h3, h4, h5, h6, h7⟩
  · simp only [Sem.run_bind, run_underlying Tryz.underlying69, Result.andThen_ok, MapKept.run_getObj_map hp.blk, Sem.run_pure, MapKept.run_checkKey Tryz.underlying9 (k := .string k) trivial, MapKept.run_findKey Tryz.underlying9 h1, run_zero_pin, h2]
    cases c <;> rfl
  · simp only [Sem.run_bind, run_underlying Tryz.underlying69, Result.andThen_ok, MapKept.run_getObj_map hp.blk, Sem.run_pure, MapKept.run_checkKey Tryz.underlying9 (k := .string k) trivial, MapKept.run_findKey Tryz.underlying9 h1, h6, h7]
    cases c <;> rfl
def pinPut : List PinB → PinB → List PinB
  | [], p => [p]
  | x :: r, p => if x.1 = p.1 then p :: r else x :: pinPut r p
theorem pinPut_none : ∀ {S : List PinB} {p : PinB}, pinFind S p.1 = none → pinPut S p = S ++ [p]
  | [], p, _ => rfl
  | x :: r, p, h => by
    unfold pinFind at h
    rw [List.find?_cons] at h
    by_cases hx : x.1 = p.1
    · rw [decide_eq_true hx] at h; cases h
    · rw [decide_eq_false hx] at h
      rw [pinPut, if_neg hx, pinPut_none h]
      rfl
theorem pinPut_at : ∀ {S : List PinB} {p q : PinB} {j : Nat}, (S.map (·.1)).Nodup → S[j]? = some q → q.1 = p.1 → pinPut S p = S.set j p
  | x :: r, p, q, 0, _, hj, hq => by
    simp only [List.getElem?_cons_zero, Option.some.injEq] at hj
    subst hj
    rw [pinPut, if_pos hq]
    rfl
  | x :: r, p, q, j + 1, hn, hj, hq => by
    rw [List.map_cons] at hn
    obtain ⟨h1, h2⟩ := List.nodup_cons.1 hn
    simp only [List.getElem?_cons_succ] at hj
    rw [pinPut, if_neg (fun e => h1 (by rw [e, ← hq]; exact List.mem_map.2 ⟨q, List.mem_of_getElem? hj, rfl⟩)), pinPut_at h2 hj hq]
    rfl
theorem pin_store {w : World} {b : Nat} {S : List PinB} (h : PinTab w b S) (k : ByteArray) (v : ByteArray × Bool) :
    ∃ w', (Instr.mapUpdate 69 (.map (some b)) (.string k) (pinV v)).run Tryz.prog w = .ok () w' ∧ PinTab w' b (pinPut S (k, v)) ∧ Kept b w w' := by
  obtain ⟨es, clock, hp⟩ := h
  unfold Instr.mapUpdate
  rcases hp.find k with ⟨h1, h2, h3⟩ | ⟨j, e, p, h1, h2, h3, h4, h5, h6, h7⟩
  · have hh := MapKept.heap_set (o' := .map (es.push { key := .string k, val := pinV v, born := clock }) (clock + 1)) hp.blk
    refine ⟨{ w with heap := w.heap.setIfInBounds b (.map (es.push { key := .string k, val := pinV v, born := clock }) (clock + 1)) }, ?_, ⟨_, _, hh.1, MapKept.stamped_push hp.st h3, ?_⟩, ⟨rfl, rfl, rfl, by simp, fun i _ hi => hh.2 i hi⟩⟩
    · simp only [Sem.run_bind, run_underlying Tryz.underlying69, Result.andThen_ok, MapKept.run_getObj_map hp.blk, MapKept.run_checkKey Tryz.underlying9 (k := .string k) trivial, MapKept.run_findKey Tryz.underlying9 h1, MapKept.run_setObj_map _ hp.blk]
    · rw [pinPut_none (p := (k, v)) h2]
      simp [hp.ents]
  · have hh := MapKept.heap_set (o' := .map (es.modify j fun e => { e with key := .string k, val := pinV v }) clock) hp.blk
    have hkey : ∀ e', es[j]? = some e' → ({ e' with key := .string k, val := pinV v } : MapEntry).key = e'.key := fun e' he' => by rw [h2] at he'; cases he'; exact h5.symm
    refine ⟨{ w with heap := w.heap.setIfInBounds b (.map (es.modify j fun e => { e with key := .string k, val := pinV v }) clock) }, ?_, ⟨_, _, hh.1, MapKept.stamped_modify hp.st _ _ (fun _ _ => rfl) (fun e' _ he' => hkey e' he'), ?_⟩, ⟨rfl, rfl, rfl, by simp, fun i _ hi => hh.2 i hi⟩⟩
    · have hrk := fun (W : World) => MapKept.run_keyThatStays (P := Tryz.prog) (w := W) (d := .string) (k := .string k) trivial
      simp only [Sem.run_bind, run_underlying Tryz.underlying69, Result.andThen_ok, MapKept.run_getObj_map hp.blk, MapKept.run_checkKey Tryz.underlying9 (k := .string k) trivial, MapKept.run_findKey Tryz.underlying9 h1, h2, Option.map_some, Option.getD_some, h5, hrk, MapKept.run_setObj_map _ hp.blk]
    · rw [pinPut_at (p := (k, v)) hp.nodup h3 h4]
      apply List.ext_getElem?
      intro i
      have hi := congrArg (fun l : List (Value × Value) => l[i]?) hp.ents
      simp only [List.getElem?_map, Array.getElem?_toList] at hi
      simp only [List.getElem?_map, Array.getElem?_toList, Array.getElem?_modify, List.getElem?_set]
      by_cases hij : j = i
      · subst hij
        rw [if_pos rfl, if_pos rfl, h2, if_pos (List.getElem?_eq_some_iff.1 h3).1]
        rfl
      · rw [if_neg hij, if_neg hij]
        exact hi
theorem pinAdd_put : ∀ {S : List PinB} {p : PinB}, (∀ x, pinFind S p.1 = some x → x.2.2 = true ∧ p.2.2 = false) → pinAdd (S.map pinT) (pinT p) = some ((pinPut S p).map pinT)
  | [], p, _ => rfl
  | x :: r, p, h => by
    unfold pinFind at h
    rw [List.find?_cons] at h
    rw [List.map_cons, pinAdd, pinPut]
    by_cases hx : x.1 = p.1
    · rw [decide_eq_true hx] at h
      have h1 := h x rfl
      have h2 : (pinT x).wild = true ∧ (pinT p).wild = false := h1
      rw [if_pos (show (pinT x).path = (pinT p).path from congrArg (fun b : ByteArray => b.data.toList) hx), if_pos (.inl h2), if_pos hx]
      unfold pinOne
      rw [if_pos h2]
      rfl
    · rw [decide_eq_false hx] at h
      rw [if_neg (show ¬ (pinT x).path = (pinT p).path from fun e => hx (bytes_eq.1 e)), if_neg hx, pinAdd_put h]
      rfl
theorem pinAdd_was : ∀ {S : List PinB} {p x : PinB}, pinFind S p.1 = some x → ¬ (x.2.2 = true ∧ p.2.2 = false) → pinAdd (S.map pinT) (pinT p) = if x.2.2 = p.2.2 ∧ x.2.1 ≠ p.2.1 then none else some (S.map pinT)
  | y :: r, p, x, h, hn => by
    unfold pinFind at h
    rw [List.find?_cons] at h
    rw [List.map_cons, pinAdd]
    by_cases hx : y.1 = p.1
    · rw [decide_eq_true hx] at h
      obtain rfl := Option.some.inj h
      have hn' : ¬ ((pinT y).wild = true ∧ (pinT p).wild = false) := hn
      rw [if_pos (show (pinT y).path = (pinT p).path from congrArg (fun b : ByteArray => b.data.toList) hx)]
      have e : pinBad (pinT y) (pinT p) = decide (y.2.2 = p.2.2 ∧ y.2.1 ≠ p.2.1) := by
        unfold pinBad
        exact decide_eq_decide.2 ⟨fun h => ⟨h.1, fun e => h.2 (congrArg (fun b : ByteArray => b.data.toList) e)⟩, fun h => ⟨h.1, fun e => h.2 (bytes_eq.1 e)⟩⟩
      by_cases hb : y.2.2 = p.2.2 ∧ y.2.1 ≠ p.2.1
      · rw [if_neg (by rw [e, decide_eq_true hb]; simpa using hn'), if_pos hb]
      · rw [if_pos (.inr (by rw [e, decide_eq_false hb]; simp)), if_neg hb]
        unfold pinOne
        rw [if_neg hn']
    · rw [decide_eq_false hx] at h
      rw [if_neg (show ¬ (pinT y).path = (pinT p).path from fun e => hx (bytes_eq.1 e)), pinAdd_was h hn]
      split <;> rfl
theorem pinFind_T {S : List PinB} {k : ByteArray} : pinAt (S.map pinT) k.data.toList = (pinFind S k).map pinT := by
  induction S with
  | nil => rfl
  | cons x r ih =>
    unfold pinAt pinFind at ih ⊢
    rw [List.map_cons, List.find?_cons, List.find?_cons]
    by_cases hx : x.1 = k
    · rw [decide_eq_true hx, decide_eq_true (show (pinT x).path = k.data.toList from congrArg (fun b : ByteArray => b.data.toList) hx)]
      rfl
    · rw [decide_eq_false hx, decide_eq_false (show ¬ (pinT x).path = k.data.toList from fun e => hx (bytes_eq.1 e))]
      exact ih
end Go.Proofs.Pw

namespace Go.Proofs.Pw
open Go.RowKit
open Go.Lib hiding intOf
def pinOfE (e : MapEntry) : PinB := match e.key, e.val with
  | .string k, .agg #[.string v, .bool b] => (k, v, b)
  | _, _ => (⟨#[]⟩, ⟨#[]⟩, false)
def doneL (es : List MapEntry) (seen : Array Nat) : List PinB := (es.filter fun e => seen.contains e.born).map pinOfE
theorem pinOfE_is {e : MapEntry} {p : PinB} (h1 : e.key = .string p.1) (h2 : e.val = pinV p.2) : pinOfE e = p := by
  unfold pinOfE
  rw [h1, h2]
  rfl
theorem doneL_other (seen : Array Nat) (b : Nat) : ∀ (es : List MapEntry), b ∉ es.map (·.born) → doneL es (seen.push b) = doneL es seen
  | [], _ => rfl
  | x :: l, h => by
    have hx : (x.born == b) = false := by
      cases hc : x.born == b with
      | false => rfl
      | true => exact absurd (List.mem_cons.2 (Or.inl (beq_iff_eq.1 hc).symm)) h
    have ih := doneL_other seen b l (fun e => h (List.mem_cons.2 (Or.inr e)))
    unfold doneL at ih ⊢
    rw [List.filter_cons, List.filter_cons, contains_push, hx, Bool.or_false]
    split
    · rw [List.map_cons, List.map_cons, ih]
    · exact ih
theorem doneL_push (seen : Array Nat) (e : MapEntry) (hs : seen.contains e.born = false) : ∀ (es : List MapEntry), (es.map (·.born)).Nodup → e ∈ es → (doneL es (seen.push e.born)).Perm (pinOfE e :: doneL es seen)
  | x :: l, hn, he => by
    have hn' : x.born ∉ l.map (·.born) ∧ (l.map (·.born)).Nodup := List.nodup_cons.1 hn
    rcases List.mem_cons.1 he with rfl | h
    · have h1 := doneL_other seen e.born l hn'.1
      unfold doneL at h1 ⊢
      rw [List.filter_cons, List.filter_cons, contains_push, beq_self_eq_true, Bool.or_true, if_pos rfl, hs, if_neg (by simp), List.map_cons, h1]
    · have hx : (x.born == e.born) = false := by
        cases hc : x.born == e.born with
        | false => rfl
        | true => exact absurd (by rw [beq_iff_eq.1 hc]; exact List.mem_map.2 ⟨e, h, rfl⟩) hn'.1
      have ih := doneL_push seen e hs l hn'.2 h
      unfold doneL at ih ⊢
      rw [List.filter_cons, List.filter_cons, contains_push, hx, Bool.or_false]
      split
      · rw [List.map_cons, List.map_cons]
        exact (ih.cons _).trans (List.Perm.swap _ _ _)
      · exact ih
theorem doneL_all {w : World} {b : Nat} {S : List PinB} {es : Array MapEntry} {clock : Nat} (h : PinsIn w b S es clock) {seen : Array Nat} (h0 : (leftOf es seen).size = 0) : doneL es.toList seen = S := by
  unfold doneL
  rw [List.filter_eq_self.2 (all_seen es seen h0)]
  apply List.ext_getElem?
  intro j
  by_cases hj : j < es.size
  · obtain ⟨p, hp, e1, e2⟩ := h.get (Array.getElem?_eq_getElem hj)
    rw [List.getElem?_map, Array.getElem?_toList, Array.getElem?_eq_getElem hj, Option.map_some, pinOfE_is e1 e2, hp]
  · rw [List.getElem?_eq_none (by simpa using hj), List.getElem?_eq_none (by rw [← h.len]; omega)]
structure Ranging (w : World) (b r : Nat) (S D : List PinB) (left : Nat) (es : Array MapEntry) (clock since : Nat) (seen : Array Nat) (c0 : Nat) : Prop where
  map : PinsIn w b S es clock
  iter : w.heap[r]? = some (.mapIter (some b) since seen c0)
  old : ∀ x ∈ es.toList, x.born < since
  le : since ≤ c0
  cl : since ≤ clock
  left : (leftOf es seen).size = left
  done : D.Perm (doneL es.toList seen)
def RangeP (w : World) (b r : Nat) (S D : List PinB) (left : Nat) : Prop := ∃ es clock since seen c0, Ranging w b r S D left es clock since seen c0
theorem RangeP.left_eq {w : World} {b r : Nat} {S D : List PinB} {left : Nat} (h : RangeP w b r S D left) : w.rangeLeft b r = left := by
  obtain ⟨es, clock, since, seen, c0, h⟩ := h
  simp only [World.rangeLeft, h.map.blk, h.iter]
  exact h.left
theorem RangeP.kept {w w' : World} {b r : Nat} {S D : List PinB} {left : Nat} {row : Option Nat} (h : RangeP w b r S D left) (hg : w.grownBy w' row) (hb' : some b ≠ row) (hr' : some r ≠ row) : RangeP w' b r S D left := by
  obtain ⟨es, clock, since, seen, c0, h⟩ := h
  have h1 := (Array.getElem?_eq_some_iff.1 h.map.blk).1
  have h2 := (Array.getElem?_eq_some_iff.1 h.iter).1
  exact ⟨es, clock, since, seen, c0, ⟨(hg.block b h1 hb').trans h.map.blk, h.map.st, h.map.ents⟩, (hg.block r h2 hr').trans h.iter, h.old, h.le, h.cl, h.left, h.done⟩
theorem RangeP.below {w w' : World} {b r : Nat} {S D : List PinB} {left : Nat} (h : RangeP w b r S D left) (hb : Below w.heap.size w w') : RangeP w' b r S D left := by
  obtain ⟨es, clock, since, seen, c0, h⟩ := h
  have h1 := (Array.getElem?_eq_some_iff.1 h.map.blk).1
  have h2 := (Array.getElem?_eq_some_iff.1 h.iter).1
  exact ⟨es, clock, since, seen, c0, ⟨(hb.block b h1).trans h.map.blk, h.map.st, h.map.ents⟩, (hb.block r h2).trans h.iter, h.old, h.le, h.cl, h.left, h.done⟩
theorem RangeP.perm {w : World} {b r : Nat} {S D : List PinB} (h : RangeP w b r S D 0) : D.Perm S := by
  obtain ⟨es, clock, since, seen, c0, h⟩ := h
  have h1 := h.done
  rw [doneL_all h.map h.left] at h1
  exact h1
theorem RangeP.lt {w : World} {b r : Nat} {S D : List PinB} {left : Nat} (h : RangeP w b r S D left) : b < w.heap.size ∧ r < w.heap.size ∧ r ≠ b := by
  obtain ⟨es, clock, since, seen, c0, h⟩ := h
  refine ⟨(Array.getElem?_eq_some_iff.1 h.map.blk).1, (Array.getElem?_eq_some_iff.1 h.iter).1, fun e => ?_⟩
  have h1 := h.iter
  rw [e, h.map.blk] at h1
  cases h1
theorem rangeP_start {w : World} {b : Nat} {S : List PinB} {es : Array MapEntry} {clock : Nat} (h : PinsIn w b S es clock) : RangeP (w.alloc (.mapIter (some b) clock #[] clock)) b w.heap.size S [] es.size := by
  have hl := (Array.getElem?_eq_some_iff.1 h.blk).1
  refine ⟨es, clock, clock, #[], clock, ⟨⟨by rw [heap_alloc_old w _ hl]; exact h.blk, h.st, h.ents⟩, heap_alloc_new w _, h.st.1, Nat.le_refl _, Nat.le_refl _, ?_, ?_⟩⟩
  · unfold leftOf
    rw [Array.filter_eq_self.2 (fun x _ => by simp)]
  · unfold doneL
    rw [List.filter_eq_nil_iff.2 (fun x _ => by simp)]
    exact List.Perm.nil
theorem grownBy_setBlock {w w1 : World} {r : Nat} {m : Option Nat} {s : Nat} {seen : Array Nat} {c : Nat} (hr : w.heap[r]? = some (.mapIter m s seen c)) (h : w1 = w ∨ w1 = w.drew) (o : Obj) : w.grownBy (Go.ChangeMaps.setBlock w1 r o) (some r) ∧ (Go.ChangeMaps.setBlock w1 r o).heap.size = w.heap.size ∧ (Go.ChangeMaps.setBlock w1 r o).heap[r]? = some o := by
  have hl := (Array.getElem?_eq_some_iff.1 hr).1
  have e : w1.heap = w.heap := by rcases h with rfl | rfl <;> rfl
  have e1 : w1.os = w.os ∧ w1.tape = w.tape ∧ w1.output = w.output := by rcases h with rfl | rfl <;> exact ⟨rfl, rfl, rfl⟩
  have hh : (Go.ChangeMaps.setBlock w1 r o).heap = w.heap.setIfInBounds r o := by
    show w1.heap.setIfInBounds r o = _
    rw [e]
  refine ⟨⟨e1.1, e1.2.1, e1.2.2, by rw [hh]; simp, fun i hi hne => ?_⟩, by rw [hh]; simp, by rw [hh]; simp [hl]⟩
  rw [hh, Array.getElem?_setIfInBounds_ne (fun e => hne (by rw [e]))]
structure PinBox where
  p : PinB
section
variable {P : Program} (w : World) {ops : Array Oper} {rest : List Oper} {o : Oper} {a : Act} {Q : Exit → Act → World → Prop}
theorem wpList_next_pins (hg : o.guard = none) (it : Operand) (hop : o.op = Op.next it false) (b r : Nat) (S D : List PinB) (left : Nat)
    (hit : a.eval it = .pointer (some ⟨r, 0, none⟩)) (h : RangeP w b r S D left)
    (hDone : left = 0 → wpList P ops Q rest (a.put o.dst (.tuple #[.bool false])) w)
    (hMore : ∀ (p : PinBox) (w' : World) (left' : Nat), left' < left → p.p ∈ S → RangeP w' b r S (D ++ [p.p]) left' → w.grownBy w' (some r) → w'.heap.size = w.heap.size → (Instr.entry (.pointer (some ⟨r, 0, none⟩))).run P w' = .ok (.tuple #[.string p.p.1, pinV p.p.2]) w' → wpList P ops Q rest (a.put o.dst (.tuple #[.bool true, .string p.p.1, pinV p.p.2])) w') :
    wpList P ops Q (o :: rest) a w := by
  refine wpList_plain hg fun K' hK' => ?_
  unfold Oper.wp
  obtain ⟨es, clock, since, seen, c0, h⟩ := h
  rcases run_next_at (P := P) w o.type r b since c0 seen es clock h.iter h.map.blk h.old h.le with ⟨h0, hrun⟩ | ⟨e, he, w1, hw1, hrun⟩
  · simp [execOp, hop, hit, hrun, Result.andThen]
    exact hK' _ _ (hDone (by rw [← h.left]; exact h0))
  · obtain ⟨hem, hes⟩ := mem_left he
    obtain ⟨j, hj⟩ := List.mem_iff_getElem?.1 hem
    rw [Array.getElem?_toList] at hj
    obtain ⟨p, hp, e1, e2⟩ := h.map.get hj
    obtain ⟨g1, g2, g3⟩ := grownBy_setBlock h.iter hw1 (.mapIter (some b) since (seen.push e.born) clock)
    have hl := (Array.getElem?_eq_some_iff.1 h.map.blk).1
    have hne : b ≠ r := fun e => by have h1 := h.iter; rw [← e, h.map.blk] at h1; cases h1
    generalize Go.ChangeMaps.setBlock w1 r (.mapIter (some b) since (seen.push e.born) clock) = w2 at *
    have hm : PinsIn w2 b S es clock := ⟨(g1.block b hl (fun e => hne (Option.some.inj e))).trans h.map.blk, h.map.st, h.map.ents⟩
    have hen := run_entry_at (P := P) w2 r b since seen es clock e g3 hm.blk hem h.map.st.2.1
    rw [e1, e2] at hrun hen
    simp [execOp, hop, hit, hrun, Result.andThen]
    refine hK' _ _ (hMore ⟨p⟩ w2 _ ?_ (List.mem_of_getElem? hp) ⟨es, clock, since, seen.push e.born, clock, hm, g3, h.old, h.cl, h.cl, rfl, ?_⟩ g1 g2 hen)
    · rw [← h.left]; exact left_shrinks es seen e he
    · have h1 := doneL_push seen e hes es.toList h.map.st.2.1 hem
      rw [pinOfE_is e1 e2] at h1
      exact ((List.perm_append_singleton p D).trans (h.done.cons p)).trans h1.symm
end
end Go.Proofs.Pw

namespace Go.Proofs.Pw
open Go.RowKit Go.Sort
open Go.Lib hiding intOf
theorem enters_patch1 : ∀ args w, (callFunc 257 args).run Tryz.prog w = .ok (.enter 257 args) w := Go.Proofs.enters_of Tryz.func257 (by kernel_rfl) rfl
set_option maxHeartbeats 1000000 in
set_option maxRecDepth 100000 in
theorem patch1_in (ks : List Nat) (A : Nat → Addr) (b1 b2 : Nat) (head now s : ByteArray) (w : World) (hE : EnvP ks A w) (hh : head.size ≤ 1000000) (hn : now.size ≤ 1000000) (hs : s.size ≤ 1000000) (z1 : w.cell? ⟨b1, 0, none⟩ = some (.string head)) (z2 : w.cell? ⟨b2, 0, none⟩ = some (.string now)) :
    Calls Tryz.prog 257 #[.string s, .pointer (some ⟨b1, 0, none⟩), .pointer (some ⟨b2, 0, none⟩)] w fun e w' => e = .returned (.bool (!verBegins s.data.toList head.data.toList || verLess s.data.toList now.data.toList)) ∧ Below w.heap.size w w' := by
  have hw := verBegins_calls ks A s head w hE (by omega) (by omega)
  have hl := fun (W : World) (hb : Below w.heap.size w W) => verLess_calls ks A s now W (hE.below hb) (by omega) (by omega)
  generalize verBegins s.data.toList head.data.toList = X at hw ⊢
  generalize verLess s.data.toList now.data.toList = D at hl ⊢
  replace hw := Lib.hid hw
  replace hl := Lib.hid hl
  clear hE
  cases X with
  | false =>
    go_enter Tryz.func257, Tryz.ntmps257
    go_wp2_with fail
    refine hw.out.mono ?_
    rintro e w1 ⟨rfl, hb⟩
    go_wp2_with fail
    go_ret
    exact ⟨rfl, hb⟩
  | true =>
    go_enter Tryz.func257, Tryz.ntmps257
    go_wp2_with fail
    refine hw.out.mono ?_
    rintro e w1 ⟨rfl, hb⟩
    replace z2 := Below.cell_some hb z2
    go_wp2_with fail
    refine (hl.out _ hb).mono ?_
    rintro e w2 ⟨rfl, hb2⟩
    go_wp2_with fail
    go_ret
    exact ⟨by simp, below_step hb hb2⟩
structure BoxP (w : World) (k : Nat) (v : Value) : Prop where
  c0 : w.cell? ⟨k, 0, none⟩ = some v
  fz : ∀ i, w.frozen? ⟨k, i, none⟩ = false
theorem BoxP.new (w : World) (v : Value) (t : TypeId) : BoxP (w.alloc (.cells #[v] t)) w.heap.size v := ⟨by simp, fun i => by simp⟩
theorem BoxP.below {w w' : World} {k : Nat} {v : Value} (h : BoxP w k v) (hb : Below w.heap.size w w') : BoxP w' k v :=
  ⟨Below.cell_some hb h.c0, fun i => (hb.frozen (p := ⟨k, i, none⟩) (show k < w.heap.size from lt_of_cell h.c0)).trans (h.fz i)⟩
theorem BoxP.kept {w w' : World} {v : Value} {t : TypeId} (hb : Below (w.alloc (.cells #[v] t)).heap.size (w.alloc (.cells #[v] t)) w') : BoxP w' w.heap.size v := (BoxP.new w v t).below hb
theorem BoxP.set {w : World} {k : Nat} {v : Value} (h : BoxP w k v) (u : Value) : BoxP (w.setCell ⟨k, 0, none⟩ u) k u := ⟨World.cell?_setCell_same _ _ _ h.c0, fun i => by simpa using h.fz i⟩
theorem patchDel (ks : List Nat) (A : Nat → Addr) (hd now : ByteArray) (B kb : Nat) (v : Value) (l : List Str) (w wf : World) (HEB : ∀ W, Below B w W → EnvP ks A W) (hh : hd.size ≤ 1000000) (hnow : now.size ≤ 1000000) (hB0 : B ≤ w.heap.size) (hF : FreshS B w v l) (hl : l.length ≤ 1000000) (hls : ∀ x ∈ l, x.length ≤ 1000000) (hC : Below w.heap.size w wf) (hkb : w.heap.size ≤ kb) (z0 : wf.cell? ⟨w.heap.size, 0, none⟩ = some (.string now)) (zk : wf.cell? ⟨kb, 0, none⟩ = some (.string hd)) (hhd : hd.data.toList = patchHead now.data.toList) (W : World) (hW : Below wf.heap.size wf W) :
    Calls Tryz.prog 139 #[v, .func (.func 257) #[] #[.pointer (some ⟨kb, 0, none⟩), .pointer (some ⟨w.heap.size, 0, none⟩)]] W fun e w' => (∃ v', e = .returned v' ∧ StrsAt w' v' (l.filter fun s => !patchOut now.data.toList s)) ∧ Below B w w' := by
  have hR : ∀ k c, v = .slice (some ⟨k, 0, none⟩) l.length c → B ≤ k ∧ k < w.heap.size := fun k c e => by
    rcases hF with ⟨h1, _⟩ | ⟨g, c', h1, h2, h3, _⟩
    · rw [h1] at e; cases e
    · rw [h1] at e; cases e; exact ⟨h2, h3⟩
  have hCW := below_step hC hW
  have hs := hCW.size
  refine (delK_calls 257 #[.pointer (some ⟨kb, 0, none⟩), .pointer (some ⟨w.heap.size, 0, none⟩)] enters_patch1 (fun s => patchOut now.data.toList s) B v l W (by omega) hl (hF.below hCW) (fun k c e W' hW' s hs' => ?_)).mono ?_
  · have hk := hR k c e
    have h1 := patch1_in ks A kb w.heap.size hd now ⟨s.toArray⟩ W' (HEB W' ((hCW.mono hB0).trans (hW'.below hk.1 (by omega)))) hh hnow (by have := hls s hs'; simpa [ByteArray.size] using this) (hW'.cell (Below.cell_some hW zk) (fun e => by have e' : kb = k := e; omega)) (hW'.cell (Below.cell_some hW z0) (fun e => by have e' : w.heap.size = k := e; omega))
    rw [hhd] at h1
    simpa [patchOut] using h1
  · rintro e w' ⟨h1, h2, _⟩
    exact ⟨h1, (hCW.mono hB0).trans h2⟩
set_option maxHeartbeats 8000000 in
set_option maxRecDepth 100000 in
theorem qPatch_in (ks : List Nat) (A : Nat → Addr) (h5 : 5 ∈ ks) (a : Option Addr) (n cap : Nat) (P V : Nat → ByteArray) (R : Nat → List Md) (K : Nat → List Str) (Bk : Nat → Bool) (Rv Kv : Nat → Value) (p now : ByteArray) (B : Nat) (v : Value) (l : List Str) (w : World) (hE : EnvP ks A w) (_h : EntsIn w a n cap P V R K Bk Rv Kv) (hn : n ≤ 1000000) (hnow : now.size ≤ 1000000) (hB0 : B ≤ w.heap.size) (hEB : ∀ W, Below B w W → EnvP ks A W) (hIB : ∀ W, Below B w W → EntsIn W a n cap P V R K Bk Rv Kv) (hF : FreshS B w v l) (hl : l.length ≤ 1000000) (hls : ∀ x ∈ l, x.length ≤ 1000000) :
    Calls Tryz.prog 205 #[.slice a n cap, .string p, .string now, v] w fun e w' => e = .returned (likedV A (patchF (enF n P V R K Bk) p.data.toList now.data.toList l)) ∧ Below B w w' := by
  have hb0 := below_alloc w (.cells #[.string now] 9)
  have z0 : (w.alloc (.cells #[.string now] 9)).cell? ⟨w.heap.size, 0, none⟩ = some (.string now) := by simp
  have hsp := fun (W : World) (hb : Below w.heap.size w W) => verSplit_calls ks A now W (hE.below hb) (by omega)
  have HLI := Lib.hid (fun (sv : Value) (vs : List Str) (W : World) (hb : Below B w W) (hv : StrsAt W sv vs) (h1 : vs.length ≤ 1000000) (h2 : ∀ x ∈ vs, x.length ≤ 1000000) => qLiked_in ks A h5 a n cap P V R K Bk Rv Kv p sv vs false W (hEB W hb) (hIB W hb) hn hv h1 h2)
  have hPF : patchF (enF n P V R K Bk) p.data.toList now.data.toList l = if verErr now.data.toList ≠ 0 then likedF (enF n P V R K Bk) p.data.toList l false else likedF (enF n P V R K Bk) p.data.toList (l.filter fun s => !patchOut now.data.toList s) false := rfl
  generalize patchF (enF n P V R K Bk) p.data.toList now.data.toList l = PF at hPF ⊢
  have HPF := Lib.hid hPF
  obtain ⟨EV, hEV⟩ : ∃ x, x = errV A (if PF.isNone then 5 else 0) := ⟨_, rfl⟩
  obtain ⟨SV, hSV⟩ : ∃ x : ByteArray, x = ⟨(PF.getD []).toArray⟩ := ⟨_, rfl⟩
  have HLV : Hid (likedV A PF = .tuple #[.string SV, EV]) := Lib.hid (by rw [likedV_is, hEV, hSV])
  have HF := Lib.hid hF
  have HEB := Lib.hid hEB
  have HLL := Lib.hid (And.intro hl hls)
  have HE0 := Lib.hid (fun (W : World) (hb : Below w.heap.size w W) => hE.below hb)
  replace hsp := Lib.hid hsp
  clear hE _h hPF hEV hSV hF hEB hIB hl hls
  go_enter Tryz.func205, Tryz.ntmps205
  go_wp2_with fail
  generalize w.alloc (.cells #[.string now] 9) = w0 at *
  refine (hsp.out _ hb0).mono ?_
  rintro e w1 ⟨hb, va, rfl, hs1⟩
  obtain ⟨a1, m1, c1, _, rfl, _⟩ := hs1
  obtain ⟨N0, hN0⟩ : ∃ N, verNum now.data.toList 0 = N := ⟨_, rfl⟩
  obtain ⟨N1, hN1⟩ : ∃ N, verNum now.data.toList 1 = N := ⟨_, rfl⟩
  rw [hN0, hN1]
  generalize verNum now.data.toList 2 = N2
  have hba := below_alloc w1 (.cells #[.int .i64 (N0 : Nat), .int .i64 (N1 : Nat), .int .i64 (N2 : Nat), .slice a1 m1 c1] 83)
  have y0 := new_cell w1 [.int .i64 (N0 : Nat), .int .i64 (N1 : Nat), .int .i64 (N2 : Nat), .slice a1 m1 c1] 83 rfl (c := 0) rfl
  have y1 := new_cell w1 [.int .i64 (N0 : Nat), .int .i64 (N1 : Nat), .int .i64 (N2 : Nat), .slice a1 m1 c1] 83 rfl (c := 1) rfl
  have hwb : w.heap.size < w1.heap.size := Nat.lt_of_lt_of_le (lt_of_cell z0) hb.size
  replace hb := below_step hb hba
  replace z0 := Below.cell_some hb z0
  have hC := below_step hb0 hb
  have HN := Lib.hid (And.intro hN0 hN1)
  clear hb hba hb0 hsp hN0 hN1
  by_cases hv0 : verErr now.data.toList = 0
  · rw [hv0, errV_zero]
    have HPF1 : Hid (PF = likedF (enF n P V R K Bk) p.data.toList (l.filter fun s => !patchOut now.data.toList s) false) := Lib.hid (by rw [HPF.out, if_neg (by simp [hv0])])
    clear HPF
    go_wp2_with fail
    generalize w1.alloc (.cells #[.int .i64 (N0 : Nat), .int .i64 (N1 : Nat), .int .i64 (N2 : Nat), .slice a1 m1 c1] 83) = w2 at *
    generalize w1.heap.size = b1 at *
    have hN := HN.out
    have hit := fun (k : Nat) (hk : k ≤ 999999) (W : World) (hb : Below w2.heap.size w2 W) => itoa_calls ks A k W (HE0.out W (below_step hC hb)) (by omega)
    have hk0 : N0 ≤ 999999 := by rw [← hN.1]; exact verNum_le _ _
    have hk1 : N1 ≤ 999999 := by rw [← hN.2]; exact verNum_le _ _
    have HK := Lib.hid (And.intro hk0 hk1)
    have hit0 := hit N0 hk0
    have hit1 := hit N1 hk1
    obtain ⟨I0, hI0⟩ : ∃ x : ByteArray, x = ⟨(Lib.itoa (N0 : Nat)).toArray⟩ := ⟨_, rfl⟩
    obtain ⟨I1, hI1⟩ : ∃ x : ByteArray, x = ⟨(Lib.itoa (N1 : Nat)).toArray⟩ := ⟨_, rfl⟩
    rw [← hI0] at hit0
    rw [← hI1] at hit1
    have hz0 : I0.size ≤ 20 := by rw [hI0]; have := itoa_len (x := (N0 : Int)) (by omega) (by omega); simpa [ByteArray.size] using this
    have hz1 : I1.size ≤ 20 := by rw [hI1]; have := itoa_len (x := (N1 : Int)) (by omega) (by omega); simpa [ByteArray.size] using this
    have HZD : Hid (((⟨#[118]⟩ : ByteArray) ++ I0 ++ ⟨#[46]⟩ ++ I1).size ≤ 1000000) := Lib.hid (by
      rw [ByteArray.size_append, ByteArray.size_append, ByteArray.size_append, show (⟨#[118]⟩ : ByteArray).size = 1 from rfl, show (⟨#[46]⟩ : ByteArray).size = 1 from rfl]
      omega)
    have HII := Lib.hid (And.intro hI0 hI1)
    have HY := Lib.hid (And.intro y0 y1)
    have hbW := (Below.refl w2.heap.size w2).drew
    have hq1 : ¬ 9223372036854775807 < 1 + I0.size := by omega
    have hq2 : ¬ 9223372036854775807 < 1 + I0.size + 1 := by omega
    have hq3 : ¬ 9223372036854775807 < 1 + I0.size + 1 + I1.size := by omega
    replace hit0 := Lib.hid hit0
    replace hit1 := Lib.hid hit1
    clear hit hk0 hk1 hI0 hI1 hN y0 y1
    go_region_held2 (fun W => W.cell? ⟨b1, 0, none⟩ = some (.int .i64 (N0 : Nat)) ∧ W.cell? ⟨b1, 1, none⟩ = some (.int .i64 (N1 : Nat))) (first
      | with_reducible exact ⟨Below.cell_some hbW HY.out.1, Below.cell_some hbW HY.out.2⟩
      | with_reducible exact ⟨Below.cell_some (Below.alloc hbW hbW.size _) HY.out.1, Below.cell_some (Below.alloc hbW hbW.size _) HY.out.2⟩
      | with_reducible exact ⟨Below.cell_some (Below.setCell hbW (p := ⟨_, 0, none⟩) hkn _) HY.out.1, Below.cell_some (Below.setCell hbW (p := ⟨_, 0, none⟩) hkn _) HY.out.2⟩
      | with_reducible exact ⟨Below.cell_some (Below.setCell (Below.alloc hbW hbW.size _) (p := ⟨_, 0, none⟩) hbW.size _) HY.out.1, Below.cell_some (Below.setCell (Below.alloc hbW hbW.size _) (p := ⟨_, 0, none⟩) hbW.size _) HY.out.2⟩
      | with_reducible exact ⟨Below.cell_some (Below.drew (Below.alloc (Below.refl w2.heap.size w2) (Nat.le_refl _) (.cells #[.string ⟨#[]⟩] 9))) HY.out.1, Below.cell_some (Below.drew (Below.alloc (Below.refl w2.heap.size w2) (Nat.le_refl _) (.cells #[.string ⟨#[]⟩] 9))) HY.out.2⟩) (first
      | (go_at_call 162; refine (hit0.out _ hbW).mono ?_; rintro e w7 ⟨rfl, hb7⟩; replace hbW := below_step hbW hb7)
      | (go_at_call 162; refine (hit1.out _ hbW).mono ?_; rintro e w8 ⟨rfl, hb8⟩; have hd0 := (hdr.below hb8).c0; have hdf := (hdr.below hb8).fz; clear hdr; replace hcn := hcn.below hb8; have hc0 := hcn.c0; have hfn := hcn.fz; replace hbW := below_step hbW hb8)
      | (go_at_call 162; refine (hit1.out _ hbW).mono ?_; rintro e w8 ⟨rfl, hb8⟩; replace hcn := hcn.below hb8; have hc0 := hcn.c0; have hfn := hcn.fz; replace hbW := below_step hbW hb8)
      | (go_at_call 162; refine (hit1.out _ hbW).mono ?_; rintro e w8 ⟨rfl, hb8⟩; replace hbW := below_step hbW hb8)
      | (go_at_call 162; refine (hit1.out _ (Below.alloc hbW hbW.size _)).mono ?_; rintro e w8 ⟨rfl, hb8⟩; have hkn := hbW.size; have hcn := BoxP.kept hb8; have hc0 := hcn.c0; have hfn := hcn.fz; replace hbW := below_step (Below.alloc hbW hbW.size _) hb8)
      | (go_at_call 162; refine (hit0.out _ (Below.drew (Below.alloc (Below.refl w2.heap.size w2) (Nat.le_refl _) (.cells #[.string ⟨#[]⟩] 9)))).mono ?_; rintro e w7 ⟨rfl, hb7⟩; have hkn := Nat.le_refl w2.heap.size; have hcn := ((BoxP.new w2 (.string ⟨#[]⟩) 9).below (Below.refl _ _).drew).below hb7; have hdr : BoxP w7 w2.drew.heap.size (.string ⟨#[]⟩) := hcn; replace hbW := below_step (Below.drew (Below.alloc (Below.refl w2.heap.size w2) (Nat.le_refl _) (.cells #[.string ⟨#[]⟩] 9))) hb7))
    all_goals
      obtain ⟨hcf, hBf, hkf⟩ : True ∧ True ∧ True := ⟨trivial, trivial, trivial⟩
      first
        | (replace hcf := hcn.set (.string ((⟨#[118]⟩ : ByteArray) ++ I0 ++ ⟨#[46]⟩ ++ I1))
           replace hBf := Below.setCell hbW (p := ⟨_, 0, none⟩) hkn (.string ((⟨#[118]⟩ : ByteArray) ++ I0 ++ ⟨#[46]⟩ ++ I1))
           replace hkf := hkn
           generalize w8.setCell _ (.string ((⟨#[118]⟩ : ByteArray) ++ I0 ++ ⟨#[46]⟩ ++ I1)) = wf at hcf hBf ⊢)
        | (replace hcf := BoxP.new w8 (.string ((⟨#[118]⟩ : ByteArray) ++ I0 ++ ⟨#[46]⟩ ++ I1)) 9
           replace hBf := Below.alloc hbW hbW.size (.cells #[.string ((⟨#[118]⟩ : ByteArray) ++ I0 ++ ⟨#[46]⟩ ++ I1)] 9)
           replace hkf := hbW.size
           generalize w8.alloc (.cells #[.string ((⟨#[118]⟩ : ByteArray) ++ I0 ++ ⟨#[46]⟩ ++ I1)] 9) = wf at hcf hBf ⊢)
      have hsf := hBf.size
      have hsw := hC.size
      have hdel := patchDel ks A ((⟨#[118]⟩ : ByteArray) ++ I0 ++ ⟨#[46]⟩ ++ I1) now B _ v l w wf HEB.out HZD.out hnow hB0 HF.out HLL.out.1 HLL.out.2 (below_step hC hBf) (by omega) (Below.cell_some hBf z0) hcf.c0 (by rw [HII.out.1, HII.out.2]; simp [patchHead, HN.out.1, HN.out.2])
      have hbX := (Below.refl wf.heap.size wf).drew
      have HBW := Lib.hid hB0
      replace hdel := Lib.hid hdel
      clear hcf hBf hkf hsf hsw hbW z0 hC hz0 hz1
      go_wp2_with fail
      refine (hdel.out _ (Below.refl _ _)).mono ?_
      rintro e w9 ⟨⟨v9, rfl, hs9⟩, hBq⟩
      clear hdel hbX
      have hli := HLI.out v9 _ w9 hBq hs9 (Nat.le_trans (List.length_filter_le _ _) HLL.out.1) (fun x hx => HLL.out.2 x (List.mem_filter.1 hx).1)
      rw [← HPF1.out, HLV.out] at hli
      replace hli := Lib.hid hli
      clear hs9
      go_wp2_with fail
      refine hli.out.mono ?_
      rintro e w10 ⟨rfl, hb10⟩
      replace hBq := hBq.trans (hb10.mono (Nat.le_trans HBW.out hBq.size))
      clear hb10 hli
      go_wp2_with fail
      go_ret2
      rw [HLV.out]
      exact ⟨rfl, hBq⟩
  · rw [errV_pos A hv0]
    rw [if_pos hv0] at HPF
    have hli := HLI.out v l _ (hC.mono hB0) ((HF.out.below hC).strs) HLL.out.1 HLL.out.2
    rw [← HPF.out, HLV.out] at hli
    replace hli := Lib.hid hli
    clear hv0
    go_wp2_with fail
    refine hli.out.mono ?_
    rintro e w3 ⟨rfl, hb⟩
    have hC3 := (below_step hC hb).mono hB0
    clear hb hli
    go_wp2_with fail
    go_ret2
    rw [HLV.out]
    exact ⟨rfl, hC3⟩
end Go.Proofs.Pw
