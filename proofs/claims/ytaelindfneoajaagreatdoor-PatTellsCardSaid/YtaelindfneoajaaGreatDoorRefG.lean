/- The document's patterns: begins, matches, IsMatch, IsWild, PatternError. Conditions: texts of at most 1000000 bytes. -/
import Derived.Test.YtaelindfneoajaaGreatDoorKleene
import Derived.Test.YtaelindfneoajaaGreatDoorRefA
import Derived.Test.YtaelindfneoajaaGreatDoorRefP
import Derived.Test.YtaelindfneoajaaGreatDoorRefP2
import Derived.Test.YtaelindfneoajaaGreatDoorMem
import Derived.Deep.OwnRows
namespace Go.Proofs.Pw
open Go.RowKit
open Go.Lib hiding intOf

theorem begins_calls (s h : ByteArray) (w : World) (hs : s.size ≤ 4000000000) (hh : h.size ≤ 4000000000) :
    Calls Tryz.prog 83 #[.string s, .string h] w fun e w' => e = .returned (.bool (hasPrefix s.data.toList h.data.toList)) ∧ w = w' := by
  by_cases hl : s.size < h.size
  · have HF : Hid (hasPrefix s.data.toList h.data.toList = false) := Lib.hid (by
      cases e : hasPrefix s.data.toList h.data.toList with
      | false => rfl
      | true =>
        unfold hasPrefix at e
        have := (List.isPrefixOf_iff_prefix.1 e).length_le
        rw [← size_eq, ← size_eq] at this
        omega)
    have hl' : (s.size : Int) < (h.size : Int) := by omega
    go_enter Tryz.func83, Tryz.ntmps83
    go_wp2_with fail
    go_ret
    rw [HF.out]
    exact ⟨rfl, rfl⟩
  · have HF : Hid (hasPrefix s.data.toList h.data.toList = ((s.extract 0 h.size).toList == h.toList)) := Lib.hid (by
      rw [toList_data, toList_data, Bool.eq_iff_iff, beq_iff_eq]
      unfold hasPrefix
      rw [List.isPrefixOf_iff_prefix, List.prefix_iff_eq_take]
      rw [show (s.extract 0 h.size).data.toList = s.data.toList.take h.data.toList.length by rw [← size_eq]; simp]
      exact eq_comm)
    have hl' : ¬ (s.size : Int) < (h.size : Int) := by omega
    go_enter Tryz.func83, Tryz.ntmps83
    go_wp2_with fail
    go_ret
    rw [HF.out]
    exact ⟨rfl, rfl⟩

def dotB : ByteArray := ⟨#[46, 46, 46]⟩
theorem beginsDots (s : ByteArray) (k : Nat) (w : World) (hs : s.size ≤ 1000000000) :
    Calls Tryz.prog 83 #[.string (s.extract k s.size), .string ⟨#[46, 46, 46]⟩] w fun e w' => e = .returned (.bool (hasPrefix (s.data.toList.drop k) dots)) ∧ w = w' := by
  have h := begins_calls (s.extract k s.size) dotB w (by have := extract_size_le s k s.size; omega) (by decide)
  rw [extract_to_end] at h
  exact h

theorem isWild_calls (p : ByteArray) (w : World) (hp : p.size ≤ 1000000000) :
    Calls Tryz.prog 18 #[.string p] w fun e w' => e = .returned (.bool (contains p.data.toList dots)) ∧ w = w' := by
  go_enter Tryz.func18, Tryz.ntmps18
  go_wp2_with fail
  go_loop [3] (fun i => ∃ k : Nat, k ≤ p.size ∧ i = .int .i64 k ∧ Hid (∀ j, j < k → hasPrefix (p.data.toList.drop j) dots = false)) (fun i => p.size - (intOf i).toNat)
  case atStart => exact ⟨0, Nat.zero_le _, rfl, Lib.hid (fun j hj => absurd hj (Nat.not_lt_zero _))⟩
  case round =>
    obtain ⟨k, hk, rfl, HA⟩ := hrel
    by_cases hlt : k < p.size
    · have hc := beginsDots p k w hp
      cases hq : hasPrefix (p.data.toList.drop k) dots with
      | true =>
        have HF : Hid (contains p.data.toList dots = true) := Lib.hid ((contains_iff _).2 ⟨k, by rw [← size_eq]; exact hlt, hq⟩)
        rw [hq] at hc
        clear hq
        replace hc := Lib.hid hc
        go_wp2_with fail
        refine (hc.out).mono ?_
        rintro e w' ⟨rfl, rfl⟩
        go_wp2_with fail
        go_ret
        rw [HF.out]
        exact ⟨rfl, rfl⟩
      | false =>
        have HN : Hid (∀ j, j < k + 1 → hasPrefix (p.data.toList.drop j) dots = false) := Lib.hid (fun j hj => by
          by_cases e : j = k
          · subst e; exact hq
          · exact HA.out j (by omega))
        rw [hq] at hc
        clear hq
        replace hc := Lib.hid hc
        go_wp2_with fail
        refine (hc.out).mono ?_
        rintro e w' ⟨rfl, rfl⟩
        go_wp2_with fail
        go_round
        case rel => exact ⟨k + 1, by omega, by go_num, HN⟩
        case measure => simp [intOf]; omega
    · obtain rfl : k = p.size := by omega
      have HF : Hid (contains p.data.toList dots = false) := Lib.hid (by
        cases e : contains p.data.toList dots with
        | false => rfl
        | true =>
          obtain ⟨j, hj, h⟩ := (contains_iff _).1 e
          rw [← size_eq] at hj
          rw [HA.out j hj] at h
          cases h)
      go_wp2_with fail
      go_ret
      rw [HF.out]
      exact ⟨rfl, rfl⟩

/-- the row of what is behind: which beginnings of s are matched -/
def RowIs (T : List (Option UInt8)) (s : Str) (r : Nat → Bool) : Prop := ∀ k, k ≤ s.length → (r k = true ↔ Mt T (s.take k))
theorem rowIs_zero (s : Str) : RowIs [] s (fun j => decide (j = 0)) := by
  intro k hk
  rw [decide_eq_true_iff]
  constructor
  · rintro rfl; rfl
  · intro h
    have h : s.take k = [] := h
    have := congrArg List.length h
    rw [List.length_take, List.length_nil] at this
    omega
theorem toks_at_hit {p : ByteArray} {k : Nat} (hk : k < p.size) (h : hasPrefix (p.data.toList.drop k) dots = true) : toks (p.data.toList.drop k) = none :: toks (p.data.toList.drop (k + 3)) ∧ k + 3 ≤ p.size := by
  have hl : k + 3 ≤ p.size := by
    unfold hasPrefix at h
    have := (List.isPrefixOf_iff_prefix.1 h).length_le
    rw [List.length_drop, ← size_eq, show dots.length = 3 from rfl] at this
    omega
  rw [drop_cons p k hk] at h ⊢
  rw [toks_hitc h, List.drop_drop]
  exact ⟨by rw [show k + 1 + 2 = k + 3 from rfl], hl⟩
theorem toks_at_miss {p : ByteArray} {k : Nat} (hk : k < p.size) (h : hasPrefix (p.data.toList.drop k) dots = false) : toks (p.data.toList.drop k) = some p[k] :: toks (p.data.toList.drop (k + 1)) := by
  rw [drop_cons p k hk] at h ⊢
  exact toks_missc h
theorem rowIs_none {T : List (Option UInt8)} {s : Str} {r nx : Nat → Bool} (h : RowIs T s r) (hn : ∀ k, k ≤ s.length → (nx k = true ↔ ∃ j, j ≤ k ∧ r j = true)) : RowIs (T ++ [none]) s nx := by
  intro k hk
  rw [hn k hk, Mt_none]
  constructor
  · rintro ⟨j, hj, e⟩
    exact ⟨j, hj, (h j (by omega)).1 e⟩
  · rintro ⟨j, hj, e⟩
    exact ⟨j, hj, (h j (by omega)).2 e⟩
theorem rowIs_some {T : List (Option UInt8)} {s : ByteArray} {r nx : Nat → Bool} {c : UInt8} (h : RowIs T s.data.toList r) (h0 : nx 0 = false) (hn : ∀ k (hk : k < s.size), nx (k + 1) = (r k && decide (s[k] = c))) : RowIs (T ++ [some c]) s.data.toList nx := by
  intro k hk
  cases k with
  | zero =>
    rw [h0]
    exact ⟨fun e => (by cases e), fun e => absurd e (Mt_some_zero T c _)⟩
  | succ k =>
    have hk' : k < s.size := by rw [size_eq]; omega
    rw [hn k hk', Mt_some T c _ k (by omega), Bool.and_eq_true, h k (by omega), decide_eq_true_iff]
    exact Iff.rfl
theorem int_succ (n : Nat) : ((n + 1 : Nat) : Int) = (n : Int) + 1 := rfl
theorem Tryz.infoBool : (Tryz.prog.info? 4).map (fun i => (i.zero, i.size, i.bytes)) = some (some (.bool false), 1, 1) := by kernel_rfl
theorem mkRow (n : Nat) (hn : n ≤ 1000000) (w : World) : (Instr.makeSlice 192 (.int .i64 ((n : Int) + 1)) (.int .i64 ((n : Int) + 1))).run Tryz.prog w = .ok (.slice (some ⟨w.heap.size, 0, none⟩) (n + 1) (n + 1)) (w.alloc (.cells (madeCells #[.bool false] (n + 1)) 4)) :=
  run_make_row' 192 4 (.bool false) 1 Tryz.underlying192 Tryz.infoBool rfl .i64 .i64 (n + 1) (by omega) (by omega) w

theorem rowIs_first (w : World) (n : Nat) (t : TypeId) : (w.alloc (.cells ((madeCells #[.bool false] (n + 1)).setIfInBounds 0 (.bool true)) t)).rowIs w.heap.size t (n + 1) (fun j => .bool (decide (j = 0))) := by
  have hs : ((madeCells #[.bool false] (n + 1)).setIfInBounds 0 (.bool true)).size = n + 1 := by
    rw [Array.size_setIfInBounds]; exact size_madeCells #[Value.bool false] (n + 1)
  have h := World.rowIs_alloc w ((madeCells #[.bool false] (n + 1)).setIfInBounds 0 (.bool true)) t (fun j => .bool (decide (j = 0))) (fun i hi => by
    rw [hs] at hi
    have hz : (madeCells #[Value.bool false] (n + 1)).size = n + 1 := size_madeCells #[Value.bool false] (n + 1)
    rw [Array.getElem?_setIfInBounds]
    by_cases e : i = 0
    · subst e
      rw [if_pos rfl, if_pos (by rw [hz]; exact hi)]; rfl
    · rw [if_neg (fun h => e h.symm)]
      simp [madeCells, hi, Nat.mod_one, e])
  rw [hs] at h
  exact h

set_option maxHeartbeats 2000000 in
set_option maxRecDepth 100000 in
theorem refMatches_calls (p s : ByteArray) (w : World) (hp : p.size ≤ 1000000) (hs : s.size ≤ 1000000) :
    Calls Tryz.prog 89 #[.string p, .string s] w fun e w' => e = .returned (.bool (pmatches (split p.data.toList dots) s.data.toList)) ∧ Below w.heap.size w w' := by
  have hmk := mkRow s.size hs
  have hr0 := World.rowIs_made w (.bool false) (s.size + 1) 4
  have c0 := hr0.cell (i := 0) (by omega)
  have f0 := hr0.frozen 0
  have hB0 := below_alloc w (.cells ((madeCells #[.bool false] (s.size + 1)).setIfInBounds 0 (.bool true)) 4)
  have hr1 := rowIs_first w s.size 4
  replace hr1 := Lib.hid hr1
  replace hB0 := Lib.hid hB0
  clear hr0
  go_enter Tryz.func89, Tryz.ntmps89
  go_wp2_with fail
  go_loopw [5, 6] (fun row i wr => ∃ (k b : Nat) (T : List (Option UInt8)) (r : Nat → Bool), k ≤ p.size ∧ i = .int .i64 k ∧ row = .slice (some ⟨b, 0, none⟩) (s.size + 1) (s.size + 1) ∧ w.heap.size ≤ b ∧ wr.rowIs b 4 (s.size + 1) (fun j => .bool (r j)) ∧ Below w.heap.size w wr ∧ Hid (toks p.data.toList = T ++ toks (p.data.toList.drop k)) ∧ Hid (RowIs T s.data.toList r)) (fun _ i _ => p.size - (intOf i).toNat)
  case atStart => exact ⟨0, w.heap.size, [], fun j => decide (j = 0), Nat.zero_le _, rfl, rfl, Nat.le_refl _, hr1.out, hB0.out, Lib.hid rfl, Lib.hid (rowIs_zero _)⟩
  case round =>
    obtain ⟨k, b, T, r, hk, rfl, rfl, hbg, hrow, hb, HT, HR⟩ := hrel
    by_cases hlt : k < p.size
    · have hbd := fun W => beginsDots p k W (by omega)
      have hB1 := hb.alloc hb.size (.cells (madeCells #[.bool false] (s.size + 1)) 4)
      have hn1 := World.rowIs_made wr (.bool false) (s.size + 1) 4
      have hrow1 := hrow.alloc (.cells (madeCells #[.bool false] (s.size + 1)) 4)
      have hne : wr.heap.size ≠ b := by have := hrow.lt; omega
      have hng : w.heap.size ≤ wr.heap.size := hb.size
      clear hrow hr1 hB0
      cases hq : hasPrefix (p.data.toList.drop k) dots with
      | true =>
        obtain ⟨ht, hk3⟩ := toks_at_hit hlt hq
        have HT3 : Hid (toks p.data.toList = (T ++ [none]) ++ toks (p.data.toList.drop (k + 3))) := Lib.hid (by rw [HT.out, ht]; simp)
        rw [hq] at hbd
        clear hq ht
        replace hbd := Lib.hid hbd
        go_wp2_with fail
        refine (hbd.out _).mono ?_
        rintro e w' ⟨rfl, rfl⟩
        go_wp2_with fail
        generalize wr.alloc (.cells (madeCells #[.bool false] (s.size + 1)) 4) = wn at hB1 hn1 hrow1 ⊢
        generalize wr.heap.size = c at hn1 hne hng ⊢
        go_loopw [8, 9] (fun on i w2 => ∃ (j : Nat) (o : Bool) (nx : Nat → Bool), j ≤ s.size + 1 ∧ i = .int .i64 j ∧ on = .bool o ∧ w2.rowIs c 4 (s.size + 1) (fun j => .bool (nx j)) ∧ w2.rowIs b 4 (s.size + 1) (fun j => .bool (r j)) ∧ Below w.heap.size w w2 ∧ Hid (o = true ↔ ∃ i, i < j ∧ r i = true) ∧ Hid (∀ m, m < j → (nx m = true ↔ ∃ i, i ≤ m ∧ r i = true))) (fun _ i _ => s.size + 1 - (intOf i).toNat)
        case atStart => exact ⟨0, false, fun _ => false, by omega, rfl, rfl, hn1, hrow1, hB1, Lib.hid ⟨fun h => (by cases h), fun ⟨i, h, _⟩ => absurd h (Nat.not_lt_zero _)⟩, Lib.hid (fun m hm => absurd hm (Nat.not_lt_zero _))⟩
        case round =>
          obtain ⟨j, o, nx, hj, rfl, rfl, hnx, hrw, hb2, HO, HX⟩ := hrel
          by_cases hjl : j < s.size + 1
          · have hji : ((j : Nat) : Int) ≤ (s.size : Int) := by omega
            have cr := hrw.cell hjl
            have cn := hnx.cell hjl
            have fn := hnx.frozen j
            have HO2 : Hid ((o || r j) = true ↔ ∃ i, i < j + 1 ∧ r i = true) := Lib.hid (by
              rw [Bool.or_eq_true, HO.out]
              constructor
              · rintro (⟨i, h1, h2⟩ | h)
                · exact ⟨i, by omega, h2⟩
                · exact ⟨j, by omega, h⟩
              · rintro ⟨i, h1, h2⟩
                by_cases e : i = j
                · subst e; exact .inr h2
                · exact .inl ⟨i, by omega, h2⟩)
            have fin : ∀ q : Bool, q = (o || r j) → ∃ (j' : Nat) (o' : Bool) (nx' : Nat → Bool), j' ≤ s.size + 1 ∧ Value.int .i64 ((j : Int) + 1) = .int .i64 j' ∧ Value.bool q = .bool o' ∧ (wr.setCell ⟨c, j, none⟩ (.bool q)).rowIs c 4 (s.size + 1) (fun j => .bool (nx' j)) ∧ (wr.setCell ⟨c, j, none⟩ (.bool q)).rowIs b 4 (s.size + 1) (fun j => .bool (r j)) ∧ Below w.heap.size w (wr.setCell ⟨c, j, none⟩ (.bool q)) ∧ Hid (o' = true ↔ ∃ i, i < j' ∧ r i = true) ∧ Hid (∀ m, m < j' → (nx' m = true ↔ ∃ i, i ≤ m ∧ r i = true)) := by
              rintro q rfl
              refine ⟨j + 1, _, fun m => if m = j then (o || r j) else nx m, by omega, rfl, rfl, (hnx.set j _).congr (fun i _ => by by_cases e : i = j <;> simp [e]), hrw.setOther (Ne.symm hne) _, hb2.setCell (p := ⟨c, j, none⟩) hng _, HO2, Lib.hid (fun m hm => ?_)⟩
              by_cases e : m = j
              · subst e
                simp only [if_true]
                rw [HO2.out]
                exact ⟨fun ⟨i, h1, h2⟩ => ⟨i, by omega, h2⟩, fun ⟨i, h1, h2⟩ => ⟨i, by omega, h2⟩⟩
              · simp only [if_neg e]
                exact HX.out m (by omega)
            replace fin := Lib.hid fin
            clear hnx hrw
            cases o with
            | true =>
              go_wp2_with fail
              go_roundw
              case rel => exact fin.out _ rfl
              case measure => simp [intOf]; omega
            | false =>
              go_wp2_with fail
              go_roundw
              case rel => exact fin.out _ (by rw [Bool.false_or])
              case measure => simp [intOf]; omega
          · obtain rfl : j = s.size + 1 := by omega
            have HR3 : Hid (RowIs (T ++ [none]) s.data.toList nx) := Lib.hid (rowIs_none HR.out (fun m hm => HX.out m (by rw [size_eq]; omega)))
            have hjx : ¬ (((s.size + 1 : Nat) : Int) ≤ (s.size : Int)) := by omega
            go_wp2_with fail
            go_roundw
            case rel => exact ⟨k + 3, c, T ++ [none], nx, hk3, by go_num, rfl, hng, hnx, hb2, HT3, HR3⟩
            case measure => simp [intOf]; omega
      | false =>
        have ht := toks_at_miss hlt hq
        have HT3 : Hid (toks p.data.toList = (T ++ [some p[k]]) ++ toks (p.data.toList.drop (k + 1))) := Lib.hid (by rw [HT.out, ht]; simp)
        rw [hq] at hbd
        clear hq ht
        replace hbd := Lib.hid hbd
        go_wp2_with fail
        refine (hbd.out _).mono ?_
        rintro e w' ⟨rfl, rfl⟩
        go_wp2_with fail
        generalize wr.alloc (.cells (madeCells #[.bool false] (s.size + 1)) 4) = wn at hB1 hn1 hrow1 ⊢
        generalize wr.heap.size = c at hn1 hne hng ⊢
        go_loopw [10] (fun i wr => ∃ (j : Nat) (nx : Nat → Bool), j ≤ s.size ∧ i = .int .i64 j ∧ wr.rowIs c 4 (s.size + 1) (fun j => .bool (nx j)) ∧ wr.rowIs b 4 (s.size + 1) (fun j => .bool (r j)) ∧ Below w.heap.size w wr ∧ Hid (nx 0 = false ∧ (∀ m (hm : m < s.size), m < j → nx (m + 1) = (r m && decide (s[m] = p[k]))) ∧ ∀ m, j < m → nx m = false)) (fun i _ => s.size - (intOf i).toNat)
        case atStart => exact ⟨0, fun _ => false, by omega, rfl, hn1, hrow1, hB1, Lib.hid ⟨rfl, fun m _ hm => absurd hm (Nat.not_lt_zero _), fun _ _ => rfl⟩⟩
        case round =>
          obtain ⟨j, nx, hj, rfl, hnx, hrw, hb2, HX⟩ := hrel
          by_cases hjl : j < s.size
          · have cr := hrw.cell (i := j) (by omega)
            have hj1 : j + 1 < s.size + 1 := by omega
            have cn := hnx.cell hj1
            have fn := hnx.frozen (j + 1)
            have stay : (r j && decide (s[j] = p[k])) = false → Hid (nx 0 = false ∧ (∀ m (hm : m < s.size), m < j + 1 → nx (m + 1) = (r m && decide (s[m] = p[k]))) ∧ ∀ m, j + 1 < m → nx m = false) := fun hf => Lib.hid ⟨HX.out.1, fun m hm hmj => by
              by_cases e : m = j
              · subst e; rw [hf]; exact HX.out.2.2 _ (by omega)
              · exact HX.out.2.1 m hm (by omega), fun m hm => HX.out.2.2 m (by omega)⟩
            cases hrj : r j with
            | false =>
              have HS := stay (by rw [hrj]; rfl)
              rw [hrj] at cr
              clear stay hrj
              go_wp2_with fail
              go_region
              all_goals
                go_wp2_with fail
                go_roundw
                case rel => exact ⟨j + 1, nx, by omega, by go_num, hnx.drew, hrw.drew, hb2.drew, HS⟩
                case measure => simp [intOf]; omega
            | true =>
              by_cases hc : s[j] = p[k]
              · have hci : (s[j].toNat : Int) = (p[k].toNat : Int) := by rw [hc]
                have HS : Hid ((fun m => if m = j + 1 then true else nx m) 0 = false ∧ (∀ m (hm : m < s.size), m < j + 1 → (fun m => if m = j + 1 then true else nx m) (m + 1) = (r m && decide (s[m] = p[k]))) ∧ ∀ m, j + 1 < m → (fun m => if m = j + 1 then true else nx m) m = false) := Lib.hid ⟨by simpa using HX.out.1, fun m hm hmj => by
                  by_cases e : m = j
                  · subst e; simp [hrj, hc]
                  · simp only [if_neg (show ¬ m + 1 = j + 1 by omega)]
                    exact HX.out.2.1 m hm (by omega), fun m hm => by
                  simp only [if_neg (show ¬ m = j + 1 by omega)]
                  exact HX.out.2.2 m (by omega)⟩
                rw [hrj] at cr
                clear stay hrj hc
                go_wp2_with fail
                go_region
                all_goals
                  go_wp2_with fail
                  go_roundw
                  case rel => exact ⟨j + 1, fun m => if m = j + 1 then true else nx m, by omega, by go_num, (hnx.drew.set (j + 1) _).congr (fun i _ => by by_cases e : i = j + 1 <;> simp [e]), hrw.drew.setOther (Ne.symm hne) _, hb2.drew.setCell (p := ⟨c, j + 1, none⟩) hng _, HS⟩
                  case measure => simp [intOf]; omega
              · have hci : ((s[j].toNat : Int) == (p[k].toNat : Int)) = false := beq_eq_false_iff_ne.2 (fun e => hc (UInt8.toNat_inj.1 (by exact_mod_cast e)))
                have HS := stay (by rw [decide_eq_false hc, Bool.and_false])
                rw [hrj] at cr
                clear stay hrj hc
                go_wp2_with fail
                go_region
                all_goals
                  go_wp2_with fail
                  go_roundw
                  case rel => exact ⟨j + 1, nx, by omega, by go_num, hnx.drew, hrw.drew, hb2.drew, HS⟩
                  case measure => simp [intOf]; omega
          · obtain rfl : j = s.size := by omega
            have HR3 : Hid (RowIs (T ++ [some p[k]]) s.data.toList nx) := Lib.hid (rowIs_some HR.out HX.out.1 (fun m hm => HX.out.2.1 m hm hm))
            go_wp2_with fail
            go_roundw
            case rel => exact ⟨k + 1, c, T ++ [some p[k]], nx, by omega, by go_num, rfl, hng, hnx, hb2, HT3, HR3⟩
            case measure => simp [intOf]; omega
    · obtain rfl : k = p.size := by omega
      have HF : Hid (pmatches (split p.data.toList dots) s.data.toList = r s.size) := Lib.hid (by
        rw [Bool.eq_iff_iff, pmatches_iff, HT.out, drop_size, toks_nil, List.append_nil, HR.out s.size (by rw [← size_eq]; exact Nat.le_refl _), take_size])
      have cr := hrow.cell (i := s.size) (by omega)
      go_wp2_with fail
      go_ret
      rw [HF.out]
      exact ⟨rfl, hb⟩
end Go.Proofs.Pw
