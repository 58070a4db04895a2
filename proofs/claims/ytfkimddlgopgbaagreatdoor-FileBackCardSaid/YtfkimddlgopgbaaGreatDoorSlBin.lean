/- slices.BinarySearchFunc of a module's path, in a slice of modules whose paths rise. -/
import Derived.Test.YtfkimddlgopgbaaGreatDoorFile3
import Derived.Test.YtfkimddlgopgbaaGreatDoorFileLaw
import Derived.Shelf.Abstract
namespace Go.Proofs.Pw
open Go.RowKit
open Go.Lib hiding intOf

theorem set1_calls (p v s : ByteArray) (w : World) :
    Calls Tryz.prog 53 #[.agg #[.string p, .string v], .string s] w fun e w' => e = .returned (.int .i64 (compareBytes p.data.toList s.data.toList)) ∧ Below w.heap.size w w' := by
  have hb := below_alloc w (.cells #[.string p, .string v] 26)
  go_enter Tryz.func53, Tryz.ntmps53
  go_wp2_with fail
  refine (Tryz.strings_Compare p s _).mono ?_
  rintro e w' ⟨rfl, rfl⟩
  go_wp2_with fail
  go_ret
  exact ⟨rfl, hb⟩

theorem Tryz.enters_set1 : ∀ args w, (callFunc 53 args).run Tryz.prog w = .ok (.enter 53 args) w := Go.Proofs.enters_of Tryz.func53 (by kernel_rfl) rfl

theorem cmp_mono {a b p : Str} (h : compareBytes a b < 0 ∨ a = b) (hb : compareBytes b p < 0) : compareBytes a p < 0 := by
  rcases h with h | rfl
  · have h1 := compareBytes_ord.tr a b p (by omega) (by omega)
    by_cases e : compareBytes a p = 0
    · have := compareBytes_zero e
      subst this
      have := (compareBytes_ord.anti a b).1 h
      omega
    · omega
  · exact hb
/-- what precedes stands ahead -/
theorem rise_mono {n : Nat} {P V : Nat → ByteArray} (h : RiseP (mdF n P V)) (p : Str) : ∀ i j, i ≤ j → j < n → compareBytes (P j).data.toList p < 0 → compareBytes (P i).data.toList p < 0 := by
  intro i j hij hj hc
  by_cases e : i = j
  · rw [e]; exact hc
  · refine cmp_mono (.inl ?_) hc
    have h1 := List.pairwise_iff_getElem.1 h i j (by rw [mdF_length]; omega) (by rw [mdF_length]; exact hj) (by omega)
    have gi := mdF_get n P V i (by omega)
    have gj := mdF_get n P V j hj
    rw [List.getElem?_eq_getElem (by rw [mdF_length]; omega)] at gi gj
    injection gi with gi
    injection gj with gj
    rw [gi, gj] at h1
    exact h1
theorem lowAt_is {l : List Md} {p : Str} {k : Nat} (hk : k ≤ l.length) (h1 : ∀ j x, j < k → l[j]? = some x → compareBytes x.1 p < 0) (h2 : ∀ x, l[k]? = some x → ¬ compareBytes x.1 p < 0) : lowAt p l = k := by
  rcases Nat.lt_trichotomy (lowAt p l) k with h | h | h
  · have hl : lowAt p l < l.length := by omega
    exact absurd (h1 _ _ h (List.getElem?_eq_getElem hl)) (lowAt_stop p l _ (List.getElem?_eq_getElem hl))
  · exact h
  · have hl : k < l.length := by have := lowAt_le p l; omega
    exact absurd (lowAt_less p l k _ h (List.getElem?_eq_getElem hl)) (h2 _ (List.getElem?_eq_getElem hl))

set_option maxHeartbeats 4000000 in
set_option maxRecDepth 100000 in
theorem binM_calls (v : Value) (l : List Md) (s : ByteArray) (w : World) (h : ModsAt w v l) (hr : RiseP l) (hl : l.length ≤ 1000000) :
    Calls Tryz.prog 52 #[v, .string s, .func (.func 53) #[] #[]] w fun e w' => e = .returned (.tuple #[.int .i64 (lowAt s.data.toList l), .bool (decide (l[lowAt s.data.toList l]?.map (·.1) = some s.data.toList))]) ∧ Below w.heap.size w w' := by
  obtain ⟨a, n, cap, P, V, rfl, rfl, hnc, hcap, hc⟩ := h
  rw [mdF_length] at hl
  have hM := rise_mono hr s.data.toList
  generalize hres : (Value.tuple #[.int .i64 (lowAt s.data.toList (mdF n P V)), .bool (decide ((mdF n P V)[lowAt s.data.toList (mdF n P V)]?.map (·.1) = some s.data.toList))]) = res
  have HRES := Lib.hid hres
  clear hres hr
  replace hc := Lib.hid hc
  replace hM := Lib.hid hM
  go_enter Tryz.func52, Tryz.ntmps52
  go_wp2_with fail
  go_loopw [9, 10] (fun x y wr => ∃ lo hi : Nat, x = .int .i64 lo ∧ y = .int .i64 hi ∧ lo ≤ hi ∧ hi ≤ n ∧ Below w.heap.size w wr ∧ Hid ((∀ j, j < lo → compareBytes (P j).data.toList s.data.toList < 0) ∧ ∀ j, hi ≤ j → j < n → 0 ≤ compareBytes (P j).data.toList s.data.toList)) (fun x y _ => (intOf y).toNat - (intOf x).toNat)
  case atStart => exact ⟨0, n, rfl, rfl, Nat.zero_le _, Nat.le_refl _, Below.refl _ _, Lib.hid ⟨fun j hj => absurd hj (Nat.not_lt_zero _), fun j h1 h2 => by omega⟩⟩
  case round =>
    obtain ⟨lo, hi, rfl, rfl, hlh, hin, hb, HI⟩ := hrel
    by_cases hlt : lo < hi
    · obtain ⟨b1, o1, rfl, c1, c2⟩ := hc.out ((lo + hi) / 2) (by omega)
      replace c1 := Below.cell_some hb c1
      replace c2 := Below.cell_some hb c2
      have hcall := set1_calls (P ((lo + hi) / 2)) (V ((lo + hi) / 2)) s wr
      by_cases hyx : compareBytes (P ((lo + hi) / 2)).data.toList s.data.toList < 0
      · have HN : Hid ((∀ j, j < (lo + hi) / 2 + 1 → compareBytes (P j).data.toList s.data.toList < 0) ∧ ∀ j, hi ≤ j → j < n → 0 ≤ compareBytes (P j).data.toList s.data.toList) := Lib.hid ⟨fun j hj => hM.out j ((lo + hi) / 2) (by omega) (by omega) hyx, HI.out.2⟩
        generalize compareBytes (P ((lo + hi) / 2)).data.toList s.data.toList = c at hcall hyx
        go_wp2_with fail
        refine hcall.mono ?_
        rintro e w' ⟨rfl, hb2⟩
        go_wp2_with fail
        go_roundw
        case rel => exact ⟨(lo + hi) / 2 + 1, hi, by rw [show ((lo : Int) + (hi : Int)) / 2 + 1 = (((lo + hi) / 2 + 1 : Nat) : Int) by omega], rfl, by omega, hin, below_step hb hb2, HN⟩
        case measure => simp [intOf]; omega
      · have HN : Hid ((∀ j, j < lo → compareBytes (P j).data.toList s.data.toList < 0) ∧ ∀ j, (lo + hi) / 2 ≤ j → j < n → 0 ≤ compareBytes (P j).data.toList s.data.toList) := Lib.hid ⟨HI.out.1, fun j h1 h2 => Int.not_lt.1 fun h3 => hyx (hM.out ((lo + hi) / 2) j h1 h2 h3)⟩
        generalize compareBytes (P ((lo + hi) / 2)).data.toList s.data.toList = c at hcall hyx
        go_wp2_with fail
        refine hcall.mono ?_
        rintro e w' ⟨rfl, hb2⟩
        go_wp2_with fail
        go_roundw
        case rel => exact ⟨lo, (lo + hi) / 2, rfl, by rw [show ((lo : Int) + (hi : Int)) / 2 = (((lo + hi) / 2 : Nat) : Int) by omega], by omega, by omega, below_step hb hb2, HN⟩
        case measure => simp [intOf]; omega
    · obtain rfl : hi = lo := by omega
      have HL : lowAt s.data.toList (mdF n P V) = hi := lowAt_is (by rw [mdF_length]; exact hin) (fun j x hj hx => by
          rw [mdF_get n P V j (by omega)] at hx
          cases hx
          exact HI.out.1 j hj) (fun x hx => by
          have hj : hi < n := by have := (List.getElem?_eq_some_iff.1 hx).1; rwa [mdF_length] at this
          rw [mdF_get n P V hi hj] at hx
          cases hx
          exact Int.not_lt.2 (HI.out.2 hi (Nat.le_refl _) hj))
      have hres := HRES.out
      rw [HL] at hres
      by_cases hn : hi < n
      · obtain ⟨b1, o1, rfl, c1, c2⟩ := hc.out hi hn
        replace c1 := Below.cell_some hb c1
        replace c2 := Below.cell_some hb c2
        have hcall := set1_calls (P hi) (V hi) s wr
        rw [mdF_get n P V hi hn] at hres
        simp only [Option.map_some, Option.some.injEq] at hres
        by_cases hyx : (P hi).data.toList = s.data.toList
        · rw [decide_eq_true hyx] at hres
          rw [hyx, compareBytes_ord.self] at hcall
          have HR := Lib.hid hres
          clear hres HL hyx
          go_wp2_with fail
          refine hcall.mono ?_
          rintro e w' ⟨rfl, hb2⟩
          go_wp2_with fail
          go_ret2
          exact ⟨by rw [← HR.out]; rfl, below_step hb hb2⟩
        · rw [decide_eq_false hyx] at hres
          have h0 : compareBytes (P hi).data.toList s.data.toList ≠ 0 := fun h => hyx (compareBytes_zero h)
          generalize compareBytes (P hi).data.toList s.data.toList = c at hcall h0
          have hcz : (c == 0) = false := by simpa using h0
          have HR := Lib.hid hres
          clear hres HL hyx
          go_wp2_with fail
          refine hcall.mono ?_
          rintro e w' ⟨rfl, hb2⟩
          go_wp2_with fail
          go_ret2
          exact ⟨by rw [← HR.out]; rfl, below_step hb hb2⟩
      · rw [List.getElem?_eq_none (by rw [mdF_length]; omega)] at hres
        have HR := Lib.hid hres
        clear hres HL
        go_wp2_with fail
        go_ret2
        exact ⟨by rw [← HR.out]; simp, hb⟩
end Go.Proofs.Pw
