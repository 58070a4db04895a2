/- PatAny, its walk. -/
import Derived.Test.YtaelindfneoajaaDoorPat
namespace Go.Proofs.Pw
open Go.RowKit
open Go.Lib hiding intOf

def hasDot (l : Str) (k : Nat) : Bool := (l.take k).any (· == 46)
theorem hasDot_true {l : Str} {k : Nat} (h : hasDot l k = true) : hasDot l (k + 1) = true := by
  unfold hasDot at *
  rw [List.any_eq_true] at *
  obtain ⟨x, hx, h2⟩ := h
  exact ⟨x, (List.take_prefix_take_left (Nat.le_succ k)).subset hx, h2⟩
theorem hasDot_false {l : Str} {k : Nat} (hk : k < l.length) (h : hasDot l k = false) : hasDot l (k + 1) = (l[k] == 46) := by
  unfold hasDot at *
  rw [List.take_succ_eq_append_getElem hk, List.any_append, h]
  simp
theorem hasDot_mem {l : Str} (h : hasDot l l.length = false) : (46 : UInt8) ∉ l := by
  unfold hasDot at h
  rw [List.take_length, List.any_eq_false] at h
  intro hm
  exact h _ hm rfl

theorem byte_eq (c d : UInt8) (n : Int) (h : n = d.toNat) : ((c.toNat : Int) == n) = (c == d) := by
  subst h
  rw [Bool.eq_iff_iff, beq_iff_eq, beq_iff_eq]
  constructor
  · intro h; exact UInt8.toNat_inj.1 (by exact_mod_cast h)
  · rintro rfl; rfl

theorem app_data (a b : ByteArray) : (a ++ b).data.toList = a.data.toList ++ b.data.toList := by
  rw [ByteArray.data_append, Array.toList_append]

theorem patterned_calls (w : World) (hE : EnvM w) :
    Calls Tryd.prog 4 #[] w fun e w' => e = .returned (.bool true) ∧ Below w.heap.size w w' := by
  have e1 : pMatch [97, 47, 46, 46, 46] [97] = true := by decide +kernel
  have e2 : pMatch [97, 47, 46, 46, 46, 99] [97, 47, 98, 47, 99] = true := by decide +kernel
  have e3 : pMatch [97, 46, 46, 46] [98] = false := by decide +kernel
  have e4 : contains [97, 46, 46, 46] dots = true := by decide +kernel
  have H1 := Lib.hid e1
  have H2 := Lib.hid e2
  have H3 := Lib.hid e3
  have H4 := Lib.hid e4
  clear e1 e2 e3 e4
  go_enter Tryd.func4, Tryd.ntmps4
  go_wp2_with fail
  refine (match_calls _ _ _ hE (by decide) (by decide)).mono ?_
  rintro e w1 ⟨rfl, hb1⟩
  have hE1 := hE.below hb1
  rw [H1.out]
  go_wp2_with fail
  refine (match_calls _ _ _ hE1 (by decide) (by decide)).mono ?_
  rintro e w2 ⟨rfl, hb2⟩
  have hE2 := hE1.below hb2
  rw [H2.out]
  go_wp2_with fail
  refine (match_calls _ _ _ hE2 (by decide) (by decide)).mono ?_
  rintro e w3 ⟨rfl, hb3⟩
  have hE3 := hE2.below hb3
  rw [H3.out]
  go_wp2_with fail
  refine (wild_calls _ _ hE3 (by decide)).mono ?_
  rintro e w4 ⟨rfl, rfl⟩
  rw [H4.out]
  go_wp2_with fail
  go_ret
  exact ⟨rfl, below_step (below_step hb1 hb2) hb3⟩

theorem patAny_long (a b s t u : ByteArray) (w : World) (hE : EnvM w) (h : 30 < a.size ∨ (a.size ≤ 30 ∧ 30 < b.size) ∨ (a.size ≤ 30 ∧ b.size ≤ 30 ∧ 30 < s.size) ∨ (a.size ≤ 30 ∧ b.size ≤ 30 ∧ s.size ≤ 30 ∧ 30 < t.size) ∨ (a.size ≤ 30 ∧ b.size ≤ 30 ∧ s.size ≤ 30 ∧ t.size ≤ 30 ∧ 30 < u.size)) :
    Calls Tryd.prog 3 #[.string a, .string b, .string s, .string t, .string u] w fun e w' => e = .returned (.bool true) ∧ Below w.heap.size w w' := by
  rcases h with h | ⟨h1, h⟩ | ⟨h1, h2, h⟩ | ⟨h1, h2, h3, h⟩ | ⟨h1, h2, h3, h4, h⟩
  all_goals
    go_enter Tryd.func3, Tryd.ntmps3
    go_wp2_with fail
    refine (patterned_calls _ hE).mono ?_
    rintro e w1 ⟨rfl, hb1⟩
    go_wp2_with fail
    go_ret
    exact ⟨rfl, hb1⟩

theorem patAny_short (a b s t u : ByteArray) (w : World) (hE : EnvM w) (h1 : a.size ≤ 30) (h2 : b.size ≤ 30) (h3 : s.size ≤ 30) (h4 : t.size ≤ 30) (h5 : u.size ≤ 30) :
    Calls Tryd.prog 3 #[.string a, .string b, .string s, .string t, .string u] w fun e w' => e = .returned (.bool true) ∧ Below w.heap.size w w' := by
  have A1 := Lib.hid (pMatch_any s.data.toList)
  go_enter Tryd.func3, Tryd.ntmps3
  go_wp2_with fail
  refine (patterned_calls _ hE).mono ?_
  rintro e w1 ⟨rfl, hb1⟩
  have hE1 := hE.below hb1
  go_wp2_with fail
  refine (match_calls _ _ _ hE1 (by decide) (by omega)).mono ?_
  rintro e w2 ⟨rfl, hb2⟩
  have hE2 := hE1.below hb2
  rw [show pMatch (⟨#[46, 46, 46]⟩ : ByteArray).data.toList s.data.toList = true from A1.out]
  go_wp2_with fail
  refine (wild_calls _ _ hE2 (by omega)).mono ?_
  rintro e w3 ⟨rfl, rfl⟩
  have hs1 : s.data.toList.length ≤ 30 := by rw [← size_eq]; exact h3
  rcases hw : contains s.data.toList dots with _ | _
  case' false =>
    have HW := Lib.hid hw
    clear hw
    go_wp2_with fail
    refine (match_calls _ _ _ hE2 (by omega) (by omega)).mono ?_
    rintro e w3 ⟨rfl, hb3⟩
    have hE3 := hE2.below hb3
    rw [pMatch_plain HW.out, beq_self_eq_true]
    go_wp2_with fail
    refine (match_calls _ _ _ hE3 (by omega) (by omega)).mono ?_
    rintro e w4 ⟨rfl, hb4⟩
    have hEz := hE3.below hb4
    have hbz := below_step (below_step (below_step hb1 hb2) hb3) hb4
    rw [pMatch_plain HW.out]
    have hq : (s.toList == t.toList) = (t.data.toList == s.data.toList) := by
      rw [toList_data, toList_data, Bool.eq_iff_iff, beq_iff_eq, beq_iff_eq]; exact eq_comm
    generalize (t.data.toList == s.data.toList) = q at hq ⊢
    clear hb1 hb2 hb3 hb4 hE hE1 hE2 hE3
    cases q <;> go_wp2_with fail
  case' true =>
    have HW := Lib.hid hw
    have hbz := below_step hb1 hb2
    have hEz := hE2
    clear hw hb1 hb2 hE hE1 hE2
    go_wp2_with fail
  all_goals
    go_loop [12, 13] (fun d i => ∃ k : Nat, k ≤ a.size ∧ i = .int .i64 k ∧ d = .bool (hasDot a.data.toList k)) (fun _ i => a.size - (intOf i).toNat)
    case atStart => exact ⟨0, Nat.zero_le _, rfl, rfl⟩
    case round =>
      obtain ⟨k, hk, rfl, rfl⟩ := hrel
      by_cases hlt : k < a.size
      · cases hd : hasDot a.data.toList k with
        | true =>
          go_wp2_with fail
          go_round
          case rel => exact ⟨k + 1, by omega, by go_num, by rw [hasDot_true hd]⟩
          case measure => simp [intOf]; omega
        | false =>
          go_wp2_with fail
          go_round
          case rel => exact ⟨k + 1, by omega, by go_num, by rw [hasDot_false (by rw [← size_eq]; exact hlt) hd]; exact congrArg Value.bool (byte_eq _ 46 46 rfl)⟩
          case measure => simp [intOf]; omega
      · obtain rfl : k = a.size := by omega
        have hA : hasDot a.data.toList a.size = hasDot a.data.toList a.data.toList.length := by rw [← size_eq]
        generalize hasDot a.data.toList a.size = x at hA ⊢
        have HA := Lib.hid hA
        clear hA
        cases x with
        | true =>
          go_wp2_with fail
          go_loop [12, 14] (fun d i => ∃ k : Nat, k ≤ b.size ∧ i = .int .i64 k ∧ d = .bool true) (fun _ i => b.size - (intOf i).toNat)
          case atStart => exact ⟨0, Nat.zero_le _, rfl, rfl⟩
          case round =>
            obtain ⟨k, hk, rfl, rfl⟩ := hrel
            by_cases hlt : k < b.size
            · go_wp2_with fail
              go_round
              case rel => exact ⟨k + 1, by omega, by go_num, rfl⟩
              case measure => simp [intOf]; omega
            · obtain rfl : k = b.size := by omega
              go_wp2_with fail
              go_ret
              exact ⟨rfl, hbz⟩
        | false =>
          go_wp2_with fail
          go_loop [12, 14] (fun d i => ∃ k : Nat, k ≤ b.size ∧ i = .int .i64 k ∧ d = .bool (hasDot b.data.toList k)) (fun _ i => b.size - (intOf i).toNat)
          case atStart => exact ⟨0, Nat.zero_le _, rfl, rfl⟩
          case round =>
            obtain ⟨k, hk, rfl, rfl⟩ := hrel
            by_cases hlt : k < b.size
            · cases hd : hasDot b.data.toList k with
              | true =>
                go_wp2_with fail
                go_round
                case rel => exact ⟨k + 1, by omega, by go_num, by rw [hasDot_true hd]⟩
                case measure => simp [intOf]; omega
              | false =>
                go_wp2_with fail
                go_round
                case rel => exact ⟨k + 1, by omega, by go_num, by rw [hasDot_false (by rw [← size_eq]; exact hlt) hd]; exact congrArg Value.bool (byte_eq _ 46 46 rfl)⟩
                case measure => simp [intOf]; omega
            · obtain rfl : k = b.size := by omega
              have hB : hasDot b.data.toList b.size = hasDot b.data.toList b.data.toList.length := by rw [← size_eq]
              generalize hasDot b.data.toList b.size = x at hB ⊢
              have HB := Lib.hid hB
              clear hB
              cases x with
              | true =>
                go_wp2_with fail
                go_ret
                exact ⟨rfl, hbz⟩
              | false =>
                go_wp2_with fail
                have hna := hasDot_mem HA.out.symm
                have hnb := hasDot_mem HB.out.symm
                have z1 : (a ++ (⟨#[46, 46, 46]⟩ : ByteArray) ++ b).size ≤ 4000000000 := by rw [ByteArray.size_append, ByteArray.size_append]; have : (⟨#[46, 46, 46]⟩ : ByteArray).size = 3 := rfl; omega
                have z2 : (a ++ u ++ b).size ≤ 4000000000 := by rw [ByteArray.size_append, ByteArray.size_append]; omega
                have z3 : (a ++ (⟨#[46, 46, 46]⟩ : ByteArray)).size ≤ 4000000000 := by rw [ByteArray.size_append]; have : (⟨#[46, 46, 46]⟩ : ByteArray).size = 3 := rfl; omega
                have z4 : (a ++ t).size ≤ 4000000000 := by rw [ByteArray.size_append]; omega
                have z5 : ((⟨#[46, 46, 46]⟩ : ByteArray) ++ b).size ≤ 4000000000 := by rw [ByteArray.size_append]; have : (⟨#[46, 46, 46]⟩ : ByteArray).size = 3 := rfl; omega
                have z6 : (t ++ b).size ≤ 4000000000 := by rw [ByteArray.size_append]; omega
                have m1 : pMatch (a ++ (⟨#[46, 46, 46]⟩ : ByteArray) ++ b).data.toList (a ++ u ++ b).data.toList = true := by
                  rw [app_data, app_data, app_data, app_data]; exact pMatch_two _ hna hnb
                have m2 : pMatch (a ++ (⟨#[46, 46, 46]⟩ : ByteArray)).data.toList (a ++ t).data.toList = true := by
                  rw [app_data, app_data]; have := pMatch_two (b := []) t.data.toList hna (by simp); simp only [List.append_nil] at this; exact this
                have m3 : pMatch ((⟨#[46, 46, 46]⟩ : ByteArray) ++ b).data.toList (t ++ b).data.toList = true := by
                  rw [app_data, app_data]; have := pMatch_two (a := []) t.data.toList (by simp) hnb; simp only [List.nil_append] at this; exact this
                have M1 := Lib.hid m1
                have M2 := Lib.hid m2
                have M3 := Lib.hid m3
                have Z3 := Lib.hid z3
                have Z4 := Lib.hid z4
                have Z5 := Lib.hid z5
                have Z6 := Lib.hid z6
                clear m1 m2 m3 z3 z4 z5 z6
                refine (match_calls _ _ _ hEz z1 z2).mono ?_
                rintro e wa ⟨rfl, hba⟩
                have hEa := hEz.below hba
                have hbza := below_step hbz hba
                rw [M1.out]
                clear hbz hba hEz z1 z2
                go_wp2_with fail
                refine (match_calls _ _ _ hEa Z3.out Z4.out).mono ?_
                rintro e wb ⟨rfl, hbb⟩
                have hEb := hEa.below hbb
                have hbzb := below_step hbza hbb
                rw [M2.out]
                clear hbza hbb hEa
                go_wp2_with fail
                refine (match_calls _ _ _ hEb Z5.out Z6.out).mono ?_
                rintro e wc ⟨rfl, hbc⟩
                have hbzc := below_step hbzb hbc
                rw [M3.out]
                clear hbzb hbc hEb
                go_wp2_with fail
                go_ret
                exact ⟨rfl, hbzc⟩
theorem patAny_calls (a b s t u : ByteArray) (w : World) (hE : EnvM w) :
    Calls Tryd.prog 3 #[.string a, .string b, .string s, .string t, .string u] w fun e w' => e = .returned (.bool true) ∧ Below w.heap.size w w' := by
  by_cases h : a.size ≤ 30 ∧ b.size ≤ 30 ∧ s.size ≤ 30 ∧ t.size ≤ 30 ∧ u.size ≤ 30
  · exact patAny_short a b s t u w hE h.1 h.2.1 h.2.2.1 h.2.2.2.1 h.2.2.2.2
  · exact patAny_long a b s t u w hE (by omega)
end Go.Proofs.Pw
