/- R.VerText. Conditions: numbers from 0 to 999999; at most 100 parts of at most 1000 bytes. -/
import Derived.Test.YtaelindfneoajaaGreatDoorRefT
namespace Go.Proofs.Pw
open Go.RowKit
open Go.Lib hiding intOf
open Go.Sort (grow)

theorem refDecG (x : Nat) (w : World) (h : x ≤ 999999) (n : Nat) (os : Array Obj) :
    Calls Tryz.prog 79 #[.int .i64 x] (grow (w.drewN n) os) fun e w'' => e = .returned (.string ⟨(itoa x).toArray⟩) ∧ ∃ q os', w'' = grow ((grow (w.drewN n) os).drewN q) os' :=
  refDecimal_calls x _ (by omega)

theorem app_data' (a b : ByteArray) : (a ++ b).data.toList = a.data.toList ++ b.data.toList := by
  rw [ByteArray.data_append, Array.toList_append]
theorem joinTail_succ (n : Nat) (L : Nat → ByteArray) (k : Nat) (h : k < n) (h0 : 0 < k) : join ((lstF n L).take (k + 1)) [46] = join ((lstF n L).take k) [46] ++ 46 :: (L k).data.toList := by
  have hg := lstF_get n L k h
  cases hl : lstF n L with
  | nil => rw [hl] at hg; simp at hg
  | cons x r =>
    rw [hl] at hg
    obtain ⟨k', rfl⟩ : ∃ k', k = k' + 1 := ⟨k - 1, by omega⟩
    rw [List.getElem?_cons_succ] at hg
    rw [List.take_succ_cons, List.take_succ_cons, join_cons, join_cons, joinTail_take_succ _ _ _ _ hg]
    simp
theorem join_take_one (n : Nat) (L : Nat → ByteArray) (h : 0 < n) : join ((lstF n L).take 1) [46] = (L 0).data.toList := by
  have hg := lstF_get n L 0 h
  cases hl : lstF n L with
  | nil => rw [hl] at hg; simp at hg
  | cons x r =>
    rw [hl] at hg
    simp at hg
    rw [List.take_succ_cons, List.take_zero, join_one, hg]

set_option maxHeartbeats 1000000 in
theorem refVerText_calls (x0 x1 x2 : Nat) (v : Value) (pre : List Str) (w : World) (b0 : x0 ≤ 999999) (b1 : x1 ≤ 999999) (b2 : x2 ≤ 999999)
    (hS : StrsAt w v pre) (hn : pre.length ≤ 100) (hp : ∀ x ∈ pre, x.length ≤ 1000) :
    Calls Tryz.prog 14 #[.agg #[.int .i64 x0, .int .i64 x1, .int .i64 x2, v]] w fun e w' => e = .returned (.string ⟨(verFmt x0 x1 x2 pre).toArray⟩) ∧ Below w.heap.size w w' := by
  obtain ⟨a, n, cap, L, rfl, rfl, hnc, hcap, hc⟩ := hS
  have mixed : Tryz.prog.follows .mixedOrders = true := by kernel_rfl
  have hbA := below_alloc w (.cells #[.int .i64 x0, .int .i64 x1, .int .i64 x2, .slice a n cap] 30)
  have hzA := box4_alloc w (.int .i64 x0) (.int .i64 x1) (.int .i64 x2) (.slice a n cap) 30
  have hl0 := itoa_len (x := x0) (by omega) (by omega)
  have hl1 := itoa_len (x := x1) (by omega) (by omega)
  have hl2 := itoa_len (x := x2) (by omega) (by omega)
  have hI0 := Lib.hid (refDecG x0 (w.alloc (.cells #[.int .i64 x0, .int .i64 x1, .int .i64 x2, .slice a n cap] 30)) b0)
  have hI1 := Lib.hid (refDecG x1 (w.alloc (.cells #[.int .i64 x0, .int .i64 x1, .int .i64 x2, .slice a n cap] 30)) b1)
  have hI2 := Lib.hid (refDecG x2 (w.alloc (.cells #[.int .i64 x0, .int .i64 x1, .int .i64 x2, .slice a n cap] 30)) b2)
  have hR : verFmt x0 x1 x2 (lstF n L) = verFmtS (itoa x0) (itoa x1) (itoa x2) (lstF n L) := rfl
  generalize verFmt x0 x1 x2 (lstF n L) = R at hR ⊢
  have hln : (lstF n L).length = n := lstF_length n L
  rw [hln] at hn
  have hLs : ∀ j, j < n → (L j).size ≤ 1000 := fun j hj => by rw [size_eq]; exact hp _ (List.mem_of_getElem? (lstF_get n L j hj))
  have HC := Lib.hid hc
  have HLs := Lib.hid hLs
  clear hc hln hp hLs
  go_enter Tryz.func14, Tryz.ntmps14
  go_wp2_with fail
  generalize hwA : w.alloc (.cells #[.int .i64 x0, .int .i64 x1, .int .i64 x2, .slice a n cap] 30) = wA at *
  clear hwA
  have hlt : w.heap.size < wA.heap.size := lt_of_cell hzA.c0
  have g0 := fun m os => cell_grown (n := m) (os := os) hlt hzA.c0
  have g1 := fun m os => cell_grown (n := m) (os := os) hlt hzA.c1
  have g2 := fun m os => cell_grown (n := m) (os := os) hlt hzA.c2
  generalize itoa x0 = I0 at *
  generalize itoa x1 = I1 at *
  generalize itoa x2 = I2 at *
  have n1 : ¬ 9223372036854775807 < 1 + I0.length := by omega
  have n2 : ¬ 9223372036854775807 < 1 + I0.length + 1 := by omega
  have n3 : ¬ 9223372036854775807 < 1 + I0.length + 1 + I1.length := by omega
  have n4 : ¬ 9223372036854775807 < 1 + I0.length + 1 + I1.length + 1 := by omega
  have n5 : ¬ 9223372036854775807 < 1 + I0.length + 1 + I1.length + 1 + I2.length := by omega
  have HR := Lib.hid hR
  clear hR
  go_quiet_grown (first | (go_at_call_of 79 (Value.int .i64 (x0 : Int)); exact Calls.grown_of (hI0.out _ _)) | (go_at_call_of 79 (Value.int .i64 (x1 : Int)); exact Calls.grown_of (hI1.out _ _)) | (go_at_call_of 79 (Value.int .i64 (x2 : Int)); exact Calls.grown_of (hI2.out _ _)))
  clear n1 n2 n3 n4 n5 hI0 hI1 hI2
  have hS : ((⟨#[118]⟩ : ByteArray) ++ ⟨I0.toArray⟩ ++ ⟨#[46]⟩ ++ ⟨I1.toArray⟩ ++ ⟨#[46]⟩ ++ ⟨I2.toArray⟩).data.toList = 118 :: (I0 ++ 46 :: (I1 ++ 46 :: I2)) := by simp
  have hSz : ((⟨#[118]⟩ : ByteArray) ++ ⟨I0.toArray⟩ ++ ⟨#[46]⟩ ++ ⟨I1.toArray⟩ ++ ⟨#[46]⟩ ++ ⟨I2.toArray⟩).size ≤ 1000 := by
    rw [size_eq, hS]; simp; omega
  generalize (⟨#[118]⟩ : ByteArray) ++ ⟨I0.toArray⟩ ++ ⟨#[46]⟩ ++ ⟨I1.toArray⟩ ++ ⟨#[46]⟩ ++ ⟨I2.toArray⟩ = S at hS hSz ⊢
  have HS := Lib.hid hS
  have hbB : Below wA.heap.size wA (grow (wA.drewN nq) osq) := below_grow _ _ (Nat.le_refl _) _ _
  have hzB := hzA.below hbB
  have hbw := below_step hbA hbB
  have c3 := hzB.c3
  clear hS g0 g1 g2
  dsimp only
  generalize grow (wA.drewN nq) osq = wB at hbB hzB hbw c3 ⊢
  clear hzA hbB hbA hlt hzB
  go_wp2_with fail
  go_loop [3, 4] (fun f i => ∃ (k : Nat) (F : ByteArray), k ≤ n ∧ i = .int .i64 k ∧ f = .string F ∧ F.size ≤ 1000 + k * 1001 ∧ Hid (F.data.toList = 118 :: (I0 ++ 46 :: (I1 ++ 46 :: I2)) ++ (if k = 0 then [] else 45 :: join ((lstF n L).take k) [46]))) (fun _ i => n - (intOf i).toNat)
  case atStart => exact ⟨0, S, Nat.zero_le _, rfl, rfl, by omega, Lib.hid (by rw [HS.out]; simp)⟩
  case round =>
    obtain ⟨k, F, hk, rfl, rfl, hF, HF⟩ := hrel
    by_cases hlt : k < n
    · obtain ⟨b, o, rfl, hck⟩ := HC.out k hlt
      replace hck := Below.cell_some hbw hck
      have hLk := HLs.out k hlt
      by_cases h0 : k = 0
      · subst h0
        rw [Nat.add_zero] at hck
        have HN : Hid ((F ++ ⟨#[45]⟩ ++ L 0).data.toList = 118 :: (I0 ++ 46 :: (I1 ++ 46 :: I2)) ++ (if 0 + 1 = 0 then [] else 45 :: join ((lstF n L).take (0 + 1)) [46])) := Lib.hid (by
          rw [app_data', app_data', HF.out, if_pos rfl, if_neg (by omega), join_take_one n L hlt]; simp)
        have hsz : (F ++ ⟨#[45]⟩ ++ L 0).size ≤ 1000 + (0 + 1) * 1001 := by
          rw [ByteArray.size_append, ByteArray.size_append]
          show F.size + 1 + _ ≤ _
          omega
        go_wp2_with fail
        go_round
        case rel => exact ⟨0 + 1, _, by omega, by go_num, rfl, hsz, HN⟩
        case measure => simp [intOf]; omega
      · have h0' : ((k : Int) == 0) = false := beq_eq_false_iff_ne.2 (by omega)
        have HN : Hid ((F ++ ⟨#[46]⟩ ++ L k).data.toList = 118 :: (I0 ++ 46 :: (I1 ++ 46 :: I2)) ++ (if k + 1 = 0 then [] else 45 :: join ((lstF n L).take (k + 1)) [46])) := Lib.hid (by
          rw [app_data', app_data', HF.out, if_neg h0, if_neg (by omega), joinTail_succ n L k hlt (by omega)]; simp)
        have hsz : (F ++ ⟨#[46]⟩ ++ L k).size ≤ 1000 + (k + 1) * 1001 := by
          rw [ByteArray.size_append, ByteArray.size_append]
          show F.size + 1 + _ ≤ _
          omega
        clear h0
        go_wp2_with fail
        go_round
        case rel => exact ⟨k + 1, _, by omega, by go_num, rfl, hsz, HN⟩
        case measure => simp [intOf]; omega
    · obtain rfl : k = n := by omega
      have HX : Hid (F = ⟨R.toArray⟩) := Lib.hid (by
        apply bytes_ext.1
        rw [HF.out, HR.out]
        unfold verFmtS
        have hT := lstF_take_all k L
        rw [hT]
        by_cases h0 : k = 0
        · subst h0
          simp [lstF]
        · have hne : lstF k L ≠ [] := fun e => h0 (by have := congrArg List.length e; rwa [lstF_length] at this)
          rw [if_neg h0, if_neg hne]
          simp)
      go_wp2_with fail
      go_ret
      rw [HX.out]
      exact ⟨rfl, hbw⟩
end Go.Proofs.Pw
