/- The references' small functions: Cut, SameTexts. Conditions: texts of at most 1000000000 bytes. -/
import Derived.Test.YtaelindfneoajaaGreatDoorRefA
import Derived.OwnWalk
namespace Go.Proofs.Pw
open Go.RowKit
open Go.Lib hiding intOf

theorem Tryz.infoString : (Tryz.prog.info? 9).map (fun i => (i.zero, i.size, i.bytes)) = some (some (.string ⟨#[]⟩), 1, 16) := by kernel_rfl

/-- texts as values -/
def strVs (l : List ByteArray) : List Value := l.map Value.string
def strTs (l : List ByteArray) : List Str := l.map (·.data.toList)
theorem strTs_length (l) : (strTs l).length = l.length := List.length_map ..
theorem strVs_length (l) : (strVs l).length = l.length := List.length_map ..
theorem strVs_snoc (l : List ByteArray) (x : ByteArray) : strVs l ++ [.string x] = strVs (l ++ [x]) := by simp [strVs]
theorem strTs_snoc (l : List ByteArray) (x : ByteArray) : strTs (l ++ [x]) = strTs l ++ [x.data.toList] := by simp [strTs]
theorem lstF_list (l : List ByteArray) : lstF l.length (fun j => l.getD j ByteArray.empty) = strTs l := by
  apply List.ext_getElem
  · simp [lstF_length, strTs]
  · intro i h1 h2
    simp only [strTs, List.length_map] at h2
    simp [lstF, strTs, List.getD_eq_getElem?_getD, List.getElem?_eq_getElem h2]

/-- a row of the call's own, of texts, as it is read -/
theorem strsAt_own {w : World} {base e : Nat} {v : Value} {l : List ByteArray} (h : w.ownsRow base e 1 v l.length (strVs l)) : StrsAt w v (strTs l) := by
  rcases h.2 with ⟨rfl, h0⟩ | ⟨g, cap, cur, rfl, hb, hg, hn, hm, hs, ht⟩
  · have : l = [] := List.eq_nil_of_length_eq_zero h0
    subst this
    exact StrsAt.nil w
  · refine ⟨_, l.length, cap, fun j => l.getD j ByteArray.empty, rfl, (lstF_list l).symm, hn, by unfold maxLen at hm; exact hm, fun j hj => ⟨g, 0, rfl, ?_⟩⟩
    rw [Nat.zero_add, cell_of_row w g j cur e (0, 0) hg]
    have h1 : (strVs l)[j]? = some (.string (l.getD j ByteArray.empty)) := by
      simp [strVs, List.getD_eq_getElem?_getD, List.getElem?_eq_getElem hj]
    rw [← ht, List.getElem?_take, if_pos (by omega)] at h1
    simpa using h1

/-- a slice whose row was not there -/
def NewRow (w : World) (v : Value) : Prop := ∀ q n c, v = .slice (some q) n c → w.heap.size ≤ q.block
theorem newRow_own {w w' : World} {e k n : Nat} {v : Value} {xs : List Value} (h : w'.ownsRow w.heap.size e k v n xs) : NewRow w v := by
  rintro q m c rfl
  exact (h.lt q.block rfl).1

theorem extract_take_drop (s : ByteArray) (g k : Nat) (_hk : k ≤ s.size) : (s.extract g k).data.toList = (s.data.toList.take k).drop g := by
  rw [extract_data, List.drop_take]

theorem cutAt_step (c : UInt8) (s : ByteArray) (k g : Nat) (hlt : k < s.size) (hg : g ≤ k) :
    cutAt c ((s.data.toList.take k).drop g) (s.data.toList.drop k) = if s[k] = c then (s.extract g k).data.toList :: cutAt c ((s.data.toList.take (k + 1)).drop (k + 1)) (s.data.toList.drop (k + 1)) else cutAt c ((s.data.toList.take (k + 1)).drop g) (s.data.toList.drop (k + 1)) := by
  have e1 : (s.data.toList.take (k + 1)).drop (k + 1) = [] := List.drop_eq_nil_of_le (by rw [List.length_take]; omega)
  have e2 : (s.data.toList.take (k + 1)).drop g = (s.data.toList.take k).drop g ++ [s[k]] := by
    rw [take_snoc s k hlt, List.drop_append_of_le_length (by rw [List.length_take, ← size_eq]; omega)]
  rw [drop_cons s k hlt, cutAt, extract_take_drop s g k (by omega), e1, e2]

set_option maxHeartbeats 400000 in
/-- R.Cut -/
theorem refCut_calls (s : ByteArray) (c : UInt8) (w : World) (hs : s.size ≤ 1000000000) :
    Calls Tryz.prog 80 #[.string s, .int .u8 c.toNat] w fun e w' => (∃ v, e = .returned v ∧ StrsAt w' v (split s.data.toList [c]) ∧ NewRow w v) ∧ Below w.heap.size w w' := by
  obtain ⟨i0, hi, hz0, hz1, hz2⟩ := info_parts Tryz.infoString
  go_enter Tryz.func80, Tryz.ntmps80
  go_wp2_with fail
  go_loopw [5, 6, 7] (fun v f i wr => ∃ (k g : Nat) (P : List ByteArray), k ≤ s.size ∧ g ≤ k ∧ P.length ≤ k ∧ i = .int .i64 k ∧ f = .int .i64 g ∧ wr.ownsRow w.heap.size 9 1 v P.length (strVs P) ∧ Below w.heap.size w wr ∧ Hid (split s.data.toList [c] = strTs P ++ cutAt c ((s.data.toList.take k).drop g) (s.data.toList.drop k))) (fun _ _ i _ => s.size - (intOf i).toNat)
  case atStart => exact ⟨0, 0, [], Nat.zero_le _, Nat.le_refl _, Nat.le_refl _, rfl, rfl, World.ownsRow_nil _ _ _ _, Below.refl _ _, Lib.hid (split_eq c s.data.toList)⟩
  case round =>
    obtain ⟨k, g, P, hk, hg, hP, rfl, rfl, hown, hb, HC⟩ := hrel
    by_cases hlt : k < s.size
    · have hst := cutAt_step c s k g hlt hg
      by_cases hc : s[k] = c
      · rw [if_pos hc] at hst
        have hq : ((s[k].toNat : Int) == (c.toNat : Int)) = true := by rw [hc]; simp
        have HN : Hid (split s.data.toList [c] = strTs (P ++ [s.extract g k]) ++ cutAt c ((s.data.toList.take (k + 1)).drop (k + 1)) (s.data.toList.drop (k + 1))) := Lib.hid (by rw [HC.out, hst, strTs_snoc]; simp)
        have hc2 : (s[k].toNat : Int) = c.toNat := by rw [hc]
        clear hst hc
        go_wp2_with (at_builtin; refine wpList_append_own _ rfl _ _ 22 rfl w.heap.size 9 i0 (.string ⟨#[]⟩) 1 16 Tryz.underlying22 hi hz0 hz1 hz2 rfl (by decide) _ _ _ rfl (hown.alloc _) ⟨wr.heap.size, 0, none⟩ 1 1 [.string (s.extract g k)] rfl rfl (cell_one_new _ _ _) (fun x hx => by simp at hx; subst hx; rfl) (by unfold maxLen; omega) (by omega) (by have := hb.size; simp; omega) ?_; intro v' w1 hown1 hgrow1 _)
        go_roundw
        case rel =>
          refine ⟨k + 1, k + 1, P ++ [s.extract g k], by omega, Nat.le_refl _, by simp; omega, by go_num, by go_num, ?_, ?_, HN⟩
          · rw [← strVs_snoc, List.length_append]; exact hown1
          · exact (hb.alloc hb.size _).grown hgrow1 (by have := hb.size; simp; omega) (fun q hq => (hown.lt q hq).1)
        case measure => simp [intOf]; omega
      · rw [if_neg hc] at hst
        have hq : ((s[k].toNat : Int) == (c.toNat : Int)) = false := beq_eq_false_iff_ne.2 (fun e => hc (UInt8.toNat_inj.1 (by exact_mod_cast e)))
        have HN := Lib.hid (HC.out.trans (congrArg (strTs P ++ ·) hst))
        clear hst hc
        go_wp2_with fail
        go_roundw
        case rel => exact ⟨k + 1, g, P, by omega, by omega, by omega, by go_num, rfl, hown, hb, HN⟩
        case measure => simp [intOf]; omega
    · obtain rfl : k = s.size := by omega
      have HN : Hid (split s.data.toList [c] = strTs (P ++ [s.extract g s.size])) := Lib.hid (by
        rw [HC.out, drop_size, cutAt, strTs_snoc, take_size, extract_to_end])
      go_wp2_with (at_builtin; refine wpList_append_own _ rfl _ _ 22 rfl w.heap.size 9 i0 (.string ⟨#[]⟩) 1 16 Tryz.underlying22 hi hz0 hz1 hz2 rfl (by decide) _ _ _ rfl (hown.alloc _) ⟨wr.heap.size, 0, none⟩ 1 1 [.string (s.extract g s.size)] rfl rfl (cell_one_new _ _ _) (fun x hx => by simp at hx; subst hx; rfl) (by unfold maxLen; omega) (by omega) (by have := hb.size; simp; omega) ?_; intro v' w1 hown1 hgrow1 _)
      go_ret
      rw [HN.out]
      refine ⟨⟨v', rfl, strsAt_own (base := w.heap.size) (e := 9) ?_, newRow_own hown1⟩, (hb.alloc hb.size _).grown hgrow1 (by have := hb.size; simp; omega) (fun q hq => (hown.lt q hq).1)⟩
      rw [← strVs_snoc, List.length_append]; exact hown1

theorem lstF_ext {n : Nat} {L M : Nat → ByteArray} : lstF n L = lstF n M ↔ ∀ j, j < n → (L j).data.toList = (M j).data.toList := by
  simp [lstF]
theorem bytes_ext {a b : ByteArray} : a.data.toList = b.data.toList ↔ a = b := ⟨fun h => by
  apply ByteArray.ext; apply Array.ext'; exact h, fun h => by rw [h]⟩

/-- R.SameTexts -/
theorem refSame_calls (v u : Value) (l m : List Str) (w : World) (h : StrsAt w v l) (g : StrsAt w u m) :
    Calls Tryz.prog 16 #[v, u] w fun e w' => e = .returned (.bool (decide (l = m))) ∧ Below w.heap.size w w' := by
  obtain ⟨a, n, cap, L, rfl, rfl, hn, hcap, hc⟩ := h
  obtain ⟨a', n', cap', M, rfl, rfl, hn', hcap', hc'⟩ := g
  by_cases hnn : n = n'
  · subst hnn
    have H1 := Lib.hid hc
    have H2 := Lib.hid hc'
    clear hc hc'
    go_enter Tryz.func16, Tryz.ntmps16
    go_wp2_with fail
    go_loopw [5] (fun i wr => ∃ k : Nat, k ≤ n ∧ i = .int .i64 k ∧ Below w.heap.size w wr ∧ Hid (∀ j, j < k → (L j).data.toList = (M j).data.toList)) (fun i _ => n - (intOf i).toNat)
    case atStart => exact ⟨0, by omega, rfl, Below.refl _ _, Lib.hid (fun j hj => absurd hj (Nat.not_lt_zero _))⟩
    case round =>
      obtain ⟨k, hk, rfl, hb, HA⟩ := hrel
      by_cases hlt : k < n
      · obtain ⟨b1, o1, rfl, d1⟩ := H1.out k hlt
        obtain ⟨b2, o2, rfl, d2⟩ := H2.out k hlt
        replace d1 := Below.cell_some hb d1
        replace d2 := Below.cell_some hb d2
        by_cases he : (L k).data.toList = (M k).data.toList
        · have HE := Lib.hid he
          have he2 := bytes_ext.1 he
          rw [he2] at d1
          clear he he2
          go_wp2_with fail
          go_region
          all_goals
            go_wp2_with fail
            go_roundw
            case rel =>
              refine ⟨k + 1, by omega, by go_num, hb.drew, Lib.hid (fun j hj => ?_)⟩
              by_cases e : j = k
              · subst e; exact HE.out
              · exact HA.out j (by omega)
            case measure => simp [intOf]; omega
        · have HF : Hid (decide (lstF n L = lstF n M) = false) := Lib.hid (decide_eq_false (fun e => he (lstF_ext.1 e k hlt)))
          have he1 : ((L k).toList == (M k).toList) = false := by rw [toList_data, toList_data]; exact beq_eq_false_iff_ne.2 he
          have he2 : L k ≠ M k := fun e => he (by rw [e])
          have he3 : (L k).toList ≠ (M k).toList := by rw [toList_data, toList_data]; exact he
          clear he
          go_wp2_with fail
          go_region
          all_goals
            go_wp2_with fail
            go_ret
            rw [HF.out]
            exact ⟨rfl, hb.drew⟩
      · obtain rfl : k = n := by omega
        have HF : Hid (decide (lstF k L = lstF k M) = true) := Lib.hid (decide_eq_true (lstF_ext.2 HA.out))
        go_wp2_with fail
        go_ret
        rw [HF.out]
        exact ⟨rfl, hb⟩
  · have HF : Hid (decide (lstF n L = lstF n' M) = false) := Lib.hid (decide_eq_false (fun e => hnn (by have := congrArg List.length e; rwa [lstF_length, lstF_length] at this)))
    have hnn2 : ((n : Int) == (n' : Int)) = false := beq_eq_false_iff_ne.2 (by omega)
    clear hc hc' hnn
    go_enter Tryz.func16, Tryz.ntmps16
    go_wp2_with fail
    go_ret
    rw [HF.out]
    exact ⟨rfl, Below.refl _ _⟩
end Go.Proofs.Pw
