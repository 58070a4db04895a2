/- Pf: walks and plain laws, joined: ModPath Mod2 ModAhead Patch File File2 Mem2. Conditions: at each theorem. -/
import Derived.Test.YtkfnhchlfojomaaGreatDoorPfj
import Derived.Test.YtkfnhchlfojomaaGreatDoorPfg
import Derived.Test.YtkfnhchlfojomaaGreatDoorPfb
import Derived.WalkKit
import Derived.Deep.QuietTactic
import Derived.BigQuiet
import Derived.Shelf.SlSortCmp.QuietGrown
import Derived.Shelf.Abstract

namespace Go.Proofs.Pw
open Go.RowKit
open Go.Lib hiding intOf
def Tests (g : Nat) (lb : Array Value) (p : Str → Bool) (n : Nat) (L : Nat → ByteArray) (w : World) : Prop :=
  ∀ w', Below w.heap.size w w' → ∀ j, j < n → Calls Tryz.prog g (#[.string (L j)] ++ lb) w' fun e w'' => e = .returned (.bool (p (L j).data.toList)) ∧ Below w'.heap.size w' w''
theorem any_lstF (p : Str → Bool) (L : Nat → ByteArray) : ∀ n, (lstF n L).any p = true ↔ ∃ j, j < n ∧ p (L j).data.toList = true := fun n => by
  simp [lstF]
set_option maxHeartbeats 400000 in
theorem indexFunc_calls (g : Nat) (lb : Array Value) (eg : ∀ args w, (callFunc g args).run Tryz.prog w = .ok (.enter g args) w) (p : Str → Bool) (b o n cap : Nat) (L : Nat → ByteArray) (w : World) (hn : n ≤ 4000000001)
    (hc : ∀ j, j < n → w.cell? ⟨b, o + j, none⟩ = some (.string (L j))) (hT : Tests g lb p n L w) :
    Calls Tryz.prog 149 #[.slice (some ⟨b, o, none⟩) n cap, .func (.func g) #[] lb] w fun e w' => (∃ i : Int, e = .returned (.int .i64 i) ∧ (0 ≤ i ↔ (lstF n L).any p = true)) ∧ Below w.heap.size w w' := by
  have HC := Lib.hid hc
  have HT := Lib.hid hT
  clear hc hT
  go_enter Tryz.func149, Tryz.ntmps149
  go_wp2_with fail
  go_loopw [8] (fun i wr => ∃ k : Nat, k ≤ n ∧ i = .int .i64 k ∧ Below w.heap.size w wr ∧ Hid (∀ j, j < k → p (L j).data.toList = false)) (fun i _ => n - (intOf i).toNat)
  case atStart => exact ⟨0, by omega, rfl, Below.refl _ _, Lib.hid (fun j hj => absurd hj (Nat.not_lt_zero _))⟩
  case round =>
    obtain ⟨k, hk, rfl, hb, HA⟩ := hrel
    by_cases hlt : k < n
    · have hck := Below.cell_some hb (HC.out k hlt)
      have hcall := HT.out wr hb k hlt
      have HL := Lib.hid (rfl : L k = L k)
      cases hq : p (L k).data.toList with
      | true =>
        rw [hq] at hcall
        have HQ := Lib.hid hq
        clear hq
        go_wp2_with (go_at_fn g; refine hcall.mono ?_; rintro e w' ⟨rfl, hb2⟩)
        go_ret
        exact ⟨⟨_, rfl, iff_of_true (by omega) ((any_lstF p L n).2 ⟨k, hlt, HQ.out⟩)⟩, below_step hb hb2⟩
      | false =>
        rw [hq] at hcall
        have HQ := Lib.hid hq
        clear hq
        go_wp2_with (go_at_fn g; refine hcall.mono ?_; rintro e w' ⟨rfl, hb2⟩)
        go_roundw
        case rel =>
          refine ⟨k + 1, by omega, by go_num, below_step hb hb2, Lib.hid (fun j hj => ?_)⟩
          by_cases e : j = k
          · subst e; exact HQ.out
          · exact HA.out j (by omega)
        case measure => simp [intOf]; omega
    · obtain rfl : k = n := by omega
      go_wp2_with fail
      go_ret
      refine ⟨⟨_, rfl, iff_of_false (by decide) ?_⟩, hb⟩
      intro h
      obtain ⟨j, hj, h2⟩ := (any_lstF p L k).1 h
      rw [HA.out j hj] at h2
      cases h2
theorem containsFunc_calls (g : Nat) (lb : Array Value) (eg : ∀ args w, (callFunc g args).run Tryz.prog w = .ok (.enter g args) w) (p : Str → Bool) (b o n cap : Nat) (L : Nat → ByteArray) (w : World) (hn : n ≤ 4000000001)
    (hc : ∀ j, j < n → w.cell? ⟨b, o + j, none⟩ = some (.string (L j))) (hT : Tests g lb p n L w) :
    Calls Tryz.prog 111 #[.slice (some ⟨b, o, none⟩) n cap, .func (.func g) #[] lb] w fun e w' => e = .returned (.bool ((lstF n L).any p)) ∧ Below w.heap.size w w' := by
  have H := indexFunc_calls g lb eg p b o n cap L w hn hc hT
  clear hc hT
  go_enter Tryz.func111, Tryz.ntmps111
  go_wp2_with fail
  refine H.mono ?_
  rintro e w1 ⟨⟨i, rfl, hi⟩, hb⟩
  cases ha : (lstF n L).any p with
  | true =>
    have h0 : 0 ≤ i := hi.2 ha
    have HA := Lib.hid ha
    clear hi ha H
    go_wp2_with fail
    go_ret
    rw [HA.out]
    exact ⟨rfl, hb⟩
  | false =>
    have h0 : ¬ 0 ≤ i := fun h => by rw [hi.1 h] at ha; cases ha
    have HA := Lib.hid ha
    clear hi ha H
    go_wp2_with fail
    go_ret
    rw [HA.out]
    exact ⟨congrArg (fun b => Ending.returned (Value.bool b)) (decide_eq_false (by omega)), hb⟩
theorem enters_path1 : ∀ args w, (callFunc 112 args).run Tryz.prog w = .ok (.enter 112 args) w := Go.Proofs.enters_of Tryz.func112 (by kernel_rfl) rfl
theorem enters_path2 : ∀ args w, (callFunc 114 args).run Tryz.prog w = .ok (.enter 114 args) w := Go.Proofs.enters_of Tryz.func114 (by kernel_rfl) rfl
theorem tests_path1 (ks : List Nat) (A : Nat → Addr) (n : Nat) (L : Nat → ByteArray) (w : World) (hE : EnvP ks A w) (hL : ∀ j, j < n → (L j).size ≤ 4000000000) : Tests 112 #[] (fun s => !elemOk s) n L w := by
  intro w' hb j hj
  have hE' := hE.below hb
  have hLj := hL j hj
  clear hL hE hb
  generalize L j = s at hLj ⊢
  show Calls Tryz.prog _ #[.string s] w' fun e w'' => e = .returned (.bool (!elemOk s.data.toList)) ∧ Below w'.heap.size w' w''
  go_enter Tryz.func112, Tryz.ntmps112
  go_wp2_with fail
  refine (elem_calls ks A s w' hE' hLj).mono ?_
  rintro e w1 ⟨rfl, hb1⟩
  go_wp2_with fail
  go_ret
  exact ⟨rfl, hb1⟩
theorem tests_path2 (n : Nat) (L : Nat → ByteArray) (w : World) : Tests 114 #[] (fun s => decide (10 < s.length)) n L w := by
  intro w' hb j hj
  have hsz := size_eq (L j)
  clear hb
  generalize L j = s at hsz ⊢
  show Calls Tryz.prog _ #[.string s] w' fun e w'' => e = .returned (.bool (decide (10 < s.data.toList.length))) ∧ Below w'.heap.size w' w''
  rw [← hsz]
  clear hsz
  by_cases h : 10 < s.size
  · rw [decide_eq_true h]
    go_enter Tryz.func114, Tryz.ntmps114
    go_wp2_with fail
    go_ret
    exact ⟨congrArg (fun b => Ending.returned (Value.bool b)) (decide_eq_true (by omega)), Below.refl _ _⟩
  · rw [decide_eq_false h]
    go_enter Tryz.func114, Tryz.ntmps114
    go_wp2_with fail
    go_ret
    exact ⟨congrArg (fun b => Ending.returned (Value.bool b)) (decide_eq_false (by omega)), Below.refl _ _⟩
theorem getLast_lstF (n : Nat) (L : Nat → ByteArray) (h : 1 ≤ n) : (lstF n L).getLast?.getD [] = (L (n - 1)).data.toList := by
  rw [List.getLast?_eq_getElem?, lstF_length, lstF_get n L (n - 1) (by omega)]
  rfl
theorem suffixWell_calls (ks : List Nat) (A : Nat → Addr) (s : ByteArray) (w : World) (hE : EnvP ks A w) (hs : s.size ≤ 4000000000) :
    Calls Tryz.prog 110 #[.string s] w fun e w' => (∃ n : Int, e = .returned (.tuple #[.int .i64 n, .bool (isSuf s.data.toList), .bool (sufWell s.data.toList)]) ∧ (isSuf s.data.toList = true → n = (sufNum s.data.toList : Nat))) ∧ Below w.heap.size w w' := by
  cases hl : looksSuf s.data.toList with
  | false =>
    rw [(suf_no hl).1, (suf_no hl).2]
    exact (suffix_no ks A s w hE hs hl).mono fun e w' ⟨h, hb⟩ => ⟨⟨0, h, fun h => absurd h (by decide)⟩, hb⟩
  | true =>
    rw [suf_digits hl]
    exact suffix_dig ks A s w hE hs hl
set_option maxHeartbeats 1000000 in
theorem path_calls (ks : List Nat) (A : Nat → Addr) (h4 : 4 ∈ ks) (s : ByteArray) (w : World) (hE : EnvP ks A w) (hs : s.size ≤ 1000000000) :
    Calls Tryz.prog 42 #[.string s] w fun e w' => e = .returned (errV A (pathErr s.data.toList)) ∧ Below w.heap.size w w' := by
  have hpe : pathErr s.data.toList = (let l := split s.data.toList [47]; if l.any (fun w => !elemOk w) then 1 else if 5 < l.length ∨ l.any (fun w => decide (10 < w.length)) then 2 else if 1 < l.length ∧ sufWell (l.getLast?.getD []) = false then 4 else 0) := rfl
  generalize pathErr s.data.toList = R at hpe ⊢
  have HR := Lib.hid hpe
  clear hpe
  go_enter Tryz.func42, Tryz.ntmps42
  go_wp2_with fail
  refine (split_calls _ ⟨#[47]⟩ _ hE.m (Nat.le_trans hs (by decide)) (by decide)).mono ?_
  rintro e w1 ⟨n, rfl, hn1, hn2, HL, hb1, hc1, hz1⟩
  have hLs := lstF_mem_le (by decide) HL.out
  have hE1 := hE.below hb1
  have hn9 : n ≤ 1000000001 := Nat.le_trans hn2 (Nat.succ_le_succ hs)
  have hLs4 : ∀ j, j < n → (splitL s ⟨#[47]⟩ j).size ≤ 4000000000 := fun j hj => Nat.le_trans (hLs j hj) (by rw [← size_eq]; omega)
  have HR2 : Hid (R = if (lstF n (splitL s ⟨#[47]⟩)).any (fun w => !elemOk w) then 1 else if 5 < n ∨ (lstF n (splitL s ⟨#[47]⟩)).any (fun w => decide (10 < w.length)) then 2 else if 1 < n ∧ sufWell (splitL s ⟨#[47]⟩ (n - 1)).data.toList = false then 4 else 0) := by
    refine Lib.hid ?_
    rw [HR.out]
    show (let l := split s.data.toList (⟨#[47]⟩ : ByteArray).data.toList; _) = _
    rw [← HL.out]
    simp only
    rw [lstF_length, getLast_lstF n _ hn1]
  generalize splitL s ⟨#[47]⟩ = L at hc1 hLs4 HR2 ⊢
  have HC := Lib.hid hc1
  clear HR HL hLs hn2 hc1
  obtain ⟨m, rfl⟩ : ∃ m, n = m + 1 := ⟨n - 1, by omega⟩
  rw [Nat.add_sub_cancel] at HR2
  have hck := HC.out m (by omega)
  have hLm := hLs4 m (by omega)
  have T1 := containsFunc_calls 112 #[] enters_path1 (fun s => !elemOk s) w.heap.size 0 (m + 1) (m + 1) L
  have T2 := containsFunc_calls 114 #[] enters_path2 (fun s => decide (10 < s.length)) w.heap.size 0 (m + 1) (m + 1) L
  have HT1 := Lib.hid T1
  have HT2 := Lib.hid T2
  clear T1 T2
  go_wp2_with fail
  refine (suffixWell_calls ks A (L m) _ hE1 hLm).mono ?_
  rintro e w2 ⟨⟨q, rfl, _⟩, hb2⟩
  have hE2 := hE1.below hb2
  have hb12 := below_step hb1 hb2
  clear hck
  go_wp2_with fail
  have hC2 : ∀ j, j < m + 1 → w2.cell? ⟨w.heap.size, 0 + j, none⟩ = some (.string (L j)) := fun j hj => by rw [Nat.zero_add]; exact Below.cell_some hb2 (HC.out j hj)
  refine (HT1.out w2 (by omega) hC2 (tests_path1 ks A _ L w2 hE2 hLs4)).mono ?_
  rintro e w3 ⟨rfl, hb3⟩
  have hb13 := below_step hb12 hb3
  have hE3 := hE2.below hb3
  have g1 := hE3.errs.var 1 hE.has.1
  have g2 := hE3.errs.var 2 hE.has.2
  simp only [errG] at g1 g2
  clear HT1 hb1 hE1 hE2
  cases ha1 : (lstF (m + 1) L).any (fun w => !elemOk w) with
  | true =>
    have HF : Hid (R = 1) := Lib.hid (by rw [HR2.out, if_pos ha1])
    clear ha1 hC2 g2
    go_wp2_with fail
    go_ret
    rw [HF.out]
    exact ⟨rfl, hb13⟩
  | false =>
    have HA1 := Lib.hid ha1
    clear ha1
    by_cases h5 : 5 < m + 1
    · have HF : Hid (R = 2) := Lib.hid (by rw [HR2.out, if_neg (by rw [HA1.out]; decide), if_pos (.inl h5)])
      clear hC2 g1
      go_wp2_with fail
      go_ret
      rw [HF.out]
      exact ⟨rfl, hb13⟩
    · have hC3 : ∀ j, j < m + 1 → w3.cell? ⟨w.heap.size, 0 + j, none⟩ = some (.string (L j)) := fun j hj => Below.cell_some hb3 (hC2 j hj)
      have T3 := HT2.out w3 (by omega) hC3 (tests_path2 _ L w3)
      have HT3 := Lib.hid T3
      clear T3 hC2 hC3 HT2 g1 g2
      go_wp2_with fail
      refine HT3.out.mono ?_
      rintro e w4 ⟨rfl, hb4⟩
      have hb14 := below_step hb13 hb4
      have hE4 := hE3.below hb4
      have g2 := hE4.errs.var 2 hE.has.2
      have g4 := hE4.errs.var 4 h4
      simp only [errG] at g2 g4
      clear HT3
      cases ha2 : (lstF (m + 1) L).any (fun w => decide (10 < w.length)) with
      | true =>
        have HF : Hid (R = 2) := Lib.hid (by rw [HR2.out, if_neg (by rw [HA1.out]; decide), if_pos (.inr ha2)])
        clear ha2 g4
        go_wp2_with fail
        go_ret
        rw [HF.out]
        exact ⟨rfl, hb14⟩
      | false =>
        have HA2 := Lib.hid ha2
        clear ha2 g2
        by_cases h1 : 1 < m + 1
        · cases hw : sufWell (L m).data.toList with
          | true =>
            have HF : Hid (R = 0) := Lib.hid (by rw [HR2.out, if_neg (by rw [HA1.out]; decide), if_neg (by rintro (h | h); exact h5 h; rw [HA2.out] at h; cases h), if_neg (by rintro ⟨_, h⟩; rw [hw] at h; cases h)])
            clear hw g4
            go_wp2_with fail
            go_ret
            rw [HF.out]
            exact ⟨rfl, hb14⟩
          | false =>
            have HF : Hid (R = 4) := Lib.hid (by rw [HR2.out, if_neg (by rw [HA1.out]; decide), if_neg (by rintro (h | h); exact h5 h; rw [HA2.out] at h; cases h), if_pos ⟨h1, hw⟩])
            clear hw
            go_wp2_with fail
            go_ret
            rw [HF.out]
            exact ⟨rfl, hb14⟩
        · have HF : Hid (R = 0) := Lib.hid (by rw [HR2.out, if_neg (by rw [HA1.out]; decide), if_neg (by rintro (h | h); exact h5 h; rw [HA2.out] at h; cases h), if_neg (fun h => h1 h.1)])
          clear g4
          go_wp2_with fail
          go_ret
          rw [HF.out]
          exact ⟨rfl, hb14⟩
end Go.Proofs.Pw

namespace Go.Proofs.Pw
open Go.RowKit
open Go.Lib hiding intOf
theorem modSplit_bad {s : Str} (h : pathErr s ≠ 0) : modSplit s = ([], 0) := by unfold modSplit; rw [if_pos h]
theorem modSplit_no {s : Str} (h : pathErr s = 0) (hl : lastIndex s [47] < 0) : modSplit s = (s, 0) := by unfold modSplit; rw [if_neg (by rw [h]; simp)]; simp only; rw [if_pos hl]
theorem modSplit_at {s : Str} (h : pathErr s = 0) {k : Nat} (hl : lastIndex s [47] = k) : modSplit s = if isSuf (s.drop (k + 1)) then (s.take k, sufNum (s.drop (k + 1))) else (s, 0) := by
  unfold modSplit; rw [if_neg (by rw [h]; simp)]; simp only; rw [if_neg (by omega), hl]; rfl
theorem lastOcc_lt (s sub : Str) : ∀ n, lastOcc s sub n < n := by
  intro n
  induction n with
  | zero => unfold lastOcc; omega
  | succ n ih => unfold lastOcc; split <;> omega
theorem lastIndex_lt (s : Str) (c : UInt8) : lastIndex s [c] < s.length := by
  unfold lastIndex
  split
  · rename_i h
    have := lastOcc_lt s [c] (s.length - [c].length + 1)
    simp only [List.length_cons, List.length_nil] at h this ⊢
    omega
  · omega
theorem modSplit_calls (ks : List Nat) (A : Nat → Addr) (h4 : 4 ∈ ks) (s : ByteArray) (w : World) (hE : EnvP ks A w) (hs : s.size ≤ 1000000000) :
    Calls Tryz.prog 130 #[.string s] w fun e w' => e = .returned (.tuple #[.string ⟨(modSplit s.data.toList).1.toArray⟩, .int .i64 ((modSplit s.data.toList).2 : Nat)]) ∧ Below w.heap.size w w' := by
  by_cases hp : pathErr s.data.toList = 0
  · have hlt := lastIndex_lt s.data.toList 47
    have hL := Tryz.strings_LastIndex s ⟨#[47]⟩ (by omega)
    rw [show (⟨#[47]⟩ : ByteArray).data.toList = [47] from rfl] at hL
    by_cases hl : lastIndex s.data.toList [47] < 0
    · rw [modSplit_no hp hl]
      generalize lastIndex s.data.toList [47] = i at hl hL
      have HL := Lib.hid hL
      have HP := Lib.hid hp
      clear hlt hp hL
      go_enter Tryz.func130, Tryz.ntmps130
      go_wp2_with fail
      refine (path_calls ks A h4 s w hE hs).mono ?_
      rintro e w1 ⟨rfl, hb1⟩
      rw [HP.out, errV_zero]
      go_wp2_with fail
      refine (HL.out w1).mono ?_
      rintro e w2 ⟨rfl, rfl⟩
      go_wp2_with fail
      go_ret2
      exact ⟨rfl, hb1⟩
    · obtain ⟨k, hk⟩ : ∃ k : Nat, lastIndex s.data.toList [47] = k := ⟨(lastIndex s.data.toList [47]).toNat, by omega⟩
      have hm := modSplit_at hp hk
      have hks : k < s.size := by rw [size_eq]; omega
      rw [hk] at hL
      generalize modSplit s.data.toList = R at hm ⊢
      have HM := Lib.hid hm
      have HL := Lib.hid hL
      have HP := Lib.hid hp
      clear hlt hp hL hl hk hm
      go_enter Tryz.func130, Tryz.ntmps130
      go_wp2_with fail
      refine (path_calls ks A h4 s w hE hs).mono ?_
      rintro e w1 ⟨rfl, hb1⟩
      rw [HP.out, errV_zero]
      go_wp2_with fail
      refine (HL.out w1).mono ?_
      rintro e w2 ⟨rfl, rfl⟩
      have hsz : (s.extract (k + 1) s.size).size ≤ 4000000000 := by simp; omega
      have hE1 := hE.below hb1
      go_wp2_with fail
      refine (suffixWell_calls ks A _ _ hE1 hsz).mono ?_
      rintro e w3 ⟨⟨q, rfl, hq⟩, hb3⟩
      have hdr : (s.extract (k + 1) s.size).data.toList = s.data.toList.drop (k + 1) := extract_to_end s (k + 1)
      rw [hdr] at hq ⊢
      have hb13 := below_step hb1 hb3
      cases hi : isSuf (s.data.toList.drop (k + 1)) with
      | true =>
        have HQ := Lib.hid (hq hi)
        have HF : Hid (R = (s.data.toList.take k, sufNum (s.data.toList.drop (k + 1)))) := Lib.hid (by rw [HM.out, if_pos hi])
        clear hq hi hdr
        go_wp2_with fail
        go_ret2
        rw [HF.out, HQ.out]
        refine ⟨?_, hb13⟩
        have : s.extract 0 k = ⟨(s.data.toList.take k).toArray⟩ := by
          apply ByteArray.ext
          apply Array.ext'
          simp
        rw [this]
        rfl
      | false =>
        have HF : Hid (R = (s.data.toList, 0)) := Lib.hid (by rw [HM.out, if_neg (by rw [hi]; decide)])
        clear hq hi hdr
        go_wp2_with fail
        go_ret2
        rw [HF.out]
        exact ⟨rfl, hb13⟩
  · rw [modSplit_bad hp]
    have HP := Lib.hid hp
    clear hp
    go_enter Tryz.func130, Tryz.ntmps130
    go_wp2_with fail
    refine (path_calls ks A h4 s w hE hs).mono ?_
    rintro e w1 ⟨rfl, hb1⟩
    rw [errV_pos A HP.out]
    go_wp2_with fail
    go_ret2
    exact ⟨rfl, hb1⟩
theorem modErr_path {p v : Str} (h : pathErr p ≠ 0) : modErr p v = pathErr p := by unfold modErr; rw [if_pos h]
theorem modErr_ver {p v : Str} (h : pathErr p = 0) (h2 : verErr v ≠ 0) : modErr p v = verErr v := by unfold modErr; rw [if_neg (by rw [h]; simp), if_pos h2]
theorem modErr_major {p v : Str} (h : pathErr p = 0) (h2 : verErr v = 0) : modErr p v = if ((modSplit p).2 = 0 ∧ 1 < verNum v 0) ∨ (0 < (modSplit p).2 ∧ verNum v 0 ≠ (modSplit p).2) then 4 else 0 := by
  unfold modErr; rw [if_neg (by rw [h]; simp), if_neg (by rw [h2]; simp)]
structure Box2 (w : World) (b : Nat) (v0 v1 : Value) : Prop where
  c0 : w.cell? ⟨b, 0, none⟩ = some v0
  c1 : w.cell? ⟨b, 1, none⟩ = some v1
  fr : ∀ j, w.frozen? ⟨b, j, none⟩ = false
theorem Box2.below {w w' : World} {b : Nat} {v0 v1 : Value} (h : Box2 w b v0 v1) (hb : Below w.heap.size w w') : Box2 w' b v0 v1 :=
  ⟨Below.cell_some hb h.c0, Below.cell_some hb h.c1, fun j => (hb.frozen (p := ⟨b, j, none⟩) (show b < w.heap.size from lt_of_cell h.c0)).trans (h.fr j)⟩
theorem box2_alloc (w : World) (v0 v1 : Value) (t : TypeId) : Box2 (w.alloc (.cells #[v0, v1] t)) w.heap.size v0 v1 :=
  ⟨by simp, by simp, fun j => by simp⟩
set_option maxHeartbeats 1000000 in
theorem modCheck_calls (ks : List Nat) (A : Nat → Addr) (h4 : 4 ∈ ks) (p v : ByteArray) (w : World) (hE : EnvP ks A w) (hp : p.size ≤ 1000000000) (hv : v.size ≤ 1000000000) :
    Calls Tryz.prog 65 #[.agg #[.string p, .string v]] w fun e w' => e = .returned (errV A (modErr p.data.toList v.data.toList)) ∧ Below w.heap.size w w' := by
  have hbA := below_alloc w (.cells #[.string p, .string v] 29)
  have hzA := box2_alloc w (.string p) (.string v) 29
  have hEA := hE.below hbA
  by_cases h1 : pathErr p.data.toList = 0
  · have H1 := Lib.hid h1
    by_cases h2 : verErr v.data.toList = 0
    · have hm := modErr_major h1 h2
      have H2 := Lib.hid h2
      have hmc : ((modSplit p.data.toList).2 = 0 ∧ 1 < verNum v.data.toList 0) ∨ ((modSplit p.data.toList).2 = 0 ∧ ¬ 1 < verNum v.data.toList 0) ∨ (0 < (modSplit p.data.toList).2 ∧ verNum v.data.toList 0 ≠ (modSplit p.data.toList).2) ∨ (0 < (modSplit p.data.toList).2 ∧ verNum v.data.toList 0 = (modSplit p.data.toList).2) := by omega
      generalize modErr p.data.toList v.data.toList = R at hm ⊢
      have HM := Lib.hid hm
      have HMC := Lib.hid hmc
      clear h1 h2 hm hmc
      go_enter Tryz.func65, Tryz.ntmps65
      go_wp2_with fail
      refine (path_calls ks A h4 p _ hEA hp).mono ?_
      rintro e w1 ⟨rfl, hb1⟩
      rw [H1.out, errV_zero]
      have hz1 := hzA.below hb1
      have c0 := hz1.c0
      have c1 := hz1.c1
      have hE1 := hEA.below hb1
      have hb01 := below_step hbA hb1
      go_wp2_with fail
      refine (verSplit_calls ks A v w1 hE1 hv).mono ?_
      rintro e w2 ⟨hb2, vv, rfl, a, n, cap, L, rfl, _, _, _, _⟩
      have hz2 := hz1.below hb2
      have hE2 := hE1.below hb2
      have hb02 := below_step hb01 hb2
      clear c0 c1
      have c0 := hz2.c0
      have c1 := hz2.c1
      rw [H2.out, errV_zero]
      have hbB := below_alloc w2 (.cells #[.int .i64 (verNum v.data.toList 0 : Nat), .int .i64 (verNum v.data.toList 1 : Nat), .int .i64 (verNum v.data.toList 2 : Nat), .slice a n cap] 132)
      have d0 := (hz2.below hbB).c0
      have d1 := (hz2.below hbB).c1
      have hE3 := hE2.below hbB
      have hb03 := below_step hb02 hbB
      have hz3 := box4_alloc w2 (.int .i64 (verNum v.data.toList 0 : Nat)) (.int .i64 (verNum v.data.toList 1 : Nat)) (.int .i64 (verNum v.data.toList 2 : Nat)) (.slice a n cap) 132
      go_wp2_with fail
      refine (modSplit_calls ks A h4 p _ hE3 hp).mono ?_
      rintro e w4 ⟨rfl, hb4⟩
      have z0 := (hz3.below hb4).c0
      have hb04 := below_step hb03 hb4
      have g4 := (hE3.below hb4).errs.var 4 h4
      simp only [errG] at g4
      clear c0 c1 d0 d1 hz3 hz2 hz1 hb1 hb2 hb01 hb02 hb03 hbB hE1 hE2 hE3 hb4
      generalize verNum v.data.toList 0 = mj at z0 HM HMC ⊢
      generalize (modSplit p.data.toList).2 = q at HM HMC ⊢
      rcases HMC.out with ⟨rfl, h⟩ | ⟨rfl, h⟩ | ⟨h, h'⟩ | ⟨h, rfl⟩
      · have HF : Hid (R = 4) := Lib.hid (by rw [HM.out, if_pos (.inl ⟨rfl, h⟩)])
        have hi : (1 : Int) < (mj : Int) := by omega
        have hi2 : decide ((1 : Int) < (mj : Int)) = true := decide_eq_true hi
        clear HM HMC h
        go_wp2_with fail
        go_ret
        rw [HF.out]
        exact ⟨rfl, hb04⟩
      · have HF : Hid (R = 0) := Lib.hid (by rw [HM.out, if_neg (by omega)])
        have hi : ¬ (1 : Int) < (mj : Int) := by omega
        clear HM HMC h
        go_wp2_with fail
        go_ret
        rw [HF.out]
        exact ⟨rfl, hb04⟩
      · have HF : Hid (R = 4) := Lib.hid (by rw [HM.out, if_pos (.inr ⟨h, h'⟩)])
        have hi : (0 : Int) < (q : Int) := by omega
        have hi0 : ((q : Int) == 0) = false := beq_eq_false_iff_ne.2 (by omega)
        have hi1 : ((mj : Int) == (q : Int)) = false := beq_eq_false_iff_ne.2 (by omega)
        clear HM HMC h h'
        go_wp2_with fail
        go_ret
        rw [HF.out]
        exact ⟨rfl, hb04⟩
      · have HF : Hid (R = 0) := Lib.hid (by rw [HM.out, if_neg (by omega)])
        have hi : (0 : Int) < (mj : Int) := by omega
        have hi0 : ((mj : Int) == 0) = false := beq_eq_false_iff_ne.2 (by omega)
        clear HM HMC h
        go_wp2_with fail
        go_ret
        rw [HF.out]
        exact ⟨rfl, hb04⟩
    · rw [modErr_ver h1 h2, errV_pos A h2]
      have H2 := Lib.hid h2
      clear h1 h2
      go_enter Tryz.func65, Tryz.ntmps65
      go_wp2_with fail
      refine (path_calls ks A h4 p _ hEA hp).mono ?_
      rintro e w1 ⟨rfl, hb1⟩
      rw [H1.out, errV_zero]
      have hz1 := hzA.below hb1
      have c0 := hz1.c0
      have c1 := hz1.c1
      have hE1 := hEA.below hb1
      have hb01 := below_step hbA hb1
      go_wp2_with fail
      refine (verSplit_calls ks A v w1 hE1 hv).mono ?_
      rintro e w2 ⟨hb2, vv, rfl, a, n, cap, L, rfl, _, _, _, _⟩
      have hb02 := below_step hb01 hb2
      rw [errV_pos A H2.out]
      go_wp2_with fail
      go_ret
      exact ⟨rfl, hb02.alloc hb02.size _⟩
  · rw [modErr_path h1, errV_pos A h1]
    have HP := Lib.hid h1
    clear h1
    go_enter Tryz.func65, Tryz.ntmps65
    go_wp2_with fail
    refine (path_calls ks A h4 p _ hEA hp).mono ?_
    rintro e w1 ⟨rfl, hb1⟩
    rw [errV_pos A HP.out]
    go_wp2_with fail
    go_ret
    exact ⟨rfl, below_step hbA hb1⟩
end Go.Proofs.Pw

namespace Go.Proofs.Pw
open Go.RowKit
open Go.Lib hiding intOf
theorem ahead_eq (p v q u : ByteArray) : modAhead (p.data.toList, v.data.toList) (q.data.toList, u.data.toList) = (Op.bytesLess p.toList q.toList || (p.toList == q.toList && verLess v.data.toList u.data.toList)) := by
  rw [toList_data, toList_data, bytesLess_iff]
  unfold modAhead
  congr 2
  rw [Bool.eq_iff_iff]
  simp
set_option maxHeartbeats 1000000 in
theorem modAhead_calls (ks : List Nat) (A : Nat → Addr) (p v q u : ByteArray) (w : World) (hE : EnvP ks A w) (hv : v.size ≤ 1000000000) (hu : u.size ≤ 1000000000) :
    Calls Tryz.prog 66 #[.agg #[.string p, .string v], .agg #[.string q, .string u]] w fun e w' => e = .returned (.bool (modAhead (p.data.toList, v.data.toList) (q.data.toList, u.data.toList))) ∧ Below w.heap.size w w' := by
  have hm := ahead_eq p v q u
  have hl := fun W hW => verLess_calls ks A v u W hW hv hu
  have hb1 := below_alloc w (.cells #[.string p, .string v] 29)
  have hB := below_step hb1 (below_alloc _ (.cells #[.string q, .string u] 29))
  replace hE := hE.below hB
  generalize modAhead (p.data.toList, v.data.toList) (q.data.toList, u.data.toList) = R at hm ⊢
  generalize verLess v.data.toList u.data.toList = X at hl hm
  replace hm := Lib.hid hm
  replace hl := Lib.hid hl
  clear hb1
  cases h1 : Op.bytesLess p.toList q.toList with
  | true =>
    have HF : Hid (R = true) := Lib.hid (by rw [hm.out, h1]; rfl)
    go_enter Tryz.func66, Tryz.ntmps66
    go_wp2_with fail
    go_ret
    rw [HF.out]
    exact ⟨rfl, hB⟩
  | false =>
    cases h2 : (p.toList == q.toList) with
    | true =>
      have HF : Hid (R = X) := Lib.hid (by rw [hm.out, h1, h2]; simp)
      have h3 : p.toList = q.toList := beq_iff_eq.1 h2
      have h4 : p = q := by rw [toList_data, toList_data] at h3; exact bytes_eq.1 h3
      subst h4
      clear h2 h3
      go_enter Tryz.func66, Tryz.ntmps66
      go_wp2_with fail
      refine (hl.out _ hE).mono ?_
      rintro e w1 ⟨rfl, hb⟩
      replace hB := below_step hB hb
      clear hb
      go_wp2_with fail
      go_ret
      rw [HF.out]
      exact ⟨rfl, hB⟩
    | false =>
      have HF : Hid (R = false) := Lib.hid (by rw [hm.out, h1, h2]; rfl)
      have h3 : p.toList ≠ q.toList := beq_eq_false_iff_ne.1 h2
      have h4 : p ≠ q := fun e => h3 (by rw [e])
      go_enter Tryz.func66, Tryz.ntmps66
      go_wp2_with fail
      go_ret
      rw [HF.out]
      exact ⟨rfl, hB⟩
end Go.Proofs.Pw

namespace Go.Proofs.Pw
open Go.RowKit
def patch (w : World) (d : Nat) (os : Array Obj) : World := { w with heap := w.heap ++ os, drawn := d }
structure PatchBy where
  d : Nat
  os : Array Obj
  deriving Inhabited
theorem below_patch (w : World) (d : Nat) (os : Array Obj) : Below w.heap.size w (patch w d os) :=
  ⟨rfl, rfl, rfl, by simp [patch], fun k hk => by simp [patch, Array.getElem?_append, hk]⟩
theorem patch_of_below {w w' : World} (h : Below w.heap.size w w') : ∃ p : PatchBy, w' = patch w p.d p.os := by
  refine ⟨⟨w'.drawn, w'.heap.extract w.heap.size w'.heap.size⟩, ?_⟩
  have hh : w'.heap = w.heap ++ w'.heap.extract w.heap.size w'.heap.size := by
    have hs := h.size
    apply Array.ext_getElem?
    intro i
    rw [Array.getElem?_append]
    split
    · rename_i hi; exact h.block i hi
    · rename_i hi
      rw [Array.getElem?_extract]
      split
      · congr 1; omega
      · rename_i hj
        rw [Array.getElem?_eq_none]
        omega
  obtain ⟨heap, tape, drawn, os, output⟩ := w'
  have h1 := h.os
  have h2 := h.tape
  have h3 := h.output
  simp only at h1 h2 h3 hh
  subst h1 h2 h3
  show World.mk heap _ _ _ _ = World.mk (w.heap ++ _) _ _ _ _
  congr 1
theorem cell_patch {w : World} {a : Addr} {v : Value} (h : w.cell? a = some v) (d : Nat) (os : Array Obj) : (patch w d os).cell? a = some v :=
  Below.cell_some (below_patch w d os) h
theorem Calls.patch_of {P : Program} {f : FuncId} {args : Array Value} {w : World} {d : Nat} {os : Array Obj} {v : Value}
    (h : Calls P f args (patch w d os) fun e w' => e = .returned v ∧ Below (patch w d os).heap.size (patch w d os) w') : Calls P f args (patch w d os) fun e w'' => e = .returned v ∧ ∃ p : PatchBy, w'' = patch w p.d p.os :=
  h.mono fun _ _ ⟨he, hb⟩ => ⟨he, patch_of_below (below_step (below_patch w d os) hb)⟩
theorem wp_region_quiet_patch {P : Program} {id : Nat} {Q : Exit → Act → World → Prop} {a : Act} {w : World} {l : List Oper} (hm : P.follows .mixedOrders = true) (hB : Region.lexB .any l.toArray = true)
    (h : wpQuiet P l.toArray (fun w' => ∃ p : PatchBy, w' = patch w p.d p.os) (fun a' => ∀ w', (∃ p : PatchBy, w' = patch w p.d p.os) → Q .normal a' w') l a) : (Code.region id l.toArray true).wp P Q a w :=
  wp_region_quiet (C := fun w' => ∃ p : PatchBy, w' = patch w p.d p.os) hm hB ⟨⟨w.drawn + 1, #[]⟩, by simp [patch]⟩ (by simpa using h)
end Go.Proofs.Pw

namespace Go.Proofs.Pw
open Go.RowKit
open Go.Lib hiding intOf
def FaultAt (A : Nat → Addr) (w : World) (v : Value) (r : Nat × Int) : Prop :=
  (r.1 = 0 ∧ r.2 = -1 ∧ v = .nilIface) ∨ (r.1 ≠ 0 ∧ r.2 = -1 ∧ v = errV A r.1) ∨
  (r.1 ≠ 0 ∧ ∃ b : Nat, v = .iface 105 (.pointer (some ⟨b, 0, none⟩)) ∧ w.cell? ⟨b, 0, none⟩ = some (.int .i64 r.2) ∧ w.cell? ⟨b, 1, none⟩ = some (errV A r.1))
theorem FaultAt.below {A : Nat → Addr} {w w' : World} {v : Value} {r : Nat × Int} (h : FaultAt A w v r) (hb : Below w.heap.size w w') : FaultAt A w' v r := by
  rcases h with h | h | ⟨h, b, h1, h2, h3⟩
  · exact .inl h
  · exact .inr (.inl h)
  · exact .inr (.inr ⟨h, b, h1, Below.cell_some hb h2, Below.cell_some hb h3⟩)
structure Box3 (w : World) (b : Nat) (v0 v1 v2 : Value) : Prop where
  c0 : w.cell? ⟨b, 0, none⟩ = some v0
  c1 : w.cell? ⟨b, 1, none⟩ = some v1
  c2 : w.cell? ⟨b, 2, none⟩ = some v2
theorem Box3.below {w w' : World} {b : Nat} {v0 v1 v2 : Value} (h : Box3 w b v0 v1 v2) (hb : Below w.heap.size w w') : Box3 w' b v0 v1 v2 :=
  ⟨Below.cell_some hb h.c0, Below.cell_some hb h.c1, Below.cell_some hb h.c2⟩
theorem wrap_nat (k : Nat) (h : k ≤ 1000000000) : IntKind.i64.wrap (k : Int) = (k : Int) := by
  simp [IntKind.wrap, IntKind.bits, IntKind.signed]; omega
theorem leq_eq (x y : ByteArray) : (Op.bytesLess x.toList y.toList || x.toList == y.toList) = decide (compareBytes x.data.toList y.data.toList ≤ 0) := by
  rw [toList_data, toList_data, bytesLess_iff]
  generalize x.data.toList = a
  generalize y.data.toList = b
  by_cases h : compareBytes a b < 0
  · rw [decide_eq_true h, decide_eq_true (by omega)]; rfl
  · rw [decide_eq_false h, Bool.false_or]
    by_cases e : a = b
    · subst e
      rw [compareBytes_ord.self]; simp
    · rw [beq_eq_false_iff_ne.2 e]
      have : compareBytes a b ≠ 0 := fun h0 => e (compareBytes_zero h0)
      rw [decide_eq_false (by omega)]
theorem bytes_pair {p v q u : ByteArray} : ((p.data.toList, v.data.toList) : Md) = (q.data.toList, u.data.toList) ↔ p = q ∧ v = u :=
  ⟨fun e => ⟨bytes_eq.1 (Prod.ext_iff.1 e).1, bytes_eq.1 (Prod.ext_iff.1 e).2⟩, fun e => by rw [e.1, e.2]⟩
end Go.Proofs.Pw

namespace Go.Proofs.Pw
open Go.RowKit
open Go.Lib hiding intOf
def Short (l : List Md) : Prop := l.length ≤ 1000000 ∧ ∀ m ∈ l, m.1.length ≤ 1000000 ∧ m.2.length ≤ 1000000
theorem short_F {n : Nat} {P V : Nat → ByteArray} (h : Short (mdF n P V)) : n ≤ 1000000 ∧ ∀ j, j < n → (P j).size ≤ 1000000 ∧ (V j).size ≤ 1000000 := by
  refine ⟨by have := h.1; rwa [mdF_length] at this, fun j hj => ?_⟩
  have := h.2 _ (List.mem_of_getElem? (mdF_get n P V j hj))
  rw [size_eq, size_eq]
  exact this
end Go.Proofs.Pw

namespace Go.Proofs.Pw
open Go.RowKit
open Go.Lib hiding intOf
def longMods (l : List Md) (most : Nat) : Bool := decide (most < l.length) || l.any fun m => decide (70 < m.1.length) || decide (60 < m.2.length)
def longI (l : List Md) (most : Nat) : Int := if longMods l most then 1 else 0
theorem longI_yes {l : List Md} {most : Nat} (h : longMods l most = true) : longI l most = 1 := by unfold longI; rw [h]; rfl
theorem longI_no {l : List Md} {most : Nat} (h : longMods l most = false) : longI l most = 0 := by unfold longI; rw [h]; rfl
set_option maxRecDepth 100000 in
theorem longMods_calls (v : Value) (l : List Md) (most : Nat) (w : World) (h : ModsAt w v l) :
    Calls Tryz.prog 12 #[v, .int .i64 (most : Nat)] w fun e w' => e = .returned (.int .i64 (longI l most)) ∧ w = w' := by
  obtain ⟨a, n, cap, P, V, rfl, rfl, hn, hcap, hc⟩ := h
  replace hc := Lib.hid hc
  by_cases hm : most < n
  · have hm' : (most : Int) < (n : Int) := by omega
    have HF : Hid (longI (mdF n P V) most = 1) := Lib.hid (longI_yes (by unfold longMods; rw [mdF_length, decide_eq_true hm]; rfl))
    clear hm
    go_enter Tryz.func12, Tryz.ntmps12
    go_wp2_with fail
    go_ret
    rw [HF.out]
    exact ⟨rfl, rfl⟩
  · have hm' : ¬ (most : Int) < (n : Int) := by omega
    have HL : Hid (longMods (mdF n P V) most = (mdF n P V).any fun m => decide (70 < m.1.length) || decide (60 < m.2.length)) := Lib.hid (by unfold longMods; rw [mdF_length, decide_eq_false hm, Bool.false_or])
    clear hm
    go_enter Tryz.func12, Tryz.ntmps12
    go_wp2_with fail
    go_loop [5] (fun i => ∃ k : Nat, k ≤ n ∧ i = .int .i64 k ∧ Hid (((mdF n P V).take k).any (fun m => decide (70 < m.1.length) || decide (60 < m.2.length)) = false)) (fun i => n - (intOf i).toNat)
    case atStart => exact ⟨0, Nat.zero_le _, rfl, Lib.hid rfl⟩
    case round =>
      obtain ⟨k, hk, rfl, HA⟩ := hrel
      by_cases hlt : k < n
      · obtain ⟨b, o, rfl, d1, d2⟩ := hc.out k hlt
        have HT := Lib.hid (mdF_take_succ n P V k hlt)
        have hbad : 70 < (P k).size ∨ 60 < (V k).size → longMods (mdF n P V) most = true := fun h => by
          rw [HL.out, List.any_eq_true]
          refine ⟨_, List.mem_of_getElem? (mdF_get n P V k hlt), ?_⟩
          rw [size_eq, size_eq] at h
          simpa using h
        replace hbad := Lib.hid hbad
        by_cases h1 : 70 < (P k).size
        · have h1' : (70 : Int) < ((P k).size : Int) := by omega
          go_wp2_with fail
          go_ret
          rw [longI_yes (hbad.out (.inl h1))]
          exact ⟨rfl, rfl⟩
        · have h1' : ¬ (70 : Int) < ((P k).size : Int) := by omega
          by_cases h2 : 60 < (V k).size
          · have h2' : (60 : Int) < ((V k).size : Int) := by omega
            go_wp2_with fail
            go_ret
            rw [longI_yes (hbad.out (.inr h2))]
            exact ⟨rfl, rfl⟩
          · have h2' : ¬ (60 : Int) < ((V k).size : Int) := by omega
            have HN : Hid (((mdF n P V).take (k + 1)).any (fun m => decide (70 < m.1.length) || decide (60 < m.2.length)) = false) := Lib.hid (by
              rw [HT.out, List.any_append, HA.out]
              rw [size_eq] at h1 h2
              simp only [List.any_cons, List.any_nil, Bool.or_false, Bool.false_or, Bool.or_eq_false_iff, decide_eq_false_iff_not]
              exact ⟨h1, h2⟩)
            go_wp2_with fail
            go_round
            case rel => exact ⟨k + 1, by omega, by go_num, HN⟩
            case measure => simp [intOf]; omega
      · obtain rfl : k = n := by omega
        have HF : Hid (longI (mdF k P V) most = 0) := Lib.hid (longI_no (by rw [HL.out, ← HA.out, mdF_take_all]))
        go_wp2_with fail
        go_ret
        rw [HF.out]
        exact ⟨rfl, rfl⟩
end Go.Proofs.Pw
