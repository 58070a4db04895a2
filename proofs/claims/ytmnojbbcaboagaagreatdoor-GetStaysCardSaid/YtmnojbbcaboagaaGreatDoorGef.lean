/- Ge: walks and plain laws, joined: ModPath Mod2. Conditions: at each theorem. -/
import Derived.Test.YtmnojbbcaboagaaGreatDoorGee

namespace Go.Proofs.Pw
open Go.RowKit
open Go.Lib hiding intOf
def Tests (g : Nat) (lb : Array Value) (p : Str → Bool) (n : Nat) (L : Nat → ByteArray) (w : World) : Prop :=
  ∀ w', Below w.heap.size w w' → ∀ j, j < n → Calls Tryz.prog g (#[.string (L j)] ++ lb) w' fun e w'' => e = .returned (.bool (p (L j).data.toList)) ∧ Below w'.heap.size w' w''
theorem any_lstF (p : Str → Bool) (L : Nat → ByteArray) : ∀ n, (lstF n L).any p = true ↔ ∃ j, j < n ∧ p (L j).data.toList = true := fun n => by
  simp [lstF]
set_option maxHeartbeats 400000 in
theorem indexFunc_calls (g : Nat) (lb : Array Value) (eg : ∀ args w, (callFunc g args).run Tryz.prog w = .ok (.enter g args) w) (p : Str → Bool) (b o n cap : Nat) (L : Nat → ByteArray) (w : World) (hn : n ≤ 4000000001)
    (hc : ∀ j, j < n → w.cell? ⟨b, o + j, none⟩ = some (.string (L j))) (hT : Tests g lb p n L w) :
    Calls Tryz.prog 149 #[.slice (some ⟨b, o, none⟩) n cap, .func (.func g) #[] lb] w fun e w' => (∃ i : Int, e = .returned (.int .i64 i) ∧ (0 ≤ i ↔ (lstF n L).any p = true)) ∧ Below w.heap.size w w' := by
  have HC := Lib.hid hc
  have HT := Lib.hid hT
  clear hc hT
  go_enter Tryz.func149, Tryz.ntmps149
  go_wp2_with fail
  go_loopw [8] (fun i wr => ∃ k : Nat, k ≤ n ∧ i = .int .i64 k ∧ Below w.heap.size w wr ∧ Hid (∀ j, j < k → p (L j).data.toList = false)) (fun i _ => n - (intOf i).toNat)
  case atStart => exact ⟨0, by omega, rfl, Below.refl _ _, Lib.hid (fun j hj => absurd hj (Nat.not_lt_zero _))⟩
  case round =>
    obtain ⟨k, hk, rfl, hb, HA⟩ := hrel
    by_cases hlt : k < n
    · have hck := Below.cell_some hb (HC.out k hlt)
      have hcall := HT.out wr hb k hlt
      have HL := Lib.hid (rfl : L k = L k)
      cases hq : p (L k).data.toList with
      | true =>
        rw [hq] at hcall
        have HQ := Lib.hid hq
        clear hq
        go_wp2_with (go_at_fn g; refine hcall.mono ?_; rintro e w' ⟨rfl, hb2⟩)
        go_ret
        exact ⟨⟨_, rfl, iff_of_true (by omega) ((any_lstF p L n).2 ⟨k, hlt, HQ.out⟩)⟩, below_step hb hb2⟩
      | false =>
        rw [hq] at hcall
        have HQ := Lib.hid hq
        clear hq
        go_wp2_with (go_at_fn g; refine hcall.mono ?_; rintro e w' ⟨rfl, hb2⟩)
        go_roundw
        case rel =>
          refine ⟨k + 1, by omega, by go_num, below_step hb hb2, Lib.hid (fun j hj => ?_)⟩
          by_cases e : j = k
          · subst e; exact HQ.out
          · exact HA.out j (by omega)
        case measure => simp [intOf]; omega
    · obtain rfl : k = n := by omega
      go_wp2_with fail
      go_ret
      refine ⟨⟨_, rfl, iff_of_false (by decide) ?_⟩, hb⟩
      intro h
      obtain ⟨j, hj, h2⟩ := (any_lstF p L k).1 h
      rw [HA.out j hj] at h2
      cases h2
theorem containsFunc_calls (g : Nat) (lb : Array Value) (eg : ∀ args w, (callFunc g args).run Tryz.prog w = .ok (.enter g args) w) (p : Str → Bool) (b o n cap : Nat) (L : Nat → ByteArray) (w : World) (hn : n ≤ 4000000001)
    (hc : ∀ j, j < n → w.cell? ⟨b, o + j, none⟩ = some (.string (L j))) (hT : Tests g lb p n L w) :
    Calls Tryz.prog 79 #[.slice (some ⟨b, o, none⟩) n cap, .func (.func g) #[] lb] w fun e w' => e = .returned (.bool ((lstF n L).any p)) ∧ Below w.heap.size w w' := by
  have H := indexFunc_calls g lb eg p b o n cap L w hn hc hT
  clear hc hT
  go_enter Tryz.func79, Tryz.ntmps79
  go_wp2_with fail
  refine H.mono ?_
  rintro e w1 ⟨⟨i, rfl, hi⟩, hb⟩
  cases ha : (lstF n L).any p with
  | true =>
    have h0 : 0 ≤ i := hi.2 ha
    have HA := Lib.hid ha
    clear hi ha H
    go_wp2_with fail
    go_ret
    rw [HA.out]
    exact ⟨rfl, hb⟩
  | false =>
    have h0 : ¬ 0 ≤ i := fun h => by rw [hi.1 h] at ha; cases ha
    have HA := Lib.hid ha
    clear hi ha H
    go_wp2_with fail
    go_ret
    rw [HA.out]
    exact ⟨congrArg (fun b => Ending.returned (Value.bool b)) (decide_eq_false (by omega)), hb⟩
theorem enters_path1 : ∀ args w, (callFunc 95 args).run Tryz.prog w = .ok (.enter 95 args) w := Go.Proofs.enters_of Tryz.func95 (by kernel_rfl) rfl
theorem enters_path2 : ∀ args w, (callFunc 97 args).run Tryz.prog w = .ok (.enter 97 args) w := Go.Proofs.enters_of Tryz.func97 (by kernel_rfl) rfl
theorem tests_path1 (ks : List Nat) (A : Nat → Addr) (n : Nat) (L : Nat → ByteArray) (w : World) (hE : EnvP ks A w) (hL : ∀ j, j < n → (L j).size ≤ 4000000000) : Tests 95 #[] (fun s => !elemOk s) n L w := by
  intro w' hb j hj
  have hE' := hE.below hb
  have hLj := hL j hj
  clear hL hE hb
  generalize L j = s at hLj ⊢
  show Calls Tryz.prog _ #[.string s] w' fun e w'' => e = .returned (.bool (!elemOk s.data.toList)) ∧ Below w'.heap.size w' w''
  go_enter Tryz.func95, Tryz.ntmps95
  go_wp2_with fail
  refine (elem_calls ks A s w' hE' hLj).mono ?_
  rintro e w1 ⟨rfl, hb1⟩
  go_wp2_with fail
  go_ret
  exact ⟨rfl, hb1⟩
theorem tests_path2 (n : Nat) (L : Nat → ByteArray) (w : World) : Tests 97 #[] (fun s => decide (10 < s.length)) n L w := by
  intro w' hb j hj
  have hsz := size_eq (L j)
  clear hb
  generalize L j = s at hsz ⊢
  show Calls Tryz.prog _ #[.string s] w' fun e w'' => e = .returned (.bool (decide (10 < s.data.toList.length))) ∧ Below w'.heap.size w' w''
  rw [← hsz]
  clear hsz
  by_cases h : 10 < s.size
  · rw [decide_eq_true h]
    go_enter Tryz.func97, Tryz.ntmps97
    go_wp2_with fail
    go_ret
    exact ⟨congrArg (fun b => Ending.returned (Value.bool b)) (decide_eq_true (by omega)), Below.refl _ _⟩
  · rw [decide_eq_false h]
    go_enter Tryz.func97, Tryz.ntmps97
    go_wp2_with fail
    go_ret
    exact ⟨congrArg (fun b => Ending.returned (Value.bool b)) (decide_eq_false (by omega)), Below.refl _ _⟩
theorem getLast_lstF (n : Nat) (L : Nat → ByteArray) (h : 1 ≤ n) : (lstF n L).getLast?.getD [] = (L (n - 1)).data.toList := by
  rw [List.getLast?_eq_getElem?, lstF_length, lstF_get n L (n - 1) (by omega)]
  rfl
theorem suffixWell_calls (ks : List Nat) (A : Nat → Addr) (s : ByteArray) (w : World) (hE : EnvP ks A w) (hs : s.size ≤ 4000000000) :
    Calls Tryz.prog 94 #[.string s] w fun e w' => (∃ n : Int, e = .returned (.tuple #[.int .i64 n, .bool (isSuf s.data.toList), .bool (sufWell s.data.toList)]) ∧ (isSuf s.data.toList = true → n = (sufNum s.data.toList : Nat))) ∧ Below w.heap.size w w' := by
  cases hl : looksSuf s.data.toList with
  | false =>
    rw [(suf_no hl).1, (suf_no hl).2]
    exact (suffix_no ks A s w hE hs hl).mono fun e w' ⟨h, hb⟩ => ⟨⟨0, h, fun h => absurd h (by decide)⟩, hb⟩
  | true =>
    rw [suf_digits hl]
    exact suffix_dig ks A s w hE hs hl
set_option maxHeartbeats 1000000 in
theorem path_calls (ks : List Nat) (A : Nat → Addr) (h4 : 4 ∈ ks) (s : ByteArray) (w : World) (hE : EnvP ks A w) (hs : s.size ≤ 1000000000) :
    Calls Tryz.prog 41 #[.string s] w fun e w' => e = .returned (errV A (pathErr s.data.toList)) ∧ Below w.heap.size w w' := by
  have hpe : pathErr s.data.toList = (let l := split s.data.toList [47]; if l.any (fun w => !elemOk w) then 1 else if 5 < l.length ∨ l.any (fun w => decide (10 < w.length)) then 2 else if 1 < l.length ∧ sufWell (l.getLast?.getD []) = false then 4 else 0) := rfl
  generalize pathErr s.data.toList = R at hpe ⊢
  have HR := Lib.hid hpe
  clear hpe
  go_enter Tryz.func41, Tryz.ntmps41
  go_wp2_with fail
  refine (split_calls _ ⟨#[47]⟩ _ hE.m (Nat.le_trans hs (by decide)) (by decide)).mono ?_
  rintro e w1 ⟨n, rfl, hn1, hn2, HL, hb1, hc1, hz1⟩
  have hLs := lstF_mem_le (by decide) HL.out
  have hE1 := hE.below hb1
  have hn9 : n ≤ 1000000001 := Nat.le_trans hn2 (Nat.succ_le_succ hs)
  have hLs4 : ∀ j, j < n → (splitL s ⟨#[47]⟩ j).size ≤ 4000000000 := fun j hj => Nat.le_trans (hLs j hj) (by rw [← size_eq]; omega)
  have HR2 : Hid (R = if (lstF n (splitL s ⟨#[47]⟩)).any (fun w => !elemOk w) then 1 else if 5 < n ∨ (lstF n (splitL s ⟨#[47]⟩)).any (fun w => decide (10 < w.length)) then 2 else if 1 < n ∧ sufWell (splitL s ⟨#[47]⟩ (n - 1)).data.toList = false then 4 else 0) := by
    refine Lib.hid ?_
    rw [HR.out]
    show (let l := split s.data.toList (⟨#[47]⟩ : ByteArray).data.toList; _) = _
    rw [← HL.out]
    simp only
    rw [lstF_length, getLast_lstF n _ hn1]
  generalize splitL s ⟨#[47]⟩ = L at hc1 hLs4 HR2 ⊢
  have HC := Lib.hid hc1
  clear HR HL hLs hn2 hc1
  obtain ⟨m, rfl⟩ : ∃ m, n = m + 1 := ⟨n - 1, by omega⟩
  rw [Nat.add_sub_cancel] at HR2
  have hck := HC.out m (by omega)
  have hLm := hLs4 m (by omega)
  have T1 := containsFunc_calls 95 #[] enters_path1 (fun s => !elemOk s) w.heap.size 0 (m + 1) (m + 1) L
  have T2 := containsFunc_calls 97 #[] enters_path2 (fun s => decide (10 < s.length)) w.heap.size 0 (m + 1) (m + 1) L
  have HT1 := Lib.hid T1
  have HT2 := Lib.hid T2
  clear T1 T2
  go_wp2_with fail
  refine (suffixWell_calls ks A (L m) _ hE1 hLm).mono ?_
  rintro e w2 ⟨⟨q, rfl, _⟩, hb2⟩
  have hE2 := hE1.below hb2
  have hb12 := below_step hb1 hb2
  clear hck
  go_wp2_with fail
  have hC2 : ∀ j, j < m + 1 → w2.cell? ⟨w.heap.size, 0 + j, none⟩ = some (.string (L j)) := fun j hj => by rw [Nat.zero_add]; exact Below.cell_some hb2 (HC.out j hj)
  refine (HT1.out w2 (by omega) hC2 (tests_path1 ks A _ L w2 hE2 hLs4)).mono ?_
  rintro e w3 ⟨rfl, hb3⟩
  have hb13 := below_step hb12 hb3
  have hE3 := hE2.below hb3
  have g1 := hE3.errs.var 1 hE.has.1
  have g2 := hE3.errs.var 2 hE.has.2
  simp only [errG] at g1 g2
  clear HT1 hb1 hE1 hE2
  cases ha1 : (lstF (m + 1) L).any (fun w => !elemOk w) with
  | true =>
    have HF : Hid (R = 1) := Lib.hid (by rw [HR2.out, if_pos ha1])
    clear ha1 hC2 g2
    go_wp2_with fail
    go_ret
    rw [HF.out]
    exact ⟨rfl, hb13⟩
  | false =>
    have HA1 := Lib.hid ha1
    clear ha1
    by_cases h5 : 5 < m + 1
    · have HF : Hid (R = 2) := Lib.hid (by rw [HR2.out, if_neg (by rw [HA1.out]; decide), if_pos (.inl h5)])
      clear hC2 g1
      go_wp2_with fail
      go_ret
      rw [HF.out]
      exact ⟨rfl, hb13⟩
    · have hC3 : ∀ j, j < m + 1 → w3.cell? ⟨w.heap.size, 0 + j, none⟩ = some (.string (L j)) := fun j hj => Below.cell_some hb3 (hC2 j hj)
      have T3 := HT2.out w3 (by omega) hC3 (tests_path2 _ L w3)
      have HT3 := Lib.hid T3
      clear T3 hC2 hC3 HT2 g1 g2
      go_wp2_with fail
      refine HT3.out.mono ?_
      rintro e w4 ⟨rfl, hb4⟩
      have hb14 := below_step hb13 hb4
      have hE4 := hE3.below hb4
      have g2 := hE4.errs.var 2 hE.has.2
      have g4 := hE4.errs.var 4 h4
      simp only [errG] at g2 g4
      clear HT3
      cases ha2 : (lstF (m + 1) L).any (fun w => decide (10 < w.length)) with
      | true =>
        have HF : Hid (R = 2) := Lib.hid (by rw [HR2.out, if_neg (by rw [HA1.out]; decide), if_pos (.inr ha2)])
        clear ha2 g4
        go_wp2_with fail
        go_ret
        rw [HF.out]
        exact ⟨rfl, hb14⟩
      | false =>
        have HA2 := Lib.hid ha2
        clear ha2 g2
        by_cases h1 : 1 < m + 1
        · cases hw : sufWell (L m).data.toList with
          | true =>
            have HF : Hid (R = 0) := Lib.hid (by rw [HR2.out, if_neg (by rw [HA1.out]; decide), if_neg (by rintro (h | h); exact h5 h; rw [HA2.out] at h; cases h), if_neg (by rintro ⟨_, h⟩; rw [hw] at h; cases h)])
            clear hw g4
            go_wp2_with fail
            go_ret
            rw [HF.out]
            exact ⟨rfl, hb14⟩
          | false =>
            have HF : Hid (R = 4) := Lib.hid (by rw [HR2.out, if_neg (by rw [HA1.out]; decide), if_neg (by rintro (h | h); exact h5 h; rw [HA2.out] at h; cases h), if_pos ⟨h1, hw⟩])
            clear hw
            go_wp2_with fail
            go_ret
            rw [HF.out]
            exact ⟨rfl, hb14⟩
        · have HF : Hid (R = 0) := Lib.hid (by rw [HR2.out, if_neg (by rw [HA1.out]; decide), if_neg (by rintro (h | h); exact h5 h; rw [HA2.out] at h; cases h), if_neg (fun h => h1 h.1)])
          clear g4
          go_wp2_with fail
          go_ret
          rw [HF.out]
          exact ⟨rfl, hb14⟩
end Go.Proofs.Pw

namespace Go.Proofs.Pw
open Go.RowKit
open Go.Lib hiding intOf
theorem modSplit_bad {s : Str} (h : pathErr s ≠ 0) : modSplit s = ([], 0) := by unfold modSplit; rw [if_pos h]
theorem modSplit_no {s : Str} (h : pathErr s = 0) (hl : lastIndex s [47] < 0) : modSplit s = (s, 0) := by unfold modSplit; rw [if_neg (by rw [h]; simp)]; simp only; rw [if_pos hl]
theorem modSplit_at {s : Str} (h : pathErr s = 0) {k : Nat} (hl : lastIndex s [47] = k) : modSplit s = if isSuf (s.drop (k + 1)) then (s.take k, sufNum (s.drop (k + 1))) else (s, 0) := by
  unfold modSplit; rw [if_neg (by rw [h]; simp)]; simp only; rw [if_neg (by omega), hl]; rfl
theorem lastOcc_lt (s sub : Str) : ∀ n, lastOcc s sub n < n := by
  intro n
  induction n with
  | zero => unfold lastOcc; omega
  | succ n ih => unfold lastOcc; split <;> omega
theorem lastIndex_lt (s : Str) (c : UInt8) : lastIndex s [c] < s.length := by
  unfold lastIndex
  split
  · rename_i h
    have := lastOcc_lt s [c] (s.length - [c].length + 1)
    simp only [List.length_cons, List.length_nil] at h this ⊢
    omega
  · omega
theorem modSplit_calls (ks : List Nat) (A : Nat → Addr) (h4 : 4 ∈ ks) (s : ByteArray) (w : World) (hE : EnvP ks A w) (hs : s.size ≤ 1000000000) :
    Calls Tryz.prog 98 #[.string s] w fun e w' => e = .returned (.tuple #[.string ⟨(modSplit s.data.toList).1.toArray⟩, .int .i64 ((modSplit s.data.toList).2 : Nat)]) ∧ Below w.heap.size w w' := by
  by_cases hp : pathErr s.data.toList = 0
  · have hlt := lastIndex_lt s.data.toList 47
    have hL := Tryz.strings_LastIndex s ⟨#[47]⟩ (by omega)
    rw [show (⟨#[47]⟩ : ByteArray).data.toList = [47] from rfl] at hL
    by_cases hl : lastIndex s.data.toList [47] < 0
    · rw [modSplit_no hp hl]
      generalize lastIndex s.data.toList [47] = i at hl hL
      have HL := Lib.hid hL
      have HP := Lib.hid hp
      clear hlt hp hL
      go_enter Tryz.func98, Tryz.ntmps98
      go_wp2_with fail
      refine (path_calls ks A h4 s w hE hs).mono ?_
      rintro e w1 ⟨rfl, hb1⟩
      rw [HP.out, errV_zero]
      go_wp2_with fail
      refine (HL.out w1).mono ?_
      rintro e w2 ⟨rfl, rfl⟩
      go_wp2_with fail
      go_ret2
      exact ⟨rfl, hb1⟩
    · obtain ⟨k, hk⟩ : ∃ k : Nat, lastIndex s.data.toList [47] = k := ⟨(lastIndex s.data.toList [47]).toNat, by omega⟩
      have hm := modSplit_at hp hk
      have hks : k < s.size := by rw [size_eq]; omega
      rw [hk] at hL
      generalize modSplit s.data.toList = R at hm ⊢
      have HM := Lib.hid hm
      have HL := Lib.hid hL
      have HP := Lib.hid hp
      clear hlt hp hL hl hk hm
      go_enter Tryz.func98, Tryz.ntmps98
      go_wp2_with fail
      refine (path_calls ks A h4 s w hE hs).mono ?_
      rintro e w1 ⟨rfl, hb1⟩
      rw [HP.out, errV_zero]
      go_wp2_with fail
      refine (HL.out w1).mono ?_
      rintro e w2 ⟨rfl, rfl⟩
      have hsz : (s.extract (k + 1) s.size).size ≤ 4000000000 := by simp; omega
      have hE1 := hE.below hb1
      go_wp2_with fail
      refine (suffixWell_calls ks A _ _ hE1 hsz).mono ?_
      rintro e w3 ⟨⟨q, rfl, hq⟩, hb3⟩
      have hdr : (s.extract (k + 1) s.size).data.toList = s.data.toList.drop (k + 1) := extract_to_end s (k + 1)
      rw [hdr] at hq ⊢
      have hb13 := below_step hb1 hb3
      cases hi : isSuf (s.data.toList.drop (k + 1)) with
      | true =>
        have HQ := Lib.hid (hq hi)
        have HF : Hid (R = (s.data.toList.take k, sufNum (s.data.toList.drop (k + 1)))) := Lib.hid (by rw [HM.out, if_pos hi])
        clear hq hi hdr
        go_wp2_with fail
        go_ret2
        rw [HF.out, HQ.out]
        refine ⟨?_, hb13⟩
        have : s.extract 0 k = ⟨(s.data.toList.take k).toArray⟩ := by
          apply ByteArray.ext
          apply Array.ext'
          simp
        rw [this]
        rfl
      | false =>
        have HF : Hid (R = (s.data.toList, 0)) := Lib.hid (by rw [HM.out, if_neg (by rw [hi]; decide)])
        clear hq hi hdr
        go_wp2_with fail
        go_ret2
        rw [HF.out]
        exact ⟨rfl, hb13⟩
  · rw [modSplit_bad hp]
    have HP := Lib.hid hp
    clear hp
    go_enter Tryz.func98, Tryz.ntmps98
    go_wp2_with fail
    refine (path_calls ks A h4 s w hE hs).mono ?_
    rintro e w1 ⟨rfl, hb1⟩
    rw [errV_pos A HP.out]
    go_wp2_with fail
    go_ret2
    exact ⟨rfl, hb1⟩
theorem modErr_path {p v : Str} (h : pathErr p ≠ 0) : modErr p v = pathErr p := by unfold modErr; rw [if_pos h]
theorem modErr_ver {p v : Str} (h : pathErr p = 0) (h2 : verErr v ≠ 0) : modErr p v = verErr v := by unfold modErr; rw [if_neg (by rw [h]; simp), if_pos h2]
theorem modErr_major {p v : Str} (h : pathErr p = 0) (h2 : verErr v = 0) : modErr p v = if ((modSplit p).2 = 0 ∧ 1 < verNum v 0) ∨ (0 < (modSplit p).2 ∧ verNum v 0 ≠ (modSplit p).2) then 4 else 0 := by
  unfold modErr; rw [if_neg (by rw [h]; simp), if_neg (by rw [h2]; simp)]
structure Box2 (w : World) (b : Nat) (v0 v1 : Value) : Prop where
  c0 : w.cell? ⟨b, 0, none⟩ = some v0
  c1 : w.cell? ⟨b, 1, none⟩ = some v1
  fr : ∀ j, w.frozen? ⟨b, j, none⟩ = false
theorem Box2.below {w w' : World} {b : Nat} {v0 v1 : Value} (h : Box2 w b v0 v1) (hb : Below w.heap.size w w') : Box2 w' b v0 v1 :=
  ⟨Below.cell_some hb h.c0, Below.cell_some hb h.c1, fun j => (hb.frozen (p := ⟨b, j, none⟩) (show b < w.heap.size from lt_of_cell h.c0)).trans (h.fr j)⟩
theorem box2_alloc (w : World) (v0 v1 : Value) (t : TypeId) : Box2 (w.alloc (.cells #[v0, v1] t)) w.heap.size v0 v1 :=
  ⟨by simp, by simp, fun j => by simp⟩
set_option maxHeartbeats 1000000 in
theorem modCheck_calls (ks : List Nat) (A : Nat → Addr) (h4 : 4 ∈ ks) (p v : ByteArray) (w : World) (hE : EnvP ks A w) (hp : p.size ≤ 1000000000) (hv : v.size ≤ 1000000000) :
    Calls Tryz.prog 44 #[.agg #[.string p, .string v]] w fun e w' => e = .returned (errV A (modErr p.data.toList v.data.toList)) ∧ Below w.heap.size w w' := by
  have hbA := below_alloc w (.cells #[.string p, .string v] 47)
  have hzA := box2_alloc w (.string p) (.string v) 47
  have hEA := hE.below hbA
  by_cases h1 : pathErr p.data.toList = 0
  · have H1 := Lib.hid h1
    by_cases h2 : verErr v.data.toList = 0
    · have hm := modErr_major h1 h2
      have H2 := Lib.hid h2
      have hmc : ((modSplit p.data.toList).2 = 0 ∧ 1 < verNum v.data.toList 0) ∨ ((modSplit p.data.toList).2 = 0 ∧ ¬ 1 < verNum v.data.toList 0) ∨ (0 < (modSplit p.data.toList).2 ∧ verNum v.data.toList 0 ≠ (modSplit p.data.toList).2) ∨ (0 < (modSplit p.data.toList).2 ∧ verNum v.data.toList 0 = (modSplit p.data.toList).2) := by omega
      generalize modErr p.data.toList v.data.toList = R at hm ⊢
      have HM := Lib.hid hm
      have HMC := Lib.hid hmc
      clear h1 h2 hm hmc
      go_enter Tryz.func44, Tryz.ntmps44
      go_wp2_with fail
      refine (path_calls ks A h4 p _ hEA hp).mono ?_
      rintro e w1 ⟨rfl, hb1⟩
      rw [H1.out, errV_zero]
      have hz1 := hzA.below hb1
      have c0 := hz1.c0
      have c1 := hz1.c1
      have hE1 := hEA.below hb1
      have hb01 := below_step hbA hb1
      go_wp2_with fail
      refine (verSplit_calls ks A v w1 hE1 hv).mono ?_
      rintro e w2 ⟨hb2, vv, rfl, a, n, cap, L, rfl, _, _, _, _⟩
      have hz2 := hz1.below hb2
      have hE2 := hE1.below hb2
      have hb02 := below_step hb01 hb2
      clear c0 c1
      have c0 := hz2.c0
      have c1 := hz2.c1
      rw [H2.out, errV_zero]
      have hbB := below_alloc w2 (.cells #[.int .i64 (verNum v.data.toList 0 : Nat), .int .i64 (verNum v.data.toList 1 : Nat), .int .i64 (verNum v.data.toList 2 : Nat), .slice a n cap] 83)
      have d0 := (hz2.below hbB).c0
      have d1 := (hz2.below hbB).c1
      have hE3 := hE2.below hbB
      have hb03 := below_step hb02 hbB
      have hz3 := box4_alloc w2 (.int .i64 (verNum v.data.toList 0 : Nat)) (.int .i64 (verNum v.data.toList 1 : Nat)) (.int .i64 (verNum v.data.toList 2 : Nat)) (.slice a n cap) 83
      go_wp2_with fail
      refine (modSplit_calls ks A h4 p _ hE3 hp).mono ?_
      rintro e w4 ⟨rfl, hb4⟩
      have z0 := (hz3.below hb4).c0
      have hb04 := below_step hb03 hb4
      have g4 := (hE3.below hb4).errs.var 4 h4
      simp only [errG] at g4
      clear c0 c1 d0 d1 hz3 hz2 hz1 hb1 hb2 hb01 hb02 hb03 hbB hE1 hE2 hE3 hb4
      generalize verNum v.data.toList 0 = mj at z0 HM HMC ⊢
      generalize (modSplit p.data.toList).2 = q at HM HMC ⊢
      rcases HMC.out with ⟨rfl, h⟩ | ⟨rfl, h⟩ | ⟨h, h'⟩ | ⟨h, rfl⟩
      · have HF : Hid (R = 4) := Lib.hid (by rw [HM.out, if_pos (.inl ⟨rfl, h⟩)])
        have hi : (1 : Int) < (mj : Int) := by omega
        have hi2 : decide ((1 : Int) < (mj : Int)) = true := decide_eq_true hi
        clear HM HMC h
        go_wp2_with fail
        go_ret
        rw [HF.out]
        exact ⟨rfl, hb04⟩
      · have HF : Hid (R = 0) := Lib.hid (by rw [HM.out, if_neg (by omega)])
        have hi : ¬ (1 : Int) < (mj : Int) := by omega
        clear HM HMC h
        go_wp2_with fail
        go_ret
        rw [HF.out]
        exact ⟨rfl, hb04⟩
      · have HF : Hid (R = 4) := Lib.hid (by rw [HM.out, if_pos (.inr ⟨h, h'⟩)])
        have hi : (0 : Int) < (q : Int) := by omega
        have hi0 : ((q : Int) == 0) = false := beq_eq_false_iff_ne.2 (by omega)
        have hi1 : ((mj : Int) == (q : Int)) = false := beq_eq_false_iff_ne.2 (by omega)
        clear HM HMC h h'
        go_wp2_with fail
        go_ret
        rw [HF.out]
        exact ⟨rfl, hb04⟩
      · have HF : Hid (R = 0) := Lib.hid (by rw [HM.out, if_neg (by omega)])
        have hi : (0 : Int) < (mj : Int) := by omega
        have hi0 : ((mj : Int) == 0) = false := beq_eq_false_iff_ne.2 (by omega)
        clear HM HMC h
        go_wp2_with fail
        go_ret
        rw [HF.out]
        exact ⟨rfl, hb04⟩
    · rw [modErr_ver h1 h2, errV_pos A h2]
      have H2 := Lib.hid h2
      clear h1 h2
      go_enter Tryz.func44, Tryz.ntmps44
      go_wp2_with fail
      refine (path_calls ks A h4 p _ hEA hp).mono ?_
      rintro e w1 ⟨rfl, hb1⟩
      rw [H1.out, errV_zero]
      have hz1 := hzA.below hb1
      have c0 := hz1.c0
      have c1 := hz1.c1
      have hE1 := hEA.below hb1
      have hb01 := below_step hbA hb1
      go_wp2_with fail
      refine (verSplit_calls ks A v w1 hE1 hv).mono ?_
      rintro e w2 ⟨hb2, vv, rfl, a, n, cap, L, rfl, _, _, _, _⟩
      have hb02 := below_step hb01 hb2
      rw [errV_pos A H2.out]
      go_wp2_with fail
      go_ret
      exact ⟨rfl, hb02.alloc hb02.size _⟩
  · rw [modErr_path h1, errV_pos A h1]
    have HP := Lib.hid h1
    clear h1
    go_enter Tryz.func44, Tryz.ntmps44
    go_wp2_with fail
    refine (path_calls ks A h4 p _ hEA hp).mono ?_
    rintro e w1 ⟨rfl, hb1⟩
    rw [errV_pos A HP.out]
    go_wp2_with fail
    go_ret
    exact ⟨rfl, below_step hbA hb1⟩
theorem modText_calls (ks : List Nat) (A : Nat → Addr) (h4 : 4 ∈ ks) (p v : ByteArray) (w : World) (hE : EnvP ks A w) (hp : p.size ≤ 1000000000) (hv : v.size ≤ 1000000000) :
    Calls Tryz.prog 20 #[.agg #[.string p, .string v]] w fun e w' => e = .returned (.string ⟨(modText p.data.toList v.data.toList).toArray⟩) ∧ Below w.heap.size w w' := by
  have hbA := below_alloc w (.cells #[.string p, .string v] 47)
  have hzA := box2_alloc w (.string p) (.string v) 47
  have hEA := hE.below hbA
  have hm : modText p.data.toList v.data.toList = if modErr p.data.toList v.data.toList = 0 then p.data.toList ++ [64] ++ v.data.toList else [] := rfl
  generalize modText p.data.toList v.data.toList = R at hm ⊢
  have HM := Lib.hid hm
  clear hm
  go_enter Tryz.func20, Tryz.ntmps20
  go_wp2_with fail
  refine (modCheck_calls ks A h4 p v _ hEA hp hv).mono ?_
  rintro e w1 ⟨rfl, hb1⟩
  have hz1 := hzA.below hb1
  have c0 := hz1.c0
  have c1 := hz1.c1
  have hb01 := below_step hbA hb1
  by_cases h : modErr p.data.toList v.data.toList = 0
  · have HF : Hid (R = p.data.toList ++ [64] ++ v.data.toList) := Lib.hid (by rw [HM.out, if_pos h])
    rw [h, errV_zero]
    go_wp2_with fail
    go_ret
    rw [HF.out]
    refine ⟨?_, hb01⟩
    have : p ++ ⟨#[64]⟩ ++ v = ⟨(p.data.toList ++ [64] ++ v.data.toList).toArray⟩ := by
      apply ByteArray.ext
      apply Array.ext'
      simp
    rw [← this]
    rfl
  · have HF : Hid (R = []) := Lib.hid (by rw [HM.out, if_neg h])
    rw [errV_pos A h]
    go_wp2_with fail
    go_ret
    rw [HF.out]
    exact ⟨rfl, hb01⟩
end Go.Proofs.Pw
