/- Ge: walks and plain laws, joined: IdxLatest Query2. Conditions: at each theorem. -/
import Derived.Test.YtmnojbbcaboagaaGreatDoorGem
import Derived.Test.YtmnojbbcaboagaaGreatDoorGee
import Derived.Test.YtmnojbbcaboagaaGreatDoorGeg
import Derived.Laws.EntriesVeiled
import Derived.Test.YtmnojbbcaboagaaGreatDoorGes
import Derived.LaidEql

namespace Go.Proofs.Pw
open Go.RowKit Go.Sort
open Go.Lib hiding intOf
theorem enters_liked1 : ∀ args w, (callFunc 258 args).run Tryz.prog w = .ok (.enter 258 args) w := Go.Proofs.enters_of Tryz.func258 (by kernel_rfl) rfl
theorem enters_liked2 : ∀ args w, (callFunc 259 args).run Tryz.prog w = .ok (.enter 259 args) w := Go.Proofs.enters_of Tryz.func259 (by kernel_rfl) rfl
set_option maxHeartbeats 1000000 in
theorem idxPre_calls (ks : List Nat) (A : Nat → Addr) (s : ByteArray) (w : World) (hE : EnvP ks A w) (hs : s.size ≤ 1000000000) :
    Calls Tryz.prog 260 #[.string s] w fun e w' => e = .returned (.bool (preB s.data.toList)) ∧ Below w.heap.size w w' := by
  have hsp := verSplit_calls ks A s w hE hs
  have hP : preB s.data.toList = (decide (verErr s.data.toList ≠ 0) || decide (0 < (verPre s.data.toList).length)) := rfl
  obtain ⟨X, hX⟩ : ∃ X, preB s.data.toList = X := ⟨_, rfl⟩
  rw [hX] at hP ⊢
  generalize verPre s.data.toList = VP at *
  generalize verErr s.data.toList = VE at *
  by_cases h0 : VE = 0
  · subst h0
    rw [errV_zero] at hsp
    have hPX : X = decide (0 < VP.length) := by rw [hP]; simp
    clear hP hX
    replace hsp := Lib.hid hsp
    go_enter Tryz.func260, Tryz.ntmps260
    go_wp2_with fail
    refine hsp.out.mono ?_
    rintro e w1 ⟨hb, v, rfl, hv⟩
    obtain ⟨a1, n1, c1, L1, rfl, rfl, _⟩ := hv
    rw [lstF_length] at hPX
    have hba := below_alloc w1 (.cells #[.int .i64 (verNum s.data.toList 0 : Nat), .int .i64 (verNum s.data.toList 1 : Nat), .int .i64 (verNum s.data.toList 2 : Nat), .slice a1 n1 c1] 83)
    by_cases hn : 0 < n1
    · have hn' : (0 : Int) < (n1 : Int) := by omega
      rw [decide_eq_true hn] at hPX
      subst hPX
      go_wp2_with fail
      go_ret
      exact ⟨rfl, below_step hb hba⟩
    · have hn' : ¬ (0 : Int) < (n1 : Int) := by omega
      rw [decide_eq_false hn] at hPX
      subst hPX
      go_wp2_with fail
      go_ret
      exact ⟨rfl, below_step hb hba⟩
  · rw [errV_pos A h0] at hsp
    have hPX : X = true := by rw [hP]; simp [h0]
    subst hPX
    clear hP hX h0
    replace hsp := Lib.hid hsp
    go_enter Tryz.func260, Tryz.ntmps260
    go_wp2_with fail
    refine hsp.out.mono ?_
    rintro e w1 ⟨hb, v, rfl, hv⟩
    obtain ⟨a1, n1, c1, L1, rfl, rfl, _⟩ := hv
    have hba := below_alloc w1 (.cells #[.int .i64 (verNum s.data.toList 0 : Nat), .int .i64 (verNum s.data.toList 1 : Nat), .int .i64 (verNum s.data.toList 2 : Nat), .slice a1 n1 c1] 83)
    go_wp2_with fail
    go_ret
    exact ⟨rfl, below_step hb hba⟩
theorem liked1_in (a : Option Addr) (n cap : Nat) (P V : Nat → ByteArray) (R : Nat → List Md) (K : Nat → List Str) (Bk : Nat → Bool) (Rv Kv : Nat → Value) (bl bp : Nat) (s p : ByteArray) (w : World) (h : EntsIn w a n cap P V R K Bk Rv Kv) (hn : n ≤ 1000000) (zl : w.cell? ⟨bl, 0, none⟩ = some (.slice a n cap)) (zp : w.cell? ⟨bp, 0, none⟩ = some (.string p)) :
    Calls Tryz.prog 258 #[.string s, .pointer (some ⟨bl, 0, none⟩), .pointer (some ⟨bp, 0, none⟩)] w fun e w' => e = .returned (.bool (backB (enF n P V R K Bk) p.data.toList s.data.toList)) ∧ Below w.heap.size w w' := by
  have hf := idxFind_in a n cap P V R K Bk Rv Kv p s w h hn
  have hB : backB (enF n P V R K Bk) p.data.toList s.data.toList = (decide (0 ≤ findE (enF n P V R K Bk) (p.data.toList, s.data.toList)) && (enAt (enF n P V R K Bk) (findE (enF n P V R K Bk) (p.data.toList, s.data.toList)).toNat).back) := rfl
  have hfn := fun h => findE_nat (l := enF n P V R K Bk) (m := (p.data.toList, s.data.toList)) h
  generalize findE (enF n P V R K Bk) (p.data.toList, s.data.toList) = x at hf hB hfn
  by_cases h0 : x < 0
  · have HR : Hid (backB (enF n P V R K Bk) p.data.toList s.data.toList = false) := Lib.hid (by rw [hB, decide_eq_false (by omega)]; rfl)
    have h0' : ¬ (0 : Int) ≤ x := by omega
    clear hfn hB
    replace hf := Lib.hid hf
    go_enter Tryz.func258, Tryz.ntmps258
    go_wp2_with fail
    refine hf.out.mono ?_
    rintro e w1 ⟨rfl, hb⟩
    replace zl := Below.cell_some hb zl
    go_wp2_with fail
    go_ret
    rw [HR.out]
    exact ⟨rfl, hb⟩
  · obtain ⟨k, rfl, hk, _⟩ := hfn h0
    rw [enF_length] at hk
    obtain ⟨b1, o1, rfl, hcell⟩ := h.at_ k hk
    have HR : Hid (backB (enF n P V R K Bk) p.data.toList s.data.toList = Bk k) := Lib.hid (by
      rw [hB, decide_eq_true (by omega), Bool.true_and]
      show (enAt (enF n P V R K Bk) k).back = _
      rw [enAt_enF hk])
    have h0' : (0 : Int) ≤ (k : Int) := by omega
    have hkn : (k : Int) < (n : Int) := by omega
    have c4 := hcell.c4
    clear hfn hB h0 hcell
    generalize Bk k = X at c4 HR
    replace hf := Lib.hid hf
    go_enter Tryz.func258, Tryz.ntmps258
    go_wp2_with fail
    refine hf.out.mono ?_
    rintro e w1 ⟨rfl, hb⟩
    replace zl := Below.cell_some hb zl
    replace c4 := Below.cell_some hb c4
    go_wp2_with fail
    go_ret
    rw [HR.out]
    exact ⟨rfl, hb⟩
theorem liked2_in (ks : List Nat) (A : Nat → Addr) (a : Option Addr) (n cap : Nat) (P V : Nat → ByteArray) (R : Nat → List Md) (K : Nat → List Str) (Bk : Nat → Bool) (Rv Kv : Nat → Value) (bl bp bf : Nat) (s p : ByteArray) (w : World) (hE : EnvP ks A w) (h : EntsIn w a n cap P V R K Bk Rv Kv) (hn : n ≤ 1000000) (hs : s.size ≤ 1000000000) (zl : w.cell? ⟨bl, 0, none⟩ = some (.slice a n cap)) (zp : w.cell? ⟨bp, 0, none⟩ = some (.string p)) (zf : w.cell? ⟨bf, 0, none⟩ = some (.func (.func 258) #[] #[.pointer (some ⟨bl, 0, none⟩), .pointer (some ⟨bp, 0, none⟩)])) :
    Calls Tryz.prog 259 #[.string s, .pointer (some ⟨bf, 0, none⟩)] w fun e w' => e = .returned (.bool (backB (enF n P V R K Bk) p.data.toList s.data.toList || preB s.data.toList)) ∧ Below w.heap.size w w' := by
  have h1 := liked1_in a n cap P V R K Bk Rv Kv bl bp s p w h hn zl zp
  have h2 := fun W hb => idxPre_calls ks A s W (hE.below hb) hs
  have eg := enters_liked1
  generalize backB (enF n P V R K Bk) p.data.toList s.data.toList = X at h1 ⊢
  generalize preB s.data.toList = Y at h2 ⊢
  replace h1 := Lib.hid h1
  replace h2 := Lib.hid h2
  clear h zl zp
  cases X with
  | true =>
    go_enter Tryz.func259, Tryz.ntmps259
    go_wp2_with (go_at_fn 258; refine h1.out.mono ?_; rintro e w1 ⟨rfl, hb⟩)
    go_ret
    exact ⟨rfl, hb⟩
  | false =>
    go_enter Tryz.func259, Tryz.ntmps259
    go_wp2_with (go_at_fn 258; refine h1.out.mono ?_; rintro e w1 ⟨rfl, hb⟩)
    refine (h2.out _ hb).mono ?_
    rintro e w2 ⟨rfl, hb2⟩
    go_wp2_with fail
    go_ret
    exact ⟨rfl, below_step hb hb2⟩
theorem del_new (g : Nat) (lb : Array Value) (eg : ∀ args w, (callFunc g args).run Tryz.prog w = .ok (.enter g args) w) (q : Str → Bool) (l : List Str) (w0 w : World) (e : Ending) (hl : l.length ≤ 1000000)
    (hT : ∀ W, Below w0.heap.size w0 W → ∀ s ∈ l, Calls Tryz.prog g (#[encStr s] ++ lb) W fun e w'' => e = .returned (.bool (q s)) ∧ Below W.heap.size W w'')
    (n : Nat) (L : Nat → ByteArray) (hL : l = lstF n L)
    (h : ((e = .returned (.slice none 0 0) ∧ n = 0) ∨ ∃ g c, e = .returned (.slice (some ⟨g, 0, none⟩) n c) ∧ w0.heap.size ≤ g ∧ g < w.heap.size ∧ n ≤ c ∧ c ≤ 9223372036854775807 ∧ Holds encStr w g 0 (lstF n L).toArray) ∧ Below w0.heap.size w0 w) :
    ∃ u, e = .returned u ∧ (∃ a m c, u = .slice a m c) ∧ Calls Tryz.prog 139 #[u, .func (.func g) #[] lb] w fun e' w' => (∃ v', e' = .returned v' ∧ StrsAt w' v' (l.filter fun x => !q x)) ∧ Below w0.heap.size w0 w' := by
  obtain ⟨h | ⟨g', c, h1, h2, h3, h4, h5, h6⟩, hb⟩ := h
  · obtain ⟨h1, h2⟩ := h
    subst h2
    refine ⟨_, h1, ⟨_, _, _, rfl⟩, (deleteFunc_nil _ 0 _).mono ?_⟩
    rintro e' w' ⟨rfl, rfl⟩
    have : l.filter (fun x => !q x) = [] := by rw [hL]; rfl
    rw [this]
    exact ⟨⟨_, rfl, StrsAt.nil _⟩, hb⟩
  · refine ⟨_, h1, ⟨_, _, _, rfl⟩, ?_⟩
    have hdz : (lstF n L).toArray.size = n := by rw [List.size_toArray, lstF_length]
    have hn : n ≤ 1000000 := by rw [hL, lstF_length] at hl; exact hl
    have hD := deleteFunc_calls g lb eg q g' 0 c w0.heap.size (lstF n L).toArray w (by rw [hdz]; omega) (by rw [hdz]; exact h4) h2 h3 h6 (fun W hW s hs => hT W (hb.trans hW) s (by rw [hL]; simpa using hs))
    rw [hdz] at hD
    refine hD.mono ?_
    rintro e' w' ⟨rfl, hb2, hH⟩
    simp only at hH ⊢
    rw [hL]
    refine ⟨⟨_, rfl, strsAt_holds hH ?_ h5⟩, hb.trans hb2⟩
    have := List.length_filter_le (fun x => !q x) (lstF n L)
    rw [lstF_length] at this
    omega
set_option maxHeartbeats 4000000 in
set_option maxRecDepth 100000 in
theorem liked_in (ks : List Nat) (A : Nat → Addr) (a : Option Addr) (n cap : Nat) (P V : Nat → ByteArray) (R : Nat → List Md) (K : Nat → List Str) (Bk : Nat → Bool) (Rv Kv : Nat → Value) (p : ByteArray) (sv : Value) (l : List Str) (w : World) (hE : EnvP ks A w) (h : EntsIn w a n cap P V R K Bk Rv Kv) (hn : n ≤ 1000000) (hv : StrsAt w sv l) (hl : l.length ≤ 1000000) (hls : ∀ x ∈ l, x.length ≤ 1000000) :
    Calls Tryz.prog 207 #[.slice a n cap, .string p, sv] w fun e w' => (∃ v, e = .returned v ∧ StrsAt w' v (likedL (enF n P V R K Bk) p.data.toList l)) ∧ Below w.heap.size w w' := by
  obtain ⟨sa, sn, sc, L, rfl, hL, _, _, hc⟩ := id hv
  have hb1 := below_alloc w (.cells #[.slice a n cap] 22)
  have z1 : (w.alloc (.cells #[.slice a n cap] 22)).cell? ⟨w.heap.size, 0, none⟩ = some (.slice a n cap) := by simp
  generalize hw1 : w.alloc (.cells #[.slice a n cap] 22) = w1 at *
  have hb2 := below_alloc w1 (.cells #[.string p] 9)
  have z2 : (w1.alloc (.cells #[.string p] 9)).cell? ⟨w1.heap.size, 0, none⟩ = some (.string p) := by simp
  replace z1 := Below.cell_some hb2 z1
  replace hb1 := below_step hb1 hb2
  generalize hw2 : w1.alloc (.cells #[.string p] 9) = w2 at *
  obtain ⟨FV, hFV⟩ : ∃ FV : Value, FV = .func (.func 258) #[] #[.pointer (some ⟨w.heap.size, 0, none⟩), .pointer (some ⟨w1.heap.size, 0, none⟩)] := ⟨_, rfl⟩
  have hb3 := below_alloc w2 (.cells #[.func (.func 258) #[] #[.pointer (some ⟨w.heap.size, 0, none⟩), .pointer (some ⟨w1.heap.size, 0, none⟩)]] 43)
  have z3 : (w2.alloc (.cells #[.func (.func 258) #[] #[.pointer (some ⟨w.heap.size, 0, none⟩), .pointer (some ⟨w1.heap.size, 0, none⟩)]] 43)).cell? ⟨w2.heap.size, 0, none⟩ = some (.func (.func 258) #[] #[.pointer (some ⟨w.heap.size, 0, none⟩), .pointer (some ⟨w1.heap.size, 0, none⟩)]) := by simp
  replace z1 := Below.cell_some hb3 z1
  replace z2 := Below.cell_some hb3 z2
  replace hb1 := below_step hb1 hb3
  generalize hw3 : w2.alloc (.cells #[.func (.func 258) #[] #[.pointer (some ⟨w.heap.size, 0, none⟩), .pointer (some ⟨w1.heap.size, 0, none⟩)]] 43) = w3 at *
  have hb4 := below_alloc w3 (.cells #[.func (.func 259) #[] #[.pointer (some ⟨w2.heap.size, 0, none⟩)], .func (.func 258) #[] #[.pointer (some ⟨w.heap.size, 0, none⟩), .pointer (some ⟨w1.heap.size, 0, none⟩)]] 43)
  have z4 : (w3.alloc (.cells #[.func (.func 259) #[] #[.pointer (some ⟨w2.heap.size, 0, none⟩)], .func (.func 258) #[] #[.pointer (some ⟨w.heap.size, 0, none⟩), .pointer (some ⟨w1.heap.size, 0, none⟩)]] 43)).cell? ⟨w3.heap.size, 0, none⟩ = some (.func (.func 259) #[] #[.pointer (some ⟨w2.heap.size, 0, none⟩)]) := by simp
  have z5 : (w3.alloc (.cells #[.func (.func 259) #[] #[.pointer (some ⟨w2.heap.size, 0, none⟩)], .func (.func 258) #[] #[.pointer (some ⟨w.heap.size, 0, none⟩), .pointer (some ⟨w1.heap.size, 0, none⟩)]] 43)).cell? ⟨w3.heap.size, 1, none⟩ = some (.func (.func 258) #[] #[.pointer (some ⟨w.heap.size, 0, none⟩), .pointer (some ⟨w1.heap.size, 0, none⟩)]) := by simp
  generalize hw4 : w3.alloc (.cells #[.func (.func 259) #[] #[.pointer (some ⟨w2.heap.size, 0, none⟩)], .func (.func 258) #[] #[.pointer (some ⟨w.heap.size, 0, none⟩), .pointer (some ⟨w1.heap.size, 0, none⟩)]] 43) = w4 at *
  have hcl := fun W (hW : Below w.heap.size w W) => cloneS_calls sa sn sc L W (by rw [hL, lstF_length] at hl; omega) (fun j hj => let ⟨b, o, e, c⟩ := hc j hj; ⟨b, o, e, Below.cell_some hW c⟩)
  have hT1 : ∀ W, Below w3.heap.size w3 W → ∀ s ∈ l, Calls Tryz.prog 258 (#[encStr s] ++ #[.pointer (some ⟨w.heap.size, 0, none⟩), .pointer (some ⟨w1.heap.size, 0, none⟩)]) W fun e w'' => e = .returned (.bool (backB (enF n P V R K Bk) p.data.toList s)) ∧ Below W.heap.size W w'' := fun W hW s hs =>
    liked1_in a n cap P V R K Bk Rv Kv w.heap.size w1.heap.size ⟨s.toArray⟩ p W (h.below (below_step hb1 hW)) hn (Below.cell_some hW z1) (Below.cell_some hW z2)
  have hT2 : ∀ W, Below w3.heap.size w3 W → ∀ s ∈ l, Calls Tryz.prog 259 (#[encStr s] ++ #[.pointer (some ⟨w2.heap.size, 0, none⟩)]) W fun e w'' => e = .returned (.bool (backB (enF n P V R K Bk) p.data.toList s || preB s)) ∧ Below W.heap.size W w'' := fun W hW s hs =>
    liked2_in ks A a n cap P V R K Bk Rv Kv w.heap.size w1.heap.size w2.heap.size ⟨s.toArray⟩ p W (hE.below (below_step hb1 hW)) (h.below (below_step hb1 hW)) hn (by have := hls s hs; simp [ByteArray.size]; omega) (Below.cell_some hW z1) (Below.cell_some hW z2) (Below.cell_some hW z3)
  have hd1 := fun (W0 W : World) (hW0 : Below w3.heap.size w3 W0) (e : Ending) h => del_new 258 #[.pointer (some ⟨w.heap.size, 0, none⟩), .pointer (some ⟨w1.heap.size, 0, none⟩)] enters_liked1 (backB (enF n P V R K Bk) p.data.toList) l W0 W e hl (fun W' hW' => hT1 W' (below_step hW0 hW')) sn L hL h
  have hd2 := fun (W0 W : World) (hW0 : Below w3.heap.size w3 W0) (e : Ending) h => del_new 259 #[.pointer (some ⟨w2.heap.size, 0, none⟩)] enters_liked2 (fun s => backB (enF n P V R K Bk) p.data.toList s || preB s) l W0 W e hl (fun W' hW' => hT2 W' (below_step hW0 hW')) sn L hL h
  have HLK : Hid (likedL (enF n P V R K Bk) p.data.toList l = if l.filter (fun v => !(backB (enF n P V R K Bk) p.data.toList v || preB v)) ≠ [] then l.filter (fun v => !(backB (enF n P V R K Bk) p.data.toList v || preB v)) else if l.filter (fun v => !backB (enF n P V R K Bk) p.data.toList v) ≠ [] then l.filter (fun v => !backB (enF n P V R K Bk) p.data.toList v) else l) := Lib.hid rfl
  generalize l.filter (fun v => !(backB (enF n P V R K Bk) p.data.toList v || preB v)) = L2 at *
  generalize l.filter (fun v => !backB (enF n P V R K Bk) p.data.toList v) = L1 at *
  generalize likedL (enF n P V R K Bk) p.data.toList l = LK at *
  have HV := Lib.hid hv
  have HB1 := Lib.hid hb1
  have HB34 := Lib.hid hb4
  replace hcl := Lib.hid hcl
  replace hd1 := Lib.hid hd1
  replace hd2 := Lib.hid hd2
  clear h hv hT1 hT2 hFV hb2 hb3 hE hls hL hc hb4 hb1
  go_enter Tryz.func207, Tryz.ntmps207
  go_wp2_with fail
  clear hw1 hw2 hw3 hw4 z1 z2 z3
  go_loopw [9, 10, 16] (fun _ _ i wr => ∃ k : Nat, k ≤ 2 ∧ i = .int .i64 k ∧ Below w4.heap.size w4 wr ∧ Hid ((0 < k → L2 = []) ∧ (1 < k → L1 = []))) (fun _ _ i _ => 2 - (intOf i).toNat)
  case atStart => exact ⟨0, Nat.zero_le _, rfl, Below.refl _ _, Lib.hid ⟨fun h => absurd h (by decide), fun h => absurd h (by decide)⟩⟩
  case round =>
    obtain ⟨k, hk, rfl, hBr, HI⟩ := hrel
    have hB3 := below_step HB34.out hBr
    have hB := below_step HB1.out hB3
    have hcp := hcl.out wr hB
    have hd1r := fun W e h => hd1.out wr W hB3 e h
    have hd2r := fun W e h => hd2.out wr W hB3 e h
    have hk3 : k = 0 ∨ k = 1 ∨ k = 2 := by omega
    rcases hk3 with rfl | rfl | rfl
    · have y4 := Below.cell_some hBr z4
      replace hcp := Lib.hid hcp
      replace hd1r := Lib.hid hd1r
      replace hd2r := Lib.hid hd2r
      go_wp2_with fail
      refine hcp.out.mono ?_
      rintro e w5 h5
      obtain ⟨u, rfl, ⟨ua, um, uc, rfl⟩, hdel⟩ := hd2r.out w5 e h5
      replace hdel := Lib.hid hdel
      clear h5 hcp
      go_wp2_with fail
      refine hdel.out.mono ?_
      rintro e w6 ⟨⟨v', rfl, hS⟩, hb6⟩
      obtain ⟨va, vm, vc, M, rfl, hM, _⟩ := id hS
      have hB6 := below_step hB hb6
      by_cases hlt : 0 < vm
      · have hlt' : (0 : Int) < (vm : Int) := by omega
        have HL : Hid (LK = L2) := Lib.hid (by
          rw [HLK.out, if_pos (fun e => by have := congrArg List.length (hM.symm.trans e); rw [lstF_length] at this; simp at this; omega)])
        have HS := Lib.hid hS
        clear hM hS
        go_wp2_with fail
        go_ret
        rw [HL.out]
        exact ⟨⟨_, rfl, HS.out⟩, hB6⟩
      · have hlt' : ¬ (0 : Int) < (vm : Int) := by omega
        have HI2 : Hid ((0 < 0 + 1 → L2 = []) ∧ (1 < 0 + 1 → L1 = [])) := Lib.hid ⟨fun _ => by
          rw [hM, show vm = 0 by omega]; rfl, fun h => absurd h (by decide)⟩
        clear hM hS
        go_wp2_with fail
        go_roundw
        case rel => exact ⟨0 + 1, by decide, by go_num, hBr.trans (hb6.mono hBr.size), HI2⟩
        case measure => simp [intOf]
    · have y5 := Below.cell_some hBr z5
      have HI1 := HI.out.1 (by decide)
      replace hcp := Lib.hid hcp
      replace hd1r := Lib.hid hd1r
      replace hd2r := Lib.hid hd2r
      replace HI1 := Lib.hid HI1
      go_wp2_with fail
      refine hcp.out.mono ?_
      rintro e w5 h5
      obtain ⟨u, rfl, ⟨ua, um, uc, rfl⟩, hdel⟩ := hd1r.out w5 e h5
      replace hdel := Lib.hid hdel
      clear h5 hcp
      go_wp2_with fail
      refine hdel.out.mono ?_
      rintro e w6 ⟨⟨v', rfl, hS⟩, hb6⟩
      obtain ⟨va, vm, vc, M, rfl, hM, _⟩ := id hS
      have hB6 := below_step hB hb6
      by_cases hlt : 0 < vm
      · have hlt' : (0 : Int) < (vm : Int) := by omega
        have HL : Hid (LK = L1) := Lib.hid (by
          rw [HLK.out, if_neg (fun h => h HI1.out), if_pos (fun e => by have := congrArg List.length (hM.symm.trans e); rw [lstF_length] at this; simp at this; omega)])
        have HS := Lib.hid hS
        clear hM hS
        go_wp2_with fail
        go_ret
        rw [HL.out]
        exact ⟨⟨_, rfl, HS.out⟩, hB6⟩
      · have hlt' : ¬ (0 : Int) < (vm : Int) := by omega
        have HI2 : Hid ((0 < 1 + 1 → L2 = []) ∧ (1 < 1 + 1 → L1 = [])) := Lib.hid ⟨fun _ => HI1.out, fun _ => by
          rw [hM, show vm = 0 by omega]; rfl⟩
        clear hM hS
        go_wp2_with fail
        go_roundw
        case rel => exact ⟨1 + 1, by decide, by go_num, hBr.trans (hb6.mono hBr.size), HI2⟩
        case measure => simp [intOf]
    · have HL : Hid (LK = l) := Lib.hid (by
        rw [HLK.out, if_neg (fun h => h (HI.out.1 (by decide))), if_neg (fun h => h (HI.out.2 (by decide)))])
      clear hcp hd1r hd2r
      go_wp2_with fail
      go_ret
      rw [HL.out]
      exact ⟨⟨_, rfl, HV.out.below hB⟩, hB⟩
end Go.Proofs.Pw

namespace Go.Proofs.Pw
open Go.RowKit
open Go.Lib hiding intOf
theorem run_neq_ptr_same {P : Program} (w : World) {ti tp te : TypeId} {ms : Array (String × TypeId)} {i j : TypeInfo} (a : Addr)
    (hi : P.underlying ti = some (.interface ms)) (hp : P.underlying tp = some (.pointer te)) (hinfo : P.info? tp = some i) (hcomp : i.comparable = true) (hte : P.info? te = some j) :
    (binOp .neq ti (.iface tp (.pointer (some a))) (.iface tp (.pointer (some a)))).run P w = .ok (.bool false) w := by
  simp only [binOp]
  simp [Op.equal, Op.maxDepth, run_equalIn_iface_ptr_same w 9998 a hi hp hinfo hcomp hte]
theorem run_neq_ptr_other {P : Program} (w : World) {ti tp te : TypeId} {ms : Array (String × TypeId)} {i j : TypeInfo} {a b : Addr} {ca cb : Array Value} {ta tb : TypeId}
    (hi : P.underlying ti = some (.interface ms)) (hp : P.underlying tp = some (.pointer te)) (hinfo : P.info? tp = some i) (hcomp : i.comparable = true) (hte : P.info? te = some j) (hsz : j.size ≠ 0)
    (hne : a ≠ b) (ha : w.heap[a.block]? = some (.cells ca ta (0, 0))) (hb : w.heap[b.block]? = some (.cells cb tb (0, 0))) :
    (binOp .neq ti (.iface tp (.pointer (some a))) (.iface tp (.pointer (some b)))).run P w = .ok (.bool true) w := by
  simp only [binOp]
  simp [Op.equal, Op.maxDepth, run_equalIn_iface_ptr_other w 9998 hi hp hinfo hcomp hte hsz hne ha hb]
theorem run_neq_nil_left {P : Program} (w : World) {ti : TypeId} {ms : Array (String × TypeId)} (tp : TypeId) (v : Value) (hi : P.underlying ti = some (.interface ms)) :
    (binOp .neq ti .nilIface (.iface tp v)).run P w = .ok (.bool true) w := by
  have h : ∀ d : Nat, (Op.equalIn (d + 1) ti .nilIface (.iface tp v)).run P w = .ok false w := fun d => by simp [Op.equalIn, run_underlying hi]
  simp only [binOp]
  simp [Op.equal, Op.maxDepth, h 9999]
set_option maxHeartbeats 2000000 in
set_option maxRecDepth 100000 in
theorem qCheck_calls (ks : List Nat) (A : Nat → Addr) (q : ByteArray) (w : World) (hE : EnvP ks A w) (hq : q.size ≤ 1000000) :
    Calls Tryz.prog 38 #[.string q] w fun e w' => e = .returned (errV A (qErr q.data.toList)) ∧ Below w.heap.size w w' := by
  have hw := qWord_calls q w
  have hbo := fun W => bound_calls q W
  have hck := fun (s : ByteArray) (hs : s.size ≤ 1000000000) (W : World) (hb : Below w.heap.size w W) => verCheck_calls ks A s W (hE.below hb) hs
  have hhd := fun (W : World) (hb : Below w.heap.size w W) => verHead_calls ks A q W (hE.below hb) (by omega)
  have hQ : qErr q.data.toList = if qWord q.data.toList then 0 else match qBound q.data.toList with
    | some b => verErr b.2
    | none => if verErr q.data.toList = 1 then headErr q.data.toList else verErr q.data.toList := rfl
  cases hqw : qWord q.data.toList with
  | true =>
    rw [hqw] at hw hQ
    simp only [if_true] at hQ
    have HQ := Lib.hid hQ
    replace hw := Lib.hid hw
    clear hbo hck hhd hE hQ hqw
    go_enter Tryz.func38, Tryz.ntmps38
    go_wp2_with fail
    refine hw.out.mono ?_
    rintro e w1 ⟨rfl, hb⟩
    go_wp2_with fail
    go_ret
    rw [HQ.out]
    exact ⟨rfl, hb⟩
  | false =>
    rw [hqw] at hw hQ
    simp only [Bool.false_eq_true, if_false] at hQ
    cases hqb : qBound q.data.toList with
    | some b =>
      rw [hqb] at hbo hQ
      simp only at hQ
      have hbl : b.2.length ≤ 1000000 := by
        have h := boundF_len (l := signs) (q := q.data.toList) (b := b) hqb
        rw [size_eq] at hq
        exact Nat.le_trans h hq
      have hcb := hck ⟨b.2.toArray⟩ (by simp [ByteArray.size]; omega)
      have HQ := Lib.hid hQ
      unfold boundV at hbo
      simp only at hbo
      generalize verErr b.2 = x at hcb HQ
      generalize (⟨b.2.toArray⟩ : ByteArray) = s2 at hcb hbo
      generalize (⟨b.1.toArray⟩ : ByteArray) = s1 at hbo
      replace hw := Lib.hid hw
      replace hbo := Lib.hid hbo
      replace hcb := Lib.hid hcb
      clear hck hhd hE hQ hqw hqb hbl
      go_enter Tryz.func38, Tryz.ntmps38
      go_wp2_with fail
      refine hw.out.mono ?_
      rintro e w1 ⟨rfl, hB⟩
      go_wp2_with fail
      refine (hbo.out _).mono ?_
      rintro e w2 ⟨rfl, hb⟩
      replace hB := below_step hB hb
      clear hb
      go_wp2_with fail
      refine (hcb.out _ hB).mono ?_
      rintro e w3 ⟨rfl, hb⟩
      go_wp2_with fail
      go_ret
      rw [HQ.out]
      exact ⟨rfl, below_step hB hb⟩
    | none =>
      rw [hqb] at hbo hQ
      simp only at hQ
      have hcq := hck q (by omega)
      unfold boundV at hbo
      simp only at hbo
      obtain ⟨i, hi, hcmp⟩ := Option.map_eq_some_iff.1 Tryz.is_comp
      obtain ⟨j, hj, hjs⟩ := Option.map_eq_some_iff.1 Tryz.is_size
      have hv2 := verErr_le q.data.toList
      have hE1 := fun (W : World) (hb : Below w.heap.size w W) => (hE.below hb)
      by_cases h0 : verErr q.data.toList = 0
      · rw [h0] at hcq hQ
        rw [if_neg (by decide)] at hQ
        rw [errV_zero] at hcq
        have HQ := Lib.hid hQ
        replace hw := Lib.hid hw
        replace hbo := Lib.hid hbo
        replace hcq := Lib.hid hcq
        replace hE1 := Lib.hid hE1
        clear hck hhd hE hQ hqw hqb hv2 h0
        go_enter Tryz.func38, Tryz.ntmps38
        go_wp2_with fail
        refine hw.out.mono ?_
        rintro e w1 ⟨rfl, hB⟩
        go_wp2_with fail
        refine (hbo.out _).mono ?_
        rintro e w2 ⟨rfl, hb⟩
        replace hB := below_step hB hb
        clear hb
        go_wp2_with fail
        refine (hcq.out _ hB).mono ?_
        rintro e w3 ⟨rfl, hb⟩
        replace hB := below_step hB hb
        clear hb
        have g1 := (hE1.out _ hB).errs.var 1 (hE1.out _ hB).has.1
        simp only [errG] at g1
        have hne := run_neq_nil_left (P := Tryz.prog) w3 328 (.pointer (some (A 1))) Tryz.underlying33
        go_wp2_with fail
        go_ret
        rw [HQ.out]
        exact ⟨rfl, hB⟩
      · by_cases h1 : verErr q.data.toList = 1
        · rw [if_pos h1] at hQ
          rw [h1, errV_pos A (by decide)] at hcq
          have HQ := Lib.hid hQ
          replace hw := Lib.hid hw
          replace hbo := Lib.hid hbo
          replace hcq := Lib.hid hcq
          replace hE1 := Lib.hid hE1
          replace hhd := Lib.hid hhd
          clear hck hE hQ hqw hqb hv2 h0 h1
          go_enter Tryz.func38, Tryz.ntmps38
          go_wp2_with fail
          refine hw.out.mono ?_
          rintro e w1 ⟨rfl, hB⟩
          go_wp2_with fail
          refine (hbo.out _).mono ?_
          rintro e w2 ⟨rfl, hb⟩
          replace hB := below_step hB hb
          clear hb
          go_wp2_with fail
          refine (hcq.out _ hB).mono ?_
          rintro e w3 ⟨rfl, hb⟩
          replace hB := below_step hB hb
          clear hb
          have g1 := (hE1.out _ hB).errs.var 1 (hE1.out _ hB).has.1
          simp only [errG] at g1
          have hne := run_neq_ptr_same (P := Tryz.prog) w3 (A 1) Tryz.underlying33 Tryz.underlying328 hi hcmp hj
          go_wp2_with fail
          refine (hhd.out _ hB).mono ?_
          rintro e w4 ⟨⟨v, rfl, _⟩, hb⟩
          go_wp2_with fail
          go_ret
          rw [HQ.out]
          exact ⟨rfl, below_step hB hb⟩
        · have h2 : verErr q.data.toList = 2 := by omega
          rw [if_neg h1, h2] at hQ
          rw [h2, errV_pos A (by decide)] at hcq
          have HQ := Lib.hid hQ
          replace hw := Lib.hid hw
          replace hbo := Lib.hid hbo
          replace hcq := Lib.hid hcq
          replace hE1 := Lib.hid hE1
          clear hck hhd hE hQ hqw hqb hv2 h0 h1 h2
          go_enter Tryz.func38, Tryz.ntmps38
          go_wp2_with fail
          refine hw.out.mono ?_
          rintro e w1 ⟨rfl, hB⟩
          go_wp2_with fail
          refine (hbo.out _).mono ?_
          rintro e w2 ⟨rfl, hb⟩
          replace hB := below_step hB hb
          clear hb
          go_wp2_with fail
          refine (hcq.out _ hB).mono ?_
          rintro e w3 ⟨rfl, hb⟩
          replace hB := below_step hB hb
          clear hb
          have g1 := (hE1.out _ hB).errs.var 1 (hE1.out _ hB).has.1
          simp only [errG] at g1
          obtain ⟨ca, ta, ha⟩ := (hE1.out _ hB).errs.row 2 (hE1.out _ hB).has.2
          obtain ⟨cb, tb, hbq⟩ := (hE1.out _ hB).errs.row 1 (hE1.out _ hB).has.1
          have hAne : A 2 ≠ A 1 := fun e => absurd ((hE1.out _ hB).errs.inj _ (hE1.out _ hB).has.2 _ (hE1.out _ hB).has.1 e) (by decide)
          have hne := run_neq_ptr_other (P := Tryz.prog) w3 Tryz.underlying33 Tryz.underlying328 hi hcmp hj (by rw [hjs]; decide) hAne ha hbq
          go_wp2_with fail
          go_ret
          rw [HQ.out, errV_pos A (by decide)]
          exact ⟨rfl, hB⟩
def likedV (A : Nat → Addr) : Option Str → Value
  | none => .tuple #[.string ⟨#[]⟩, errV A 5]
  | some s => .tuple #[.string ⟨s.toArray⟩, .nilIface]
set_option maxHeartbeats 2000000 in
set_option maxRecDepth 100000 in
theorem qLiked_in (ks : List Nat) (A : Nat → Addr) (h5 : 5 ∈ ks) (a : Option Addr) (n cap : Nat) (P V : Nat → ByteArray) (R : Nat → List Md) (K : Nat → List Str) (Bk : Nat → Bool) (Rv Kv : Nat → Value) (p : ByteArray) (sv : Value) (l : List Str) (least : Bool) (w : World) (hE : EnvP ks A w) (h : EntsIn w a n cap P V R K Bk Rv Kv) (hn : n ≤ 1000000) (hv : StrsAt w sv l) (hl : l.length ≤ 1000000) (hls : ∀ x ∈ l, x.length ≤ 1000000) :
    Calls Tryz.prog 138 #[.slice a n cap, .string p, sv, .bool least] w fun e w' => e = .returned (likedV A (likedF (enF n P V R K Bk) p.data.toList l least)) ∧ Below w.heap.size w w' := by
  have hli := liked_in ks A a n cap P V R K Bk Rv Kv p sv l w hE h hn hv hl hls
  have hF : likedF (enF n P V R K Bk) p.data.toList l least = if likedL (enF n P V R K Bk) p.data.toList l = [] then none else some (if least then (likedL (enF n P V R K Bk) p.data.toList l).headD [] else lastS (likedL (enF n P V R K Bk) p.data.toList l)) := rfl
  have hlen := likedL_len (enF n P V R K Bk) p.data.toList l
  generalize likedL (enF n P V R K Bk) p.data.toList l = LK at hli hF hlen
  have HF := Lib.hid hF
  have HE := Lib.hid hE
  obtain ⟨a3, n3, c3, _, rfl, _⟩ := id hv
  replace hli := Lib.hid hli
  clear hE h hv hF hls
  go_enter Tryz.func138, Tryz.ntmps138
  go_wp2_with fail
  refine hli.out.mono ?_
  rintro e w1 ⟨⟨v1, rfl, hs1⟩, hB⟩
  obtain ⟨a1, n1, c1, L1, rfl, e1, _, _, hc1⟩ := hs1
  have hn1 : n1 ≤ 1000000 := by rw [e1, lstF_length] at hlen; omega
  clear hli hlen
  by_cases h0 : n1 = 0
  · subst h0
    have HQ : Hid (likedF (enF n P V R K Bk) p.data.toList l least = none) := Lib.hid (by
      rw [HF.out, if_pos (by rw [e1]; rfl)])
    have g5 := (HE.out.below hB).errs.var 5 h5
    simp only [errG] at g5
    clear hc1 e1 HF
    go_wp2_with fail
    have kqg5 := fun d os => cell_patch (d := d) (os := os) g5
    refine wp_region_quiet_patch (by kernel_rfl) (by kernel_rfl) ?_
    repeat (go_big_quiet_step (fail))
    refine wpQuiet_nil ?_
    intro _ hw'
    obtain ⟨⟨dq, osq⟩, hw''⟩ := hw'
    subst hw''
    clear kqg5
    have hb := below_patch w1 dq osq
    replace hB := below_step hB hb
    clear hb
    generalize patch w1 dq osq = w2 at hB ⊢
    go_wp2_with fail
    go_ret2
    rw [HQ.out]
    exact ⟨rfl, hB⟩
  · obtain ⟨m, rfl⟩ : ∃ m, n1 = m + 1 := ⟨n1 - 1, by omega⟩
    have hne : LK ≠ [] := by rw [e1]; unfold lstF; intro h; simp at h
    rw [if_neg hne] at HF
    obtain ⟨b1, o1, rfl, d0⟩ := hc1 0 (by omega)
    obtain ⟨b2, o2, e2, d1⟩ := hc1 m (by omega)
    injection e2 with e2
    injection e2 with e3 e4
    subst e3 e4
    have hq1 : (((m : Int) + 1) == 0) = false := beq_eq_false_iff_ne.2 (by omega)
    have hwm := wrap_nat m (by omega)
    have hm0 : ((m : Int) + 1 - 1) = (m : Int) := by omega
    have hm1 : (m : Int) < (m : Int) + 1 := by omega
    cases least with
    | true =>
      have hh : LK.headD [] = (L1 0).data.toList := by
        rw [e1]
        have := lstF_get (m + 1) L1 0 (by omega)
        cases hL : lstF (m + 1) L1 with
        | nil => rw [hL] at this; cases this
        | cons x r => rw [hL] at this; simpa using this
      have HQ : Hid (likedF (enF n P V R K Bk) p.data.toList l true = some (L1 0).data.toList) := Lib.hid (by rw [HF.out, ← hh]; rfl)
      clear hc1 e1 HF hne hh d1 h0
      simp only [Nat.add_zero] at d0
      go_wp2_with fail
      go_ret2
      rw [HQ.out]
      exact ⟨rfl, hB⟩
    | false =>
      have hh : lastS LK = (L1 m).data.toList := by
        rw [e1]
        unfold lastS
        rw [List.getLast?_eq_getElem?, lstF_length, Nat.add_sub_cancel, lstF_get (m + 1) L1 m (by omega)]
        rfl
      have HQ : Hid (likedF (enF n P V R K Bk) p.data.toList l false = some (L1 m).data.toList) := Lib.hid (by rw [HF.out, ← hh]; rfl)
      clear hc1 e1 HF hne hh d0 h0
      go_wp2_with fail
      go_ret2
      rw [HQ.out]
      exact ⟨rfl, hB⟩
end Go.Proofs.Pw
