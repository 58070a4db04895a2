/- Ut: walks and plain laws, joined: IdxLatest UpLatest UpOne UpAll Upped Rise SlDelF Rise2 UpNews LongIdx LongMath FindOf UpNewsL. Conditions: at each theorem. -/
import Derived.Test.YtnkcobdgaldkfaaGreatDoorUtf
import Derived.Test.YtnkcobdgaldkfaaGreatDoorUtb
import Derived.Laws.EntriesVeiled
import Derived.Test.YtnkcobdgaldkfaaGreatDoorUte
import Derived.Deep.AppendLies
import Derived.Deep.RegionHeld2
import Derived.Deep.LoopGhost
import Derived.Lib.SlKept
import Derived.Test.YtnkcobdgaldkfaaGreatDoorUtc
import Derived.Test.YtnkcobdgaldkfaaGreatDoorUtd

namespace Go.Proofs.Pw
open Go.RowKit Go.Sort
open Go.Lib hiding intOf
theorem enters_liked1 : ∀ args w, (callFunc 198 args).run Tryz.prog w = .ok (.enter 198 args) w := Go.Proofs.enters_of Tryz.func198 (by kernel_rfl) rfl
theorem enters_liked2 : ∀ args w, (callFunc 199 args).run Tryz.prog w = .ok (.enter 199 args) w := Go.Proofs.enters_of Tryz.func199 (by kernel_rfl) rfl
set_option maxHeartbeats 1000000 in
theorem idxPre_calls (ks : List Nat) (A : Nat → Addr) (s : ByteArray) (w : World) (hE : EnvP ks A w) (hs : s.size ≤ 1000000000) :
    Calls Tryz.prog 200 #[.string s] w fun e w' => e = .returned (.bool (preB s.data.toList)) ∧ Below w.heap.size w w' := by
  have hsp := verSplit_calls ks A s w hE hs
  have hP : preB s.data.toList = (decide (verErr s.data.toList ≠ 0) || decide (0 < (verPre s.data.toList).length)) := rfl
  obtain ⟨X, hX⟩ : ∃ X, preB s.data.toList = X := ⟨_, rfl⟩
  rw [hX] at hP ⊢
  generalize verPre s.data.toList = VP at *
  generalize verErr s.data.toList = VE at *
  by_cases h0 : VE = 0
  · subst h0
    rw [errV_zero] at hsp
    have hPX : X = decide (0 < VP.length) := by rw [hP]; simp
    clear hP hX
    replace hsp := Lib.hid hsp
    go_enter Tryz.func200, Tryz.ntmps200
    go_wp2_with fail
    refine hsp.out.mono ?_
    rintro e w1 ⟨hb, v, rfl, hv⟩
    obtain ⟨a1, n1, c1, L1, rfl, rfl, _⟩ := hv
    rw [lstF_length] at hPX
    have hba := below_alloc w1 (.cells #[.int .i64 (verNum s.data.toList 0 : Nat), .int .i64 (verNum s.data.toList 1 : Nat), .int .i64 (verNum s.data.toList 2 : Nat), .slice a1 n1 c1] 143)
    by_cases hn : 0 < n1
    · have hn' : (0 : Int) < (n1 : Int) := by omega
      rw [decide_eq_true hn] at hPX
      subst hPX
      go_wp2_with fail
      go_ret
      exact ⟨rfl, below_step hb hba⟩
    · have hn' : ¬ (0 : Int) < (n1 : Int) := by omega
      rw [decide_eq_false hn] at hPX
      subst hPX
      go_wp2_with fail
      go_ret
      exact ⟨rfl, below_step hb hba⟩
  · rw [errV_pos A h0] at hsp
    have hPX : X = true := by rw [hP]; simp [h0]
    subst hPX
    clear hP hX h0
    replace hsp := Lib.hid hsp
    go_enter Tryz.func200, Tryz.ntmps200
    go_wp2_with fail
    refine hsp.out.mono ?_
    rintro e w1 ⟨hb, v, rfl, hv⟩
    obtain ⟨a1, n1, c1, L1, rfl, rfl, _⟩ := hv
    have hba := below_alloc w1 (.cells #[.int .i64 (verNum s.data.toList 0 : Nat), .int .i64 (verNum s.data.toList 1 : Nat), .int .i64 (verNum s.data.toList 2 : Nat), .slice a1 n1 c1] 143)
    go_wp2_with fail
    go_ret
    exact ⟨rfl, below_step hb hba⟩
theorem liked1_in (a : Option Addr) (n cap : Nat) (P V : Nat → ByteArray) (R : Nat → List Md) (K : Nat → List Str) (Bk : Nat → Bool) (Rv Kv : Nat → Value) (bl bp : Nat) (s p : ByteArray) (w : World) (h : EntsIn w a n cap P V R K Bk Rv Kv) (hn : n ≤ 1000000) (zl : w.cell? ⟨bl, 0, none⟩ = some (.slice a n cap)) (zp : w.cell? ⟨bp, 0, none⟩ = some (.string p)) :
    Calls Tryz.prog 198 #[.string s, .pointer (some ⟨bl, 0, none⟩), .pointer (some ⟨bp, 0, none⟩)] w fun e w' => e = .returned (.bool (backB (enF n P V R K Bk) p.data.toList s.data.toList)) ∧ Below w.heap.size w w' := by
  have hf := idxFind_in a n cap P V R K Bk Rv Kv p s w h hn
  have hB : backB (enF n P V R K Bk) p.data.toList s.data.toList = (decide (0 ≤ findE (enF n P V R K Bk) (p.data.toList, s.data.toList)) && (enAt (enF n P V R K Bk) (findE (enF n P V R K Bk) (p.data.toList, s.data.toList)).toNat).back) := rfl
  have hfn := fun h => findE_nat (l := enF n P V R K Bk) (m := (p.data.toList, s.data.toList)) h
  generalize findE (enF n P V R K Bk) (p.data.toList, s.data.toList) = x at hf hB hfn
  by_cases h0 : x < 0
  · have HR : Hid (backB (enF n P V R K Bk) p.data.toList s.data.toList = false) := Lib.hid (by rw [hB, decide_eq_false (by omega)]; rfl)
    have h0' : ¬ (0 : Int) ≤ x := by omega
    clear hfn hB
    replace hf := Lib.hid hf
    go_enter Tryz.func198, Tryz.ntmps198
    go_wp2_with fail
    refine hf.out.mono ?_
    rintro e w1 ⟨rfl, hb⟩
    replace zl := Below.cell_some hb zl
    go_wp2_with fail
    go_ret
    rw [HR.out]
    exact ⟨rfl, hb⟩
  · obtain ⟨k, rfl, hk, _⟩ := hfn h0
    rw [enF_length] at hk
    obtain ⟨b1, o1, rfl, hcell⟩ := h.at_ k hk
    have HR : Hid (backB (enF n P V R K Bk) p.data.toList s.data.toList = Bk k) := Lib.hid (by
      rw [hB, decide_eq_true (by omega), Bool.true_and]
      show (enAt (enF n P V R K Bk) k).back = _
      rw [enAt_enF hk])
    have h0' : (0 : Int) ≤ (k : Int) := by omega
    have hkn : (k : Int) < (n : Int) := by omega
    have c4 := hcell.c4
    clear hfn hB h0 hcell
    generalize Bk k = X at c4 HR
    replace hf := Lib.hid hf
    go_enter Tryz.func198, Tryz.ntmps198
    go_wp2_with fail
    refine hf.out.mono ?_
    rintro e w1 ⟨rfl, hb⟩
    replace zl := Below.cell_some hb zl
    replace c4 := Below.cell_some hb c4
    go_wp2_with fail
    go_ret
    rw [HR.out]
    exact ⟨rfl, hb⟩
theorem liked2_in (ks : List Nat) (A : Nat → Addr) (a : Option Addr) (n cap : Nat) (P V : Nat → ByteArray) (R : Nat → List Md) (K : Nat → List Str) (Bk : Nat → Bool) (Rv Kv : Nat → Value) (bl bp bf : Nat) (s p : ByteArray) (w : World) (hE : EnvP ks A w) (h : EntsIn w a n cap P V R K Bk Rv Kv) (hn : n ≤ 1000000) (hs : s.size ≤ 1000000000) (zl : w.cell? ⟨bl, 0, none⟩ = some (.slice a n cap)) (zp : w.cell? ⟨bp, 0, none⟩ = some (.string p)) (zf : w.cell? ⟨bf, 0, none⟩ = some (.func (.func 198) #[] #[.pointer (some ⟨bl, 0, none⟩), .pointer (some ⟨bp, 0, none⟩)])) :
    Calls Tryz.prog 199 #[.string s, .pointer (some ⟨bf, 0, none⟩)] w fun e w' => e = .returned (.bool (backB (enF n P V R K Bk) p.data.toList s.data.toList || preB s.data.toList)) ∧ Below w.heap.size w w' := by
  have h1 := liked1_in a n cap P V R K Bk Rv Kv bl bp s p w h hn zl zp
  have h2 := fun W hb => idxPre_calls ks A s W (hE.below hb) hs
  have eg := enters_liked1
  generalize backB (enF n P V R K Bk) p.data.toList s.data.toList = X at h1 ⊢
  generalize preB s.data.toList = Y at h2 ⊢
  replace h1 := Lib.hid h1
  replace h2 := Lib.hid h2
  clear h zl zp
  cases X with
  | true =>
    go_enter Tryz.func199, Tryz.ntmps199
    go_wp2_with (go_at_fn 198; refine h1.out.mono ?_; rintro e w1 ⟨rfl, hb⟩)
    go_ret
    exact ⟨rfl, hb⟩
  | false =>
    go_enter Tryz.func199, Tryz.ntmps199
    go_wp2_with (go_at_fn 198; refine h1.out.mono ?_; rintro e w1 ⟨rfl, hb⟩)
    refine (h2.out _ hb).mono ?_
    rintro e w2 ⟨rfl, hb2⟩
    go_wp2_with fail
    go_ret
    exact ⟨rfl, below_step hb hb2⟩
theorem del_new (g : Nat) (lb : Array Value) (eg : ∀ args w, (callFunc g args).run Tryz.prog w = .ok (.enter g args) w) (q : Str → Bool) (l : List Str) (w0 w : World) (e : Ending) (hl : l.length ≤ 1000000)
    (hT : ∀ W, Below w0.heap.size w0 W → ∀ s ∈ l, Calls Tryz.prog g (#[encStr s] ++ lb) W fun e w'' => e = .returned (.bool (q s)) ∧ Below W.heap.size W w'')
    (n : Nat) (L : Nat → ByteArray) (hL : l = lstF n L)
    (h : ((e = .returned (.slice none 0 0) ∧ n = 0) ∨ ∃ g c, e = .returned (.slice (some ⟨g, 0, none⟩) n c) ∧ w0.heap.size ≤ g ∧ g < w.heap.size ∧ n ≤ c ∧ c ≤ 9223372036854775807 ∧ Holds encStr w g 0 (lstF n L).toArray) ∧ Below w0.heap.size w0 w) :
    ∃ u, e = .returned u ∧ (∃ a m c, u = .slice a m c) ∧ Calls Tryz.prog 183 #[u, .func (.func g) #[] lb] w fun e' w' => (∃ v', e' = .returned v' ∧ StrsAt w' v' (l.filter fun x => !q x)) ∧ Below w0.heap.size w0 w' := by
  obtain ⟨h | ⟨g', c, h1, h2, h3, h4, h5, h6⟩, hb⟩ := h
  · obtain ⟨h1, h2⟩ := h
    subst h2
    refine ⟨_, h1, ⟨_, _, _, rfl⟩, (deleteFunc_nil _ 0 _).mono ?_⟩
    rintro e' w' ⟨rfl, rfl⟩
    have : l.filter (fun x => !q x) = [] := by rw [hL]; rfl
    rw [this]
    exact ⟨⟨_, rfl, StrsAt.nil _⟩, hb⟩
  · refine ⟨_, h1, ⟨_, _, _, rfl⟩, ?_⟩
    have hdz : (lstF n L).toArray.size = n := by rw [List.size_toArray, lstF_length]
    have hn : n ≤ 1000000 := by rw [hL, lstF_length] at hl; exact hl
    have hD := deleteFunc_calls g lb eg q g' 0 c w0.heap.size (lstF n L).toArray w (by rw [hdz]; omega) (by rw [hdz]; exact h4) h2 h3 h6 (fun W hW s hs => hT W (hb.trans hW) s (by rw [hL]; simpa using hs))
    rw [hdz] at hD
    refine hD.mono ?_
    rintro e' w' ⟨rfl, hb2, hH⟩
    simp only at hH ⊢
    rw [hL]
    refine ⟨⟨_, rfl, strsAt_holds hH ?_ h5⟩, hb.trans hb2⟩
    have := List.length_filter_le (fun x => !q x) (lstF n L)
    rw [lstF_length] at this
    omega
set_option maxHeartbeats 4000000 in
set_option maxRecDepth 100000 in
theorem liked_in (ks : List Nat) (A : Nat → Addr) (a : Option Addr) (n cap : Nat) (P V : Nat → ByteArray) (R : Nat → List Md) (K : Nat → List Str) (Bk : Nat → Bool) (Rv Kv : Nat → Value) (p : ByteArray) (sv : Value) (l : List Str) (w : World) (hE : EnvP ks A w) (h : EntsIn w a n cap P V R K Bk Rv Kv) (hn : n ≤ 1000000) (hv : StrsAt w sv l) (hl : l.length ≤ 1000000) (hls : ∀ x ∈ l, x.length ≤ 1000000) :
    Calls Tryz.prog 168 #[.slice a n cap, .string p, sv] w fun e w' => (∃ v, e = .returned v ∧ StrsAt w' v (likedL (enF n P V R K Bk) p.data.toList l)) ∧ Below w.heap.size w w' := by
  obtain ⟨sa, sn, sc, L, rfl, hL, _, _, hc⟩ := id hv
  have hb1 := below_alloc w (.cells #[.slice a n cap] 22)
  have z1 : (w.alloc (.cells #[.slice a n cap] 22)).cell? ⟨w.heap.size, 0, none⟩ = some (.slice a n cap) := by simp
  generalize hw1 : w.alloc (.cells #[.slice a n cap] 22) = w1 at *
  have hb2 := below_alloc w1 (.cells #[.string p] 9)
  have z2 : (w1.alloc (.cells #[.string p] 9)).cell? ⟨w1.heap.size, 0, none⟩ = some (.string p) := by simp
  replace z1 := Below.cell_some hb2 z1
  replace hb1 := below_step hb1 hb2
  generalize hw2 : w1.alloc (.cells #[.string p] 9) = w2 at *
  obtain ⟨FV, hFV⟩ : ∃ FV : Value, FV = .func (.func 198) #[] #[.pointer (some ⟨w.heap.size, 0, none⟩), .pointer (some ⟨w1.heap.size, 0, none⟩)] := ⟨_, rfl⟩
  have hb3 := below_alloc w2 (.cells #[.func (.func 198) #[] #[.pointer (some ⟨w.heap.size, 0, none⟩), .pointer (some ⟨w1.heap.size, 0, none⟩)]] 85)
  have z3 : (w2.alloc (.cells #[.func (.func 198) #[] #[.pointer (some ⟨w.heap.size, 0, none⟩), .pointer (some ⟨w1.heap.size, 0, none⟩)]] 85)).cell? ⟨w2.heap.size, 0, none⟩ = some (.func (.func 198) #[] #[.pointer (some ⟨w.heap.size, 0, none⟩), .pointer (some ⟨w1.heap.size, 0, none⟩)]) := by simp
  replace z1 := Below.cell_some hb3 z1
  replace z2 := Below.cell_some hb3 z2
  replace hb1 := below_step hb1 hb3
  generalize hw3 : w2.alloc (.cells #[.func (.func 198) #[] #[.pointer (some ⟨w.heap.size, 0, none⟩), .pointer (some ⟨w1.heap.size, 0, none⟩)]] 85) = w3 at *
  have hb4 := below_alloc w3 (.cells #[.func (.func 199) #[] #[.pointer (some ⟨w2.heap.size, 0, none⟩)], .func (.func 198) #[] #[.pointer (some ⟨w.heap.size, 0, none⟩), .pointer (some ⟨w1.heap.size, 0, none⟩)]] 85)
  have z4 : (w3.alloc (.cells #[.func (.func 199) #[] #[.pointer (some ⟨w2.heap.size, 0, none⟩)], .func (.func 198) #[] #[.pointer (some ⟨w.heap.size, 0, none⟩), .pointer (some ⟨w1.heap.size, 0, none⟩)]] 85)).cell? ⟨w3.heap.size, 0, none⟩ = some (.func (.func 199) #[] #[.pointer (some ⟨w2.heap.size, 0, none⟩)]) := by simp
  have z5 : (w3.alloc (.cells #[.func (.func 199) #[] #[.pointer (some ⟨w2.heap.size, 0, none⟩)], .func (.func 198) #[] #[.pointer (some ⟨w.heap.size, 0, none⟩), .pointer (some ⟨w1.heap.size, 0, none⟩)]] 85)).cell? ⟨w3.heap.size, 1, none⟩ = some (.func (.func 198) #[] #[.pointer (some ⟨w.heap.size, 0, none⟩), .pointer (some ⟨w1.heap.size, 0, none⟩)]) := by simp
  generalize hw4 : w3.alloc (.cells #[.func (.func 199) #[] #[.pointer (some ⟨w2.heap.size, 0, none⟩)], .func (.func 198) #[] #[.pointer (some ⟨w.heap.size, 0, none⟩), .pointer (some ⟨w1.heap.size, 0, none⟩)]] 85) = w4 at *
  have hcl := fun W (hW : Below w.heap.size w W) => cloneS_calls sa sn sc L W (by rw [hL, lstF_length] at hl; omega) (fun j hj => let ⟨b, o, e, c⟩ := hc j hj; ⟨b, o, e, Below.cell_some hW c⟩)
  have hT1 : ∀ W, Below w3.heap.size w3 W → ∀ s ∈ l, Calls Tryz.prog 198 (#[encStr s] ++ #[.pointer (some ⟨w.heap.size, 0, none⟩), .pointer (some ⟨w1.heap.size, 0, none⟩)]) W fun e w'' => e = .returned (.bool (backB (enF n P V R K Bk) p.data.toList s)) ∧ Below W.heap.size W w'' := fun W hW s hs =>
    liked1_in a n cap P V R K Bk Rv Kv w.heap.size w1.heap.size ⟨s.toArray⟩ p W (h.below (below_step hb1 hW)) hn (Below.cell_some hW z1) (Below.cell_some hW z2)
  have hT2 : ∀ W, Below w3.heap.size w3 W → ∀ s ∈ l, Calls Tryz.prog 199 (#[encStr s] ++ #[.pointer (some ⟨w2.heap.size, 0, none⟩)]) W fun e w'' => e = .returned (.bool (backB (enF n P V R K Bk) p.data.toList s || preB s)) ∧ Below W.heap.size W w'' := fun W hW s hs =>
    liked2_in ks A a n cap P V R K Bk Rv Kv w.heap.size w1.heap.size w2.heap.size ⟨s.toArray⟩ p W (hE.below (below_step hb1 hW)) (h.below (below_step hb1 hW)) hn (by have := hls s hs; simp [ByteArray.size]; omega) (Below.cell_some hW z1) (Below.cell_some hW z2) (Below.cell_some hW z3)
  have hd1 := fun (W0 W : World) (hW0 : Below w3.heap.size w3 W0) (e : Ending) h => del_new 198 #[.pointer (some ⟨w.heap.size, 0, none⟩), .pointer (some ⟨w1.heap.size, 0, none⟩)] enters_liked1 (backB (enF n P V R K Bk) p.data.toList) l W0 W e hl (fun W' hW' => hT1 W' (below_step hW0 hW')) sn L hL h
  have hd2 := fun (W0 W : World) (hW0 : Below w3.heap.size w3 W0) (e : Ending) h => del_new 199 #[.pointer (some ⟨w2.heap.size, 0, none⟩)] enters_liked2 (fun s => backB (enF n P V R K Bk) p.data.toList s || preB s) l W0 W e hl (fun W' hW' => hT2 W' (below_step hW0 hW')) sn L hL h
  have HLK : Hid (likedL (enF n P V R K Bk) p.data.toList l = if l.filter (fun v => !(backB (enF n P V R K Bk) p.data.toList v || preB v)) ≠ [] then l.filter (fun v => !(backB (enF n P V R K Bk) p.data.toList v || preB v)) else if l.filter (fun v => !backB (enF n P V R K Bk) p.data.toList v) ≠ [] then l.filter (fun v => !backB (enF n P V R K Bk) p.data.toList v) else l) := Lib.hid rfl
  generalize l.filter (fun v => !(backB (enF n P V R K Bk) p.data.toList v || preB v)) = L2 at *
  generalize l.filter (fun v => !backB (enF n P V R K Bk) p.data.toList v) = L1 at *
  generalize likedL (enF n P V R K Bk) p.data.toList l = LK at *
  have HV := Lib.hid hv
  have HB1 := Lib.hid hb1
  have HB34 := Lib.hid hb4
  replace hcl := Lib.hid hcl
  replace hd1 := Lib.hid hd1
  replace hd2 := Lib.hid hd2
  clear h hv hT1 hT2 hFV hb2 hb3 hE hls hL hc hb4 hb1
  go_enter Tryz.func168, Tryz.ntmps168
  go_wp2_with fail
  clear hw1 hw2 hw3 hw4 z1 z2 z3
  go_loopw [9, 10, 16] (fun _ _ i wr => ∃ k : Nat, k ≤ 2 ∧ i = .int .i64 k ∧ Below w4.heap.size w4 wr ∧ Hid ((0 < k → L2 = []) ∧ (1 < k → L1 = []))) (fun _ _ i _ => 2 - (intOf i).toNat)
  case atStart => exact ⟨0, Nat.zero_le _, rfl, Below.refl _ _, Lib.hid ⟨fun h => absurd h (by decide), fun h => absurd h (by decide)⟩⟩
  case round =>
    obtain ⟨k, hk, rfl, hBr, HI⟩ := hrel
    have hB3 := below_step HB34.out hBr
    have hB := below_step HB1.out hB3
    have hcp := hcl.out wr hB
    have hd1r := fun W e h => hd1.out wr W hB3 e h
    have hd2r := fun W e h => hd2.out wr W hB3 e h
    have hk3 : k = 0 ∨ k = 1 ∨ k = 2 := by omega
    rcases hk3 with rfl | rfl | rfl
    · have y4 := Below.cell_some hBr z4
      replace hcp := Lib.hid hcp
      replace hd1r := Lib.hid hd1r
      replace hd2r := Lib.hid hd2r
      go_wp2_with fail
      refine hcp.out.mono ?_
      rintro e w5 h5
      obtain ⟨u, rfl, ⟨ua, um, uc, rfl⟩, hdel⟩ := hd2r.out w5 e h5
      replace hdel := Lib.hid hdel
      clear h5 hcp
      go_wp2_with fail
      refine hdel.out.mono ?_
      rintro e w6 ⟨⟨v', rfl, hS⟩, hb6⟩
      obtain ⟨va, vm, vc, M, rfl, hM, _⟩ := id hS
      have hB6 := below_step hB hb6
      by_cases hlt : 0 < vm
      · have hlt' : (0 : Int) < (vm : Int) := by omega
        have HL : Hid (LK = L2) := Lib.hid (by
          rw [HLK.out, if_pos (fun e => by have := congrArg List.length (hM.symm.trans e); rw [lstF_length] at this; simp at this; omega)])
        have HS := Lib.hid hS
        clear hM hS
        go_wp2_with fail
        go_ret
        rw [HL.out]
        exact ⟨⟨_, rfl, HS.out⟩, hB6⟩
      · have hlt' : ¬ (0 : Int) < (vm : Int) := by omega
        have HI2 : Hid ((0 < 0 + 1 → L2 = []) ∧ (1 < 0 + 1 → L1 = [])) := Lib.hid ⟨fun _ => by
          rw [hM, show vm = 0 by omega]; rfl, fun h => absurd h (by decide)⟩
        clear hM hS
        go_wp2_with fail
        go_roundw
        case rel => exact ⟨0 + 1, by decide, by go_num, hBr.trans (hb6.mono hBr.size), HI2⟩
        case measure => simp [intOf]
    · have y5 := Below.cell_some hBr z5
      have HI1 := HI.out.1 (by decide)
      replace hcp := Lib.hid hcp
      replace hd1r := Lib.hid hd1r
      replace hd2r := Lib.hid hd2r
      replace HI1 := Lib.hid HI1
      go_wp2_with fail
      refine hcp.out.mono ?_
      rintro e w5 h5
      obtain ⟨u, rfl, ⟨ua, um, uc, rfl⟩, hdel⟩ := hd1r.out w5 e h5
      replace hdel := Lib.hid hdel
      clear h5 hcp
      go_wp2_with fail
      refine hdel.out.mono ?_
      rintro e w6 ⟨⟨v', rfl, hS⟩, hb6⟩
      obtain ⟨va, vm, vc, M, rfl, hM, _⟩ := id hS
      have hB6 := below_step hB hb6
      by_cases hlt : 0 < vm
      · have hlt' : (0 : Int) < (vm : Int) := by omega
        have HL : Hid (LK = L1) := Lib.hid (by
          rw [HLK.out, if_neg (fun h => h HI1.out), if_pos (fun e => by have := congrArg List.length (hM.symm.trans e); rw [lstF_length] at this; simp at this; omega)])
        have HS := Lib.hid hS
        clear hM hS
        go_wp2_with fail
        go_ret
        rw [HL.out]
        exact ⟨⟨_, rfl, HS.out⟩, hB6⟩
      · have hlt' : ¬ (0 : Int) < (vm : Int) := by omega
        have HI2 : Hid ((0 < 1 + 1 → L2 = []) ∧ (1 < 1 + 1 → L1 = [])) := Lib.hid ⟨fun _ => HI1.out, fun _ => by
          rw [hM, show vm = 0 by omega]; rfl⟩
        clear hM hS
        go_wp2_with fail
        go_roundw
        case rel => exact ⟨1 + 1, by decide, by go_num, hBr.trans (hb6.mono hBr.size), HI2⟩
        case measure => simp [intOf]
    · have HL : Hid (LK = l) := Lib.hid (by
        rw [HLK.out, if_neg (fun h => h (HI.out.1 (by decide))), if_neg (fun h => h (HI.out.2 (by decide)))])
      clear hcp hd1r hd2r
      go_wp2_with fail
      go_ret
      rw [HL.out]
      exact ⟨⟨_, rfl, HV.out.below hB⟩, hB⟩
theorem idxLatest_in (ks : List Nat) (A : Nat → Addr) (a : Option Addr) (n cap : Nat) (P V : Nat → ByteArray) (R : Nat → List Md) (K : Nat → List Str) (Bk : Nat → Bool) (Rv Kv : Nat → Value) (p : ByteArray) (w : World) (hE : EnvP ks A w) (h : EntsIn w a n cap P V R K Bk Rv Kv) (hs : ShortI (enF n P V R K Bk)) :
    Calls Tryz.prog 119 #[.slice a n cap, .string p] w fun e w' => e = .returned (.string ⟨(latestL (enF n P V R K Bk) p.data.toList).toArray⟩) ∧ Below w.heap.size w w' := by
  have hn : n ≤ 1000000 := by have := hs.len; rwa [enF_length] at this
  have h1 := idxVersions_in ks A a n cap P V R K Bk Rv Kv p w hE h hs
  have h2 := fun W hb v g => liked_in ks A a n cap P V R K Bk Rv Kv p v (vsort (versL (enF n P V R K Bk) p.data.toList)) W (hE.below hb) (h.below hb) hn g (by
    have := versL_size (p := p.data.toList) hs
    exact Nat.le_trans (vsort_len _) this.1) (fun x hx => (versL_size (p := p.data.toList) hs).2 x ((vsort_mem _ _).1 hx).1)
  have hln : (likedL (enF n P V R K Bk) p.data.toList (vsort (versL (enF n P V R K Bk) p.data.toList))).length ≤ 1000000 := Nat.le_trans (likedL_len _ _ _) (Nat.le_trans (vsort_len _) (versL_size (p := p.data.toList) hs).1)
  show Calls _ _ _ _ fun e w' => e = .returned (.string ⟨(lastS (likedL (enF n P V R K Bk) p.data.toList (vsort (versL (enF n P V R K Bk) p.data.toList)))).toArray⟩) ∧ Below w.heap.size w w'
  generalize vsort (versL (enF n P V R K Bk) p.data.toList) = VS at *
  generalize likedL (enF n P V R K Bk) p.data.toList VS = LS at *
  replace h1 := Lib.hid h1
  replace h2 := Lib.hid h2
  clear h hs hE
  go_enter Tryz.func119, Tryz.ntmps119
  go_wp2_with fail
  refine h1.out.mono ?_
  rintro e w1 ⟨⟨v, rfl, hv⟩, hb⟩
  have h3 := h2.out w1 hb v hv
  obtain ⟨a1, n1, c1, _, rfl, _⟩ := id hv
  replace h3 := Lib.hid h3
  clear hv
  go_wp2_with fail
  refine h3.out.mono ?_
  rintro e w2 ⟨⟨v2, rfl, hv2⟩, hb2⟩
  obtain ⟨a2, n2, c2, M, rfl, rfl, hc2, hm2, hcell⟩ := hv2
  rw [lstF_length] at hln
  have hB := below_step hb hb2
  by_cases h0 : n2 = 0
  · subst h0
    go_wp2_with fail
    go_ret
    exact ⟨rfl, hB⟩
  · obtain ⟨m, rfl⟩ : ∃ m, n2 = m + 1 := ⟨n2 - 1, by omega⟩
    have hne : (((m + 1 : Nat) : Int) == 0) = false := beq_eq_false_iff_ne.2 (by omega)
    have hw := wrap_nat m (by omega)
    have hm1 : (((m + 1 : Nat) : Int)) - 1 = (m : Int) := by omega
    have hm3 : (m : Int) + 1 - 1 = (m : Int) := by omega
    have hlt : (m : Int) < ((m + 1 : Nat) : Int) := by omega
    have hm2c : m + 1 ≤ c2 := hc2
    obtain ⟨b1, o1, rfl, c0⟩ := hcell m (Nat.lt_succ_self m)
    have HL : Hid (lastS (lstF (m + 1) M) = (M m).data.toList) := Lib.hid (by
      have : lstF (m + 1) M = lstF m M ++ [(M m).data.toList] := by simp [lstF, List.range_succ]
      rw [this]; simp [lastS])
    clear hcell
    go_wp2_with fail
    go_ret
    rw [HL.out, bytes_back]
    exact ⟨rfl, hB⟩
end Go.Proofs.Pw

namespace Go.Proofs.Pw
open Go.RowKit
open Go.Lib hiding intOf
set_option maxHeartbeats 4000000 in
set_option maxRecDepth 100000 in
theorem upLatest_in (ks : List Nat) (A : Nat → Addr) (a : Option Addr) (n cap : Nat) (P V : Nat → ByteArray) (R : Nat → List Md) (K : Nat → List Str) (Bk : Nat → Bool) (Rv Kv : Nat → Value) (sv : Value) (sel : List Md) (w : World) (hE : EnvP ks A w) (h : EntsIn w a n cap P V R K Bk Rv Kv) (hs : ShortI (enF n P V R K Bk)) (hv : ModsAt w sv sel) (hl : sel.length ≤ 1000000) :
    Calls Tryz.prog 77 #[.slice a n cap, sv] w fun e w' => (∃ v L, e = .returned v ∧ mdTs L = latestM (enF n P V R K Bk) sel ∧ w'.ownsRow w.heap.size 38 2 v L.length (mdVs L)) ∧ Below w.heap.size w w' := by
  obtain ⟨i0, hi, hz0, hz1, hz2⟩ := info_parts Tryz.infoMod
  obtain ⟨sa, m, sc, Q, U, rfl, rfl, _, _, hc⟩ := hv
  rw [mdF_length] at hl
  have hla := fun (p : ByteArray) (W : World) (hb : Below w.heap.size w W) => idxLatest_in ks A a n cap P V R K Bk Rv Kv p W (hE.below hb) (h.below hb) hs
  generalize enF n P V R K Bk = l at *
  have HL := Lib.hid hl
  replace hla := Lib.hid hla
  replace hc := Lib.hid hc
  clear h hs hE
  go_enter Tryz.func77, Tryz.ntmps77
  go_wp2_with fail
  go_loopw [5, 10] (fun o i wr => ∃ (k : Nat) (L : List (ByteArray × ByteArray)), k ≤ m ∧ i = .int .i64 k ∧ Hid (wr.ownsRow w.heap.size 38 2 o L.length (mdVs L)) ∧ L.length ≤ k ∧ Hid (mdTs L = latestM l ((mdF m Q U).take k)) ∧ Below w.heap.size w wr) (fun _ i _ => m - (intOf i).toNat)
  case atStart => exact ⟨0, [], Nat.zero_le _, rfl, Lib.hid (World.ownsRow_nil _ _ _ _), Nat.le_refl _, Lib.hid rfl, Below.refl _ _⟩
  case round =>
    obtain ⟨k, L, hk, rfl, hO, hLk, hT, hBr⟩ := hrel
    obtain ⟨ao, no, co, rfl⟩ := own_form hO.out
    have hown := Lib.hid (fun q (e : (Value.slice ao no co).ownBlock = some q) => (hO.out.lt q e).1)
    have hl2 := HL.out
    by_cases hlt : k < m
    · have hkn : (k : Int) < (m : Int) := by omega
      obtain ⟨b1, o1, ea, c0, c1⟩ := hc.out k hlt
      replace c0 := Below.cell_some hBr c0
      replace c1 := Below.cell_some hBr c1
      subst ea
      have hba := below_alloc wr (.cells #[.string (Q k), .string (U k)] 38)
      have hz := box2_alloc wr (.string (Q k)) (.string (U k)) 38
      have hO2 := hO.out.below hba
      have hB2 := below_step hBr hba
      obtain ⟨w2, hW⟩ : ∃ W, wr.alloc (.cells #[.string (Q k), .string (U k)] 38) = W := ⟨_, rfl⟩
      rw [hW] at hz hO2 hB2
      have HO := Lib.hid hO2
      have HZ := Lib.hid hz
      obtain ⟨LX, hLX⟩ : ∃ LX : ByteArray, LX = ⟨(latestL l (Q k).data.toList).toArray⟩ := ⟨_, rfl⟩
      have hlk := hla.out (Q k)
      rw [← hLX] at hlk
      have HN : Hid (mdTs (L ++ [(Q k, LX)]) = latestM l ((mdF m Q U).take (k + 1))) := Lib.hid (by
        rw [mdF_take_succ m Q U k hlt, latestM_snoc, mdTs_sn, hT.out, hLX])
      have hbW := hB2.drew
      have hcW : w2.drew.cell? ⟨wr.heap.size, 0, none⟩ = some (.string (Q k)) := HZ.out.c0
      have hnb : some wr.heap.size ≠ (Value.slice ao no co).ownBlock := fun e => by
        have := (hO.out.lt _ e.symm).2
        omega
      replace hnb := Lib.hid hnb
      replace hlk := Lib.hid hlk
      clear hba hz hO2 hT hO hLX hB2
      go_wp2_with fail
      clear hW c0 c1
      go_region_held2 (fun W => W.cell? ⟨wr.heap.size, 0, none⟩ = some (.string (Q k)) ∧ Below w.heap.size w W) (first | exact ⟨hcW8, hB8⟩ | exact ⟨Below.cell_some (below_alloc _ _) hcW, hbW.alloc hbW.size _⟩ | exact ⟨hcW, hbW⟩) (first
        | (go_at_call 119; refine (hlk.out _ hbW).mono ?_; rintro e w7 ⟨rfl, hb7⟩; replace hbW := below_step hbW hb7; replace hcW := Below.cell_some hb7 hcW; have hO7 := ownsRow_kept HO.out.drew hb7)
        | (refine step_append_lies _ rfl (.tmp 14) (.tmp 22) 23 rfl w.heap.size 38 i0 (.agg #[.string ⟨#[]⟩, .string ⟨#[]⟩]) 2 32 Tryz.underlying23 hi hz0 hz1 hz2 rfl (by decide) (.slice ao no co) L.length (mdVs L) (by simp [Act.eval]) (hO7.alloc _) ⟨w7.heap.size, 0, none⟩ 1 1 [.string (Q k), .string LX] (by simp [Act.eval]) rfl (cell_two_new w7 (Q k) LX _) (fun u hu => by simp at hu; rcases hu with rfl | rfl <;> rfl) (by decide) (by unfold maxLen; omega) (by omega) (by have := hbW.size; simp; omega) _ rfl ?_; intro g7 c7 w8 hown8 hgrow8 hg8 hl8; have hB8 := (hbW.alloc hbW.size _).grown hgrow8 (by have := hbW.size; simp; omega) hown.out; have hcW8 := hgrow8.cell (Below.cell_some (below_alloc _ _) hcW) hnb.out))
      all_goals
        go_wp2_with fail
        go_roundw
        case rel =>
          refine ⟨k + 1, L ++ [(Q k, LX)], by omega, by go_num, Lib.hid ?_, by simp; omega, HN, hB8⟩
          rw [List.length_append, List.length_singleton, ← mdVs_snoc]
          exact hown8
        case measure => simp [intOf]; omega
    · have HT : Hid (mdTs L = latestM l (mdF m Q U)) := Lib.hid (by rw [hT.out, show k = m by omega, mdF_take_all])
      have hnk : ¬ (k : Int) < (m : Int) := by omega
      clear hT hlt
      go_wp2_with fail
      go_ret
      first | exact ⟨⟨_, L, rfl, HT.out, hO.out⟩, hBr⟩ | exact ⟨⟨_, rfl, L, HT.out, hO.out⟩, hBr⟩
end Go.Proofs.Pw

namespace Go.Proofs.Pw
open Go.RowKit
open Go.Lib hiding intOf
theorem own_snoc {w : World} {base e : Nat} {v : Value} {L : List (ByteArray × ByteArray)} {p q : ByteArray} (h : w.ownsRow base e 2 v (L.length + 1) (mdVs L ++ [.string p, .string q])) : ModsAt w v (mdTs L ++ [(p.data.toList, q.data.toList)]) := by
  rw [mdVs_snoc, show L.length + 1 = (L ++ [(p, q)]).length by simp] at h
  have := modsAt_own h
  rwa [mdTs_sn] at this
set_option maxHeartbeats 4000000 in
set_option maxRecDepth 100000 in
theorem upOne_in (ks : List Nat) (A : Nat → Addr) (hks : IdxKs ks) (a : Option Addr) (n cap : Nat) (P V : Nat → ByteArray) (R : Nat → List Md) (K : Nat → List Str) (Bk : Nat → Bool) (Rv Kv : Nat → Value) (rv : Value) (roots : List Md) (p v : ByteArray) (w : World) (hE : EnvP ks A w) (h : EntsIn w a n cap P V R K Bk Rv Kv) (hs : ShortI (enF n P V R K Bk)) (hr : ModsAt w rv roots) (hl : roots.length ≤ 10000) :
    Calls Tryz.prog 34 #[.slice a n cap, rv, .agg #[.string p, .string v]] w fun e w' => (∃ x ev, e = .returned (.tuple #[x, ev]) ∧ FaultAt A w' ev (oneErr (enF n P V R K Bk) roots (p.data.toList, v.data.toList)) ∧ ModsAt w' x (oneR (enF n P V R K Bk) roots (p.data.toList, v.data.toList))) ∧ Below w.heap.size w w' := by
  obtain ⟨i0, hi, hz0, hz1, hz2⟩ := info_parts Tryz.infoMod
  have hB := below_alloc w (.cells #[.string p, .string v] 38)
  have hz := box2_alloc w (.string p) (.string v) 38
  obtain ⟨ar, rn, rc, _, _, rfl, _⟩ := id hr
  have hn : n ≤ 1000000 := by have := hs.len; rwa [enF_length] at this
  have hbu := fun (W : World) (hb : Below w.heap.size w W) rv roots (hr : ModsAt W rv roots) (hl : roots.length ≤ 100000) => mvsBuild_in ks A hks a n cap P V R K Bk Rv Kv rv roots W (hE.below hb) (h.below hb) hs hr hl
  have hfo := fun (W : World) (hb : Below w.heap.size w W) => idxFind_in a n cap P V R K Bk Rv Kv p v W (h.below hb) hn
  have hcl := fun (W : World) (hb : Below w.heap.size w W) => cloneM_calls (.slice ar rn rc) roots W (hr.below hb) (by omega)
  have HE := Lib.hid hE
  have HR := Lib.hid hr
  have HL := Lib.hid hl
  generalize enF n P V R K Bk = l at *
  have hb1 := hbu _ hB _ _ (hr.below hB) (by omega)
  have HZ0 : Hid ((startErr l roots).1 ≠ 0 → oneErr l roots (p.data.toList, v.data.toList) = startErr l roots ∧ oneR l roots (p.data.toList, v.data.toList) = []) := Lib.hid (fun h0 => by
    have e : oneErr l roots (p.data.toList, v.data.toList) = startErr l roots := by unfold oneErr orE; rw [if_pos h0]
    exact ⟨e, by unfold oneR; rw [if_neg (by rw [e]; exact h0)]⟩)
  have HZ1 : Hid ((startErr l roots).1 = 0 → findE l (p.data.toList, v.data.toList) < 0 → oneErr l roots (p.data.toList, v.data.toList) = (5, -1) ∧ oneR l roots (p.data.toList, v.data.toList) = []) := Lib.hid (fun h0 h1 => by
    have e : oneErr l roots (p.data.toList, v.data.toList) = (5, -1) := by unfold oneErr orE; rw [if_neg (by simp [h0]), if_pos h1]
    exact ⟨e, by unfold oneR; rw [if_neg (by rw [e]; decide)]⟩)
  have HZ2 : Hid ((startErr l roots).1 = 0 → 0 ≤ findE l (p.data.toList, v.data.toList) → oneErr l roots (p.data.toList, v.data.toList) = (0, -1) ∧ oneR l roots (p.data.toList, v.data.toList) = buildR l (roots ++ [(p.data.toList, v.data.toList)]) ∧ startErr l (roots ++ [(p.data.toList, v.data.toList)]) = (0, -1)) := Lib.hid (fun h0 h1' => by
    have h1 : ¬ findE l (p.data.toList, v.data.toList) < 0 := by omega
    have e : oneErr l roots (p.data.toList, v.data.toList) = (0, -1) := by unfold oneErr orE; rw [if_neg (by simp [h0]), if_neg h1]
    have h2 := one_start h0 h1
    exact ⟨e, by unfold oneR buildR; rw [if_pos (by rw [e]), if_pos h2], startErr_at h2⟩)
  generalize oneErr l roots (p.data.toList, v.data.toList) = OE at *
  generalize oneR l roots (p.data.toList, v.data.toList) = OR at *
  generalize findE l (p.data.toList, v.data.toList) = x at *
  obtain ⟨z0, z1, zf⟩ := id hz
  replace hbu := Lib.hid hbu
  replace hfo := Lib.hid hfo
  replace hcl := Lib.hid hcl
  replace hb1 := Lib.hid hb1
  clear h hs hr hE hl
  go_enter Tryz.func34, Tryz.ntmps34
  go_wp2_with fail
  generalize hw1 : w.alloc (.cells #[.string p, .string v] 38) = w1 at *
  have hs1 : w.heap.size < w1.heap.size := by rw [← hw1]; simp
  clear hw1
  refine hb1.out.mono ?_
  rintro e w2 ⟨⟨x2, ev2, rfl, hf2, hx2⟩, hb⟩
  replace hB := below_step hB hb
  replace hz := hz.below hb
  have hs2 : w.heap.size < w2.heap.size := Nat.lt_of_lt_of_le hs1 hb.size
  obtain ⟨a2, n2, c2, _, _, rfl, -⟩ := id hx2
  clear hb hb1 z0 z1 zf hx2
  rcases fault_form hf2 with ⟨h0, rfl⟩ | ⟨h0, ty, q, rfl⟩
  · have hff := hfo.out _ hB
    obtain ⟨z0, z1, zf⟩ := id hz
    by_cases hx : x < 0
    · have HF := Lib.hid (HZ1.out h0 hx)
      replace hff := Lib.hid hff
      clear h0 hf2 HZ0 HZ1 HZ2
      go_wp2_with fail
      refine hff.out.mono ?_
      rintro e w3 ⟨rfl, hb⟩
      replace hB := below_step hB hb
      have g5 := (HE.out.below hB).errs.var 5 hks.2.2.1
      simp only [errG] at g5
      clear hb hff z0 z1 zf hz
      go_wp2_with fail
      go_region
      all_goals
        go_wp2_with fail
        go_ret2
        rw [HF.out.1, HF.out.2]
        refine ⟨⟨_, _, rfl, .inr (.inl ⟨by decide, rfl, ?_⟩), ModsAt.nil _⟩, hB.drew⟩
        show _ = errV A 5
        rw [errV_pos A (show (5 : Nat) ≠ 0 by decide)]
        rfl
    · have HF := Lib.hid (HZ2.out h0 (by omega))
      replace hff := Lib.hid hff
      clear h0 hf2 HZ0 HZ1 HZ2
      go_wp2_with fail
      refine hff.out.mono ?_
      rintro e w3 ⟨rfl, hb⟩
      replace hB := below_step hB hb
      replace hz := hz.below hb
      have hs3 : w.heap.size < w3.heap.size := Nat.lt_of_lt_of_le hs2 hb.size
      clear hb hff z0 z1 zf
      have HZB := Lib.hid hz
      have hbW := (Below.refl w3.heap.size w3).drew
      have HB3 := Lib.hid hB
      have hl2 := HL.out
      clear hz hB
      go_wp2_with fail
      go_region_held2 (fun W => (W.cell? ⟨w.heap.size, 0, none⟩ = some (.string p) ∧ W.cell? ⟨w.heap.size, 1, none⟩ = some (.string v)) ∧ Below w3.heap.size w3 W) (first | exact ⟨⟨(HZB.out.below hbW9).c0, (HZB.out.below hbW9).c1⟩, hbW9⟩ | exact ⟨⟨(HZB.out.below hbW8).c0, (HZB.out.below hbW8).c1⟩, hbW8⟩ | exact ⟨⟨(HZB.out.below (hbW.alloc hbW.size _)).c0, (HZB.out.below (hbW.alloc hbW.size _)).c1⟩, hbW.alloc hbW.size _⟩ | exact ⟨⟨(HZB.out.below hbW).c0, (HZB.out.below hbW).c1⟩, hbW⟩) (first
        | (go_at_call 83; refine (hcl.out w3.drew (below_step HB3.out hbW)).mono ?_; rintro e w7 ⟨v7, L7, rfl, hL7, ho7, hb7⟩; replace hbW := below_step hbW hb7; have hl7 : Hid (L7.length = roots.length ∧ roots = mdTs L7) := Lib.hid ⟨by rw [hL7, mdTs_length], hL7⟩; clear hL7; obtain ⟨a7, n7, c7, rfl⟩ := own_form ho7)
        | (go_at_call 83; refine (hcl.out (w3.drew.alloc (.cells #[.string p, .string v] 38)) (below_step HB3.out (hbW.alloc hbW.size _))).mono ?_; rintro e w7 ⟨v7, L7, rfl, hL7, ho7, hb7⟩; replace hbW := below_step (hbW.alloc hbW.size _) hb7; have hl7 : Hid (L7.length = roots.length ∧ roots = mdTs L7) := Lib.hid ⟨by rw [hL7, mdTs_length], hL7⟩; clear hL7; obtain ⟨a7, n7, c7, rfl⟩ := own_form ho7; replace ho7 := ho7.mono (base' := w3.heap.size) (by simp); have hcB : ∀ j u, ([.string p, .string v] : List Value)[j]? = some u → w7.cell? ((⟨w3.heap.size, 0, none⟩ : Addr).add j) = some u := fun j u h => Below.cell_some hb7 (cell_two_new w3.drew p v _ j u h))
        | (refine step_append_lies _ rfl (.tmp 26) (.tmp 28) 23 rfl w3.heap.size 38 i0 (.agg #[.string ⟨#[]⟩, .string ⟨#[]⟩]) 2 32 Tryz.underlying23 hi hz0 hz1 hz2 rfl (by decide) (.slice a7 n7 c7) L7.length (mdVs L7) (by simp [Act.eval]) ho7 ⟨w3.heap.size, 0, none⟩ 1 1 [.string p, .string v] (by simp [Act.eval]) rfl hcB (fun u hu => by simp at hu; rcases hu with rfl | rfl <;> rfl) (by decide) (by have := hl7.out.1; unfold maxLen; omega) (by have := hl7.out.1; omega) hbW.size _ rfl ?_; intro g8 c8 w8 hown8 hgrow8 hg8 hl8; have hbW8 := hbW.grown hgrow8 hbW.size (fun q hq => (ho7.lt q hq).1); have hM8 := own_snoc hown8; have hlen8 : (mdTs L7 ++ [(p.data.toList, v.data.toList)]).length ≤ 100000 := (by rw [List.length_append, mdTs_length, hl7.out.1]; simp; omega))
        | (refine step_append_lies _ rfl (.tmp 26) (.tmp 28) 23 rfl w3.heap.size 38 i0 (.agg #[.string ⟨#[]⟩, .string ⟨#[]⟩]) 2 32 Tryz.underlying23 hi hz0 hz1 hz2 rfl (by decide) (.slice a7 n7 c7) L7.length (mdVs L7) (by simp [Act.eval]) (World.ownsRow.alloc ho7 _) ⟨w7.heap.size, 0, none⟩ 1 1 [.string p, .string v] (by simp [Act.eval]) rfl (cell_two_new w7 p v _) (fun u hu => by simp at hu; rcases hu with rfl | rfl <;> rfl) (by decide) (by have := hl7.out.1; unfold maxLen; omega) (by have := hl7.out.1; omega) (by have := hbW.size; simp; omega) _ rfl ?_; intro g8 c8 w8 hown8 hgrow8 hg8 hl8; have hbW8 := (hbW.alloc hbW.size _).grown hgrow8 (by have := hbW.size; simp; omega) (fun q hq => (ho7.lt q hq).1); have hM8 := own_snoc hown8; have hlen8 : (mdTs L7 ++ [(p.data.toList, v.data.toList)]).length ≤ 100000 := (by rw [List.length_append, mdTs_length, hl7.out.1]; simp; omega))
        | (go_at_call 21; refine (hbu.out _ (below_step HB3.out hbW8) _ _ hM8 hlen8).mono ?_; rintro e w9 ⟨⟨x9, ev9, rfl, hf9, hx9⟩, hb9⟩; have hbW9 := below_step hbW8 hb9))
      all_goals
        rw [← hl7.out.2] at hf9 hx9
        go_wp2_with fail
        go_ret2
        rw [HF.out.1, HF.out.2.1]
        rw [HF.out.2.2] at hf9
        exact ⟨⟨_, _, rfl, hf9, hx9⟩, below_step HB3.out hbW9⟩
  · have HF := Lib.hid (HZ0.out h0)
    have HV := Lib.hid hf2
    clear h0 hf2 HZ0 HZ1 HZ2
    go_wp2_with fail
    go_ret2
    rw [HF.out.1, HF.out.2]
    exact ⟨⟨_, _, rfl, HV.out, ModsAt.nil _⟩, hB⟩
end Go.Proofs.Pw

namespace Go.Proofs.Pw
open Go.RowKit
open Go.Lib hiding intOf
theorem ModsAt.uniq {w : World} {v : Value} {l m : List Md} (h : ModsAt w v l) (g : ModsAt w v m) : l = m := by
  obtain ⟨a, n, cap, P, V, rfl, rfl, _, _, hc⟩ := h
  obtain ⟨a', n', cap', Q, U, e, rfl, _, _, hd⟩ := g
  injection e with e1 e2 e3
  subst e1 e2 e3
  apply List.ext_getElem?
  intro i
  by_cases hi : i < n
  · rw [mdF_get n P V i hi, mdF_get n Q U i hi]
    obtain ⟨b, o, e, c0, c1⟩ := hc i hi
    obtain ⟨b', o', e', d0, d1⟩ := hd i hi
    rw [e] at e'
    injection e' with e'
    injection e' with e4 e5 _
    subst e4 e5
    rw [c0] at d0
    rw [c1] at d1
    injection d0 with d0
    injection d1 with d1
    injection d0 with d0
    injection d1 with d1
    rw [d0, d1]
  · rw [List.getElem?_eq_none (by rw [mdF_length]; omega), List.getElem?_eq_none (by rw [mdF_length]; omega)]
noncomputable def listAt (w : World) (v : Value) : List Md := @dite _ (∃ l, ModsAt w v l) (Classical.propDecidable _) (fun h => Classical.choose h) (fun _ => [])
theorem listAt_of {w : World} {v : Value} {l : List Md} (h : ModsAt w v l) : listAt w v = l := by
  unfold listAt
  rw [dif_pos ⟨l, h⟩]
  exact (Classical.choose_spec (⟨l, h⟩ : ∃ l, ModsAt w v l)).uniq h
noncomputable def farAt (l : List En) (w : World) (v : Value) : Nat := l.length - weight l (listAt w v)
theorem farAt_of {l : List En} {w : World} {v : Value} {x : List Md} (h : ModsAt w v x) : farAt l w v = l.length - weight l x := by unfold farAt; rw [listAt_of h]
theorem farAt_lt {l : List En} {w w' : World} {v v' : Value} {x : List Md} (h : ModsAt w v x) (h' : ModsAt w' v' (nextL l x)) (hx : SelOk l x) (hne : nextL l x ≠ x) : farAt l w' v' < farAt l w v := by
  rw [farAt_of h, farAt_of h']
  have h3 := weight_lt hx (next_ok hx.right) (next_over hx.right) hne
  have h4 := weight_le l (nextL l x)
  omega
set_option maxHeartbeats 4000000 in
set_option maxRecDepth 100000 in
theorem upAll_in (ks : List Nat) (A : Nat → Addr) (hks : IdxKs ks) (a : Option Addr) (n cap : Nat) (P V : Nat → ByteArray) (R : Nat → List Md) (K : Nat → List Str) (Bk : Nat → Bool) (Rv Kv : Nat → Value) (rv : Value) (roots : List Md) (w : World) (hE : EnvP ks A w) (h : EntsIn w a n cap P V R K Bk Rv Kv) (hs : ShortI (enF n P V R K Bk)) (hr : ModsAt w rv roots) (hl : roots.length ≤ 10000) :
    Calls Tryz.prog 31 #[.slice a n cap, rv] w fun e w' => (∃ x ev, e = .returned (.tuple #[x, ev]) ∧ FaultAt A w' ev (startErr (enF n P V R K Bk) roots) ∧ ModsAt w' x (allR (enF n P V R K Bk) roots)) ∧ Below w.heap.size w w' := by
  obtain ⟨ar, rn, rc, _, _, rfl, _⟩ := id hr
  have hbu := fun (W : World) (hb : Below w.heap.size w W) rv roots (hr : ModsAt W rv roots) (hl : roots.length ≤ 100000) => mvsBuild_in ks A hks a n cap P V R K Bk Rv Kv rv roots W (hE.below hb) (h.below hb) hs hr hl
  have hla := fun (W : World) (hb : Below w.heap.size w W) sv sel (hv : ModsAt W sv sel) (hl : sel.length ≤ 1000000) => upLatest_in ks A a n cap P V R K Bk Rv Kv sv sel W (hE.below hb) (h.below hb) hs hv hl
  generalize enF n P V R K Bk = l at *
  have hb1 := hbu _ (Below.refl _ _) _ _ hr (by omega)
  have HA0 : Hid ((startErr l roots).1 ≠ 0 → allR l roots = []) := Lib.hid (fun h0 => by unfold allR; rw [if_neg h0])
  have HA1 : Hid ((startErr l roots).1 = 0 → allR l roots = allF l (l.length + 1) (buildL l roots) ∧ startErr l roots = (0, -1) ∧ buildR l roots = buildL l roots) := Lib.hid (fun h0 => ⟨by unfold allR; rw [if_pos h0]; rfl, startErr_at h0, by unfold buildR; rw [if_pos h0]⟩)
  have HNX : Hid ((startErr l roots).1 = 0 → ∀ x, RightG l x → startErr l (x ++ latestM l x) = (0, -1) ∧ buildR l (x ++ latestM l x) = nextL l x) := Lib.hid (fun h0 x hx => by
    have h2 : (startErr l (x ++ latestM l x)).1 = 0 := by
      unfold startErr at h0 ⊢
      rw [orE_zero] at h0 ⊢
      exact ⟨h0.1, rootsErr_zero.2 (next_right hx).at_⟩
    exact ⟨startErr_at h2, by unfold buildR nextL; rw [if_pos h2]⟩)
  have HOK : Hid ((startErr l roots).1 = 0 → SelOk l (buildL l roots) ∧ (buildL l roots).length ≤ 100) := Lib.hid (fun h0 => ⟨build_ok (rightG_of h0), build_len (rightG_of h0)⟩)
  generalize startErr l roots = SE at *
  generalize allR l roots = AR at *
  generalize buildR l roots = BR at *
  generalize buildL l roots = BL at *
  replace hbu := Lib.hid hbu
  replace hla := Lib.hid hla
  replace hb1 := Lib.hid hb1
  clear h hs hr hE hl
  go_enter Tryz.func31, Tryz.ntmps31
  go_wp2_with fail
  refine hb1.out.mono ?_
  rintro e w1 ⟨⟨x1, ev1, rfl, hf1, hx1⟩, hB⟩
  obtain ⟨a1, n1, c1, _, _, rfl, -⟩ := id hx1
  rcases fault_form hf1 with ⟨h0, rfl⟩ | ⟨h0, ty, q, rfl⟩
  · have H1 := HA1.out h0
    rw [H1.2.2] at hx1
    have HAR := Lib.hid (And.intro H1.1 H1.2.1)
    have HN := Lib.hid (HNX.out h0)
    have HOK1 := Lib.hid (HOK.out h0)
    have HX1 := Lib.hid hx1
    clear hf1 h0 H1 HA0 HA1 HNX HOK hx1 hb1
    go_wp2_with fail
    go_loopw [6, 8, 9] (fun s _ _ wr => ∃ x : List Md, Hid (ModsAt wr s x) ∧ Below w.heap.size w wr ∧ Hid (SelOk l x ∧ x.length ≤ 100 ∧ allF l (l.length + 1) x = allF l (l.length + 1) BL)) (fun s _ _ W => farAt l W s)
    case atStart => exact ⟨BL, HX1, hB, Lib.hid ⟨HOK1.out.1, HOK1.out.2, rfl⟩⟩
    case round =>
      clear hB HX1
      obtain ⟨x, hX, hB, hI⟩ := hrel
      obtain ⟨xa, xn, xc, _, _, rfl, -⟩ := id hX.out
      have hlt := hla.out wr hB _ _ hX.out (by have := hI.out.2.1; omega)
      have HFW : Hid (farAt l wr (.slice xa xn xc) = l.length - weight l x) := Lib.hid (farAt_of hX.out)
      have HX0 := Lib.hid hX.out
      replace hlt := Lib.hid hlt
      go_wp2_with fail
      refine hlt.out.mono ?_
      rintro e w2 ⟨⟨v2, L2, rfl, hL2, ho2⟩, hb2⟩
      have hM2 := modsAt_own ho2
      rw [hL2] at hM2
      obtain ⟨a2, n2, c2, rfl⟩ := own_form ho2
      have hX2 := hX.out.below hb2
      have hba := below_alloc w2 (.cells #[.slice xa xn xc, .slice a2 n2 c2] 23)
      have y0 : (w2.alloc (.cells #[.slice xa xn xc, .slice a2 n2 c2] 23)).cell? ⟨w2.heap.size, 0, none⟩ = some (.slice xa xn xc) := by simp
      have y1 : (w2.alloc (.cells #[.slice xa xn xc, .slice a2 n2 c2] 23)).cell? ⟨w2.heap.size, 1, none⟩ = some (.slice a2 n2 c2) := by simp
      have hct := concatM_calls w2.heap.size _ _ _ _ (w2.alloc (.cells #[.slice xa xn xc, .slice a2 n2 c2] 23)) (hX2.below hba) (hM2.below hba) (by have := hI.out.2.1; omega) (by rw [latestM_len]; have := hI.out.2.1; omega) y0 y1
      have hB2 := below_step hB (below_step hb2 hba)
      have hR2 := below_step hb2 hba
      replace hct := Lib.hid hct
      clear hM2 hX2 ho2 hL2 y0 y1 hb2 hba hlt
      go_wp2_with fail
      refine hct.out.mono ?_
      rintro e w3 ⟨⟨v3, L3, rfl, hL3, ho3⟩, hb3⟩
      have hM3 := modsAt_own ho3
      rw [hL3] at hM3
      obtain ⟨a3, n3, c3, rfl⟩ := own_form ho3
      have hB3 := below_step hB2 hb3
      have hR3 := below_step hR2 hb3
      have hbd := hbu.out w3 hB3 _ _ hM3 (by rw [List.length_append, latestM_len]; have := hI.out.2.1; omega)
      rw [(HN.out x hI.out.1.right).1, (HN.out x hI.out.1.right).2] at hbd
      replace hbd := Lib.hid hbd
      clear hM3 ho3 hL3 hb3 hct hB2 hR2
      go_wp2_with fail
      refine hbd.out.mono ?_
      rintro e w4 ⟨⟨x4, ev4, rfl, hf4, hx4⟩, hb4⟩
      obtain rfl : ev4 = .nilIface := by
        rcases fault_form hf4 with ⟨_, h⟩ | ⟨h, _⟩
        · exact h
        · exact absurd rfl h
      have hB4 := below_step hB3 hb4
      have hR4 := below_step hR3 hb4
      have hXw := HX0.out.below hR4
      have heq := equalM_calls _ _ _ _ w4 hx4 hXw
      obtain ⟨a4, n4, c4, _, _, rfl, -⟩ := id hx4
      have HX4 := Lib.hid (And.intro hx4 hXw)
      by_cases hst : nextL l x = x
      · rw [decide_eq_true hst] at heq
        have HF : Hid (AR = x) := Lib.hid (by rw [HAR.out.1, ← hI.out.2.2, allF_stop hst])
        replace heq := Lib.hid heq
        clear hf4 hx4 hXw hb4 hbd hst hB3 hR3
        go_wp2_with fail
        refine heq.out.mono ?_
        rintro e w5 ⟨rfl, hb5⟩
        go_wp2_with fail
        go_ret2
        rw [HF.out, HAR.out.2]
        exact ⟨⟨_, _, rfl, .inl ⟨rfl, rfl, rfl⟩, HX4.out.2.below hb5⟩, below_step hB4 hb5⟩
      · rw [decide_eq_false hst] at heq
        have HST := Lib.hid hst
        replace heq := Lib.hid heq
        clear hf4 hx4 hXw hb4 hbd hst hB3 hR3
        go_wp2_with fail
        refine heq.out.mono ?_
        rintro e w5 ⟨rfl, hb5⟩
        go_wp2_with fail
        go_roundw
        case rel =>
          refine ⟨nextL l x, Lib.hid (HX4.out.1.below hb5), below_step hB4 hb5, Lib.hid ⟨next_ok hI.out.1.right, next_len hI.out.1.right, ?_⟩⟩
          rw [← hI.out.2.2]
          have h3 := weight_lt hI.out.1 (next_ok hI.out.1.right) (next_over hI.out.1.right) HST.out
          have h4 := weight_le l (nextL l x)
          have h5 : allF l (l.length + 1) x = allF l l.length (nextL l x) := by rw [allF, if_neg HST.out]
          rw [h5]
          exact allF_fuel _ _ (next_ok hI.out.1.right) (by omega) (by omega)
        case measure => exact farAt_lt HX0.out (HX4.out.1.below hb5) hI.out.1 HST.out
  · have HAR := Lib.hid (HA0.out h0)
    have HV := Lib.hid hf1
    clear h0 hf1 HA0 HA1 HNX HOK hx1
    go_wp2_with fail
    go_ret2
    rw [HAR.out]
    exact ⟨⟨_, _, rfl, HV.out, ModsAt.nil _⟩, hB⟩
end Go.Proofs.Pw

namespace Go.Proofs.Pw
open Go.RowKit
open Go.Lib hiding intOf
def smRoots0 : List Md := [(sA.data.toList, v100.data.toList)]
theorem sm_err0 : startErr smL smRoots0 = (0, -1) := by decide +kernel
theorem sm_right0 : RightG smL smRoots0 := rightG_of (by rw [sm_err0])
theorem sm_build0 : buildL smL smRoots0 = smRoots0 := by
  have hT : ∀ x, Reached smL smRoots0 x → x ∈ smRoots0 := fun x hx => reached_closed (fun m hm => hm) (by decide +kernel) hx
  refine rises_ext modCmp_ord sm_right0.great.rises (by simp [Rises, smRoots0]) fun m => ?_
  rw [build_mem sm_right0]
  constructor
  · rintro ⟨h1, _⟩
    exact hT m h1
  · intro h
    refine ⟨.root h, fun x hx _ => ?_⟩
    have h3 := hT x hx
    simp only [smRoots0, List.mem_singleton] at h3 h
    rw [h3, h, verCmp_ord.self]
    decide
theorem sm_latest0 : latestM smL smRoots0 = [(sA.data.toList, v110.data.toList)] := by decide +kernel
theorem sm_latestX : latestM smL smX = smX := by decide +kernel
theorem sm_next0 : nextL smL smRoots0 = smX := by
  unfold nextL
  rw [sm_latest0]
  exact sm_build2
theorem reach_twice {l : List En} {x : List Md} (h : RightG l x) : buildL l (x ++ x) = buildL l x := by
  have h2 : RightG l (x ++ x) := ⟨h.idx, fun m hm => by rcases List.mem_append.1 hm with h1 | h1 <;> exact h.at_ m h1⟩
  unfold buildL
  congr 1
  exact h.is (reachL_rises h.idx _) (fun m => by rw [h2.mem, reached_app, or_self])
theorem sm_nextX : nextL smL smX = smX := by
  unfold nextL
  rw [sm_latestX, reach_twice smX_right]
  exact smX_build
theorem sm_all : allR smL smRoots0 = smX := by
  unfold allR
  rw [if_pos (by rw [sm_err0])]
  unfold allL
  rw [sm_build0]
  show allF smL (0 + 1 + 1 + 1 + 1) smRoots0 = smX
  rw [allF, sm_next0, if_neg (by decide +kernel), allF, sm_nextX, if_pos rfl]
set_option maxHeartbeats 2000000 in
set_option maxRecDepth 100000 in
theorem upped_calls (ks : List Nat) (A : Nat → Addr) (hks : IdxKs ks) (w : World) (hE : EnvP ks A w) :
    Calls Tryz.prog 30 #[] w fun e w' => e = .returned (.bool true) ∧ Below w.heap.size w w' := by
  have hsm := small_calls w
  have hB := smW_below w
  have hb := below_alloc (smW w) (.cells #[.string sA, .string v100] 38)
  have hB2 := below_step hB hb
  have hmods : ModsAt ((smW w).alloc (.cells #[.string sA, .string v100] 38)) (.slice (some ⟨(smW w).heap.size, 0, none⟩) 1 1) smRoots0 := by
    refine ⟨_, 1, 1, fun _ => sA, fun _ => v100, rfl, rfl, Nat.le_refl _, by decide, fun i hi => ?_⟩
    have hc : ∀ (c : Nat) (u : Value), ([.string sA, .string v100] : List Value)[c]? = some u → ((smW w).alloc (.cells #[.string sA, .string v100] 38)).cell? ⟨(smW w).heap.size, c, none⟩ = some u := fun c u h => new_cell _ _ _ rfl h
    match i, hi with
    | 0, _ => exact ⟨_, 0, rfl, hc _ _ rfl, hc _ _ rfl⟩
  have hre := upAll_in ks A hks (some ⟨w.heap.size + 1, 0, none⟩) 3 3 smP smV smR smK smB (smRv w.heap.size) (fun _ => .slice none 0 0) (.slice (some ⟨(smW w).heap.size, 0, none⟩) 1 1) smRoots0 ((smW w).alloc (.cells #[.string sA, .string v100] 38)) (hE.below hB2) ((smW_in w).below hb) sm_short hmods (by decide)
  rw [show enF 3 smP smV smR smK smB = smL from rfl, sm_err0, sm_all] at hre
  generalize smW w = w1 at *
  unfold sA v100 at hre hB2
  replace hsm := Lib.hid hsm
  replace hre := Lib.hid hre
  clear hB hb hmods hE
  go_enter Tryz.func30, Tryz.ntmps30
  go_wp2_with fail
  refine hsm.out.mono ?_
  rintro e w' ⟨rfl, rfl⟩
  go_wp2_with fail
  refine hre.out.mono ?_
  rintro e w3 ⟨⟨x, ev, rfl, hf, hx⟩, hb3⟩
  have hev : ev = .nilIface := by
    rcases hf with ⟨_, _, h⟩ | ⟨h, _⟩ | ⟨h, _⟩
    · exact h
    · exact absurd rfl h
    · exact absurd rfl h
  subst hev
  obtain ⟨b0, o0, c0, e0, _, _, d1⟩ := hx.cell (k := 0) (p := sA) (q := v110) rfl
  subst e0
  have hB3 := below_step hB2 hb3
  unfold v110 at d1
  simp only [Nat.zero_mul, Nat.add_zero, show smX.length = 2 from rfl] at d1 ⊢
  clear hf hx hre hsm hB2 hb3
  go_wp2_with fail
  go_ret
  exact ⟨rfl, hB3⟩
end Go.Proofs.Pw

namespace Go.Proofs.Pw
open Go.RowKit
open Go.Lib hiding intOf
theorem Tryz.enters_rise1 : ∀ args w, (callFunc 121 args).run Tryz.prog w = .ok (.enter 121 args) w := Go.Proofs.enters_of Tryz.func121 (by kernel_rfl) rfl
theorem Tryz.enters_rise2 : ∀ args w, (callFunc 123 args).run Tryz.prog w = .ok (.enter 123 args) w := Go.Proofs.enters_of Tryz.func123 (by kernel_rfl) rfl
theorem rise1_calls (p v q u : ByteArray) (w : World) :
    Calls Tryz.prog 121 #[.agg #[.string p, .string v], .agg #[.string q, .string u]] w fun e w' => e = .returned (.int .i64 (compareBytes p.data.toList q.data.toList)) ∧ Below w.heap.size w w' := by
  have hb1 := below_alloc w (.cells #[.string p, .string v] 38)
  have hb2 := below_alloc (w.alloc (.cells #[.string p, .string v] 38)) (.cells #[.string q, .string u] 38)
  have hB := below_step hb1 hb2
  obtain ⟨m0, m1, _⟩ := (box2_alloc w (.string p) (.string v) 38).below hb2
  obtain ⟨f0, f1, _⟩ := box2_alloc (w.alloc (.cells #[.string p, .string v] 38)) (.string q) (.string u) 38
  simp only [World.size_alloc] at f0 f1
  have hS := Tryz.strings_Compare p q
  replace hS := Lib.hid hS
  go_enter Tryz.func121, Tryz.ntmps121
  go_wp2_with fail
  refine (hS.out _).mono ?_
  rintro e w' ⟨rfl, rfl⟩
  go_wp2_with fail
  go_ret
  exact ⟨rfl, hB⟩
theorem rise2_calls (p v q u : ByteArray) (w : World) :
    Calls Tryz.prog 123 #[.agg #[.string p, .string v], .agg #[.string q, .string u]] w fun e w' => e = .returned (.bool (decide (p = q))) ∧ Below w.heap.size w w' := by
  have hb1 := below_alloc w (.cells #[.string p, .string v] 38)
  have hb2 := below_alloc (w.alloc (.cells #[.string p, .string v] 38)) (.cells #[.string q, .string u] 38)
  have hB := below_step hb1 hb2
  obtain ⟨m0, m1, _⟩ := (box2_alloc w (.string p) (.string v) 38).below hb2
  obtain ⟨f0, f1, _⟩ := box2_alloc (w.alloc (.cells #[.string p, .string v] 38)) (.string q) (.string u) 38
  simp only [World.size_alloc] at f0 f1
  have HD : Hid (decide (p = q) = (p.toList == q.toList)) := Lib.hid (by
    rw [toList_data, toList_data, Bool.eq_iff_iff, decide_eq_true_iff, beq_iff_eq, bytes_eq])
  go_enter Tryz.func123, Tryz.ntmps123
  go_wp2_with fail
  go_ret
  rw [HD.out]
  exact ⟨rfl, hB⟩
def SortP (n : Nat) (P : Nat → ByteArray) : Prop := ∀ j, j + 1 < n → 0 ≤ compareBytes (P (j + 1)).data.toList (P j).data.toList
noncomputable def sortB (n : Nat) (P : Nat → ByteArray) : Bool := @decide (SortP n P) (Classical.propDecidable _)
theorem sortB_iff {n : Nat} {P : Nat → ByteArray} : sortB n P = true ↔ SortP n P := by
  unfold sortB
  exact @decide_eq_true_iff _ (Classical.propDecidable _)
set_option maxHeartbeats 2000000 in
set_option maxRecDepth 100000 in
theorem isSortedM_calls (a : Option Addr) (n cap : Nat) (P V : Nat → ByteArray) (w : World) (hn : n ≤ 1000000)
    (hc : ∀ j, j < n → ∃ b o, a = some ⟨b, o, none⟩ ∧ w.cell? ⟨b, o + j * 2, none⟩ = some (.string (P j)) ∧ w.cell? ⟨b, o + j * 2 + 1, none⟩ = some (.string (V j))) :
    Calls Tryz.prog 120 #[.slice a n cap, .func (.func 121) #[] #[]] w fun e w' => e = .returned (.bool (sortB n P)) ∧ Below w.heap.size w w' := by
  have eg := Tryz.enters_rise1
  have hDS := sortB_iff (n := n) (P := P)
  generalize sortB n P = DS at hDS ⊢
  replace hc := Lib.hid hc
  replace hDS := Lib.hid hDS
  go_enter Tryz.func120, Tryz.ntmps120
  have hn1 := wrap_nat n (by omega)
  go_wp2_with fail
  go_loopw [5] (fun i wr => ∃ k : Nat, (k : Int) ≤ n ∧ i = .int .i64 ((k : Int) - 1) ∧ Below w.heap.size w wr ∧ Hid (∀ j, k ≤ j + 1 → j + 1 < n → 0 ≤ compareBytes (P (j + 1)).data.toList (P j).data.toList)) (fun i _ => (intOf i).toNat)
  case atStart => exact ⟨n, by omega, rfl, Below.refl _ _, Lib.hid (fun j h1 h2 => by omega)⟩
  case round =>
    obtain ⟨k, hk, rfl, hB, HA⟩ := hrel
    by_cases hlt : (0 : Int) < (k : Int) - 1
    · obtain ⟨m, rfl⟩ : ∃ m, k = m + 2 := ⟨k - 2, by omega⟩
      have hm1 : ((m + 2 : Nat) : Int) - 1 = (m : Int) + 1 := by omega
      rw [hm1] at hlt ⊢
      obtain ⟨b1, o1, ea, c0, c1⟩ := hc.out (m + 1) (by omega)
      obtain ⟨b2, o2, eb, c2, c3⟩ := hc.out m (by omega)
      rw [ea] at eb
      injection eb with eb
      injection eb with eb1 eb2 _
      subst eb1 eb2 ea
      replace c0 := Below.cell_some hB c0
      replace c1 := Below.cell_some hB c1
      replace c2 := Below.cell_some hB c2
      replace c3 := Below.cell_some hB c3
      have hm2 : (m : Int) + 1 < (n : Int) := by omega
      have hm3 : (m : Int) < (n : Int) := by omega
      have hm4 : ((m : Int) + 1).toNat = m + 1 := by omega
      have hm5 : (0 : Int) ≤ (m : Int) + 1 := by omega
      have hm6 : (m : Int) + 1 - 1 = (m : Int) := by omega
      have hm7 := wrap_nat m (by omega)
      have hm8 : ¬ ((m : Int) + 1 < 0) := by omega
      have hcall := fun W => rise1_calls (P (m + 1)) (V (m + 1)) (P m) (V m) W
      obtain ⟨D, hD⟩ : ∃ D, D = compareBytes (P (m + 1)).data.toList (P m).data.toList := ⟨_, rfl⟩
      rw [← hD] at hcall
      have HD := Lib.hid hD
      replace hcall := Lib.hid hcall
      clear hD hk
      go_wp2_with fail
      by_cases h0 : D < 0
      ·
        have kqc0 := fun d os => cell_patch (d := d) (os := os) c0
        have kqc1 := fun d os => cell_patch (d := d) (os := os) c1
        have kqc2 := fun d os => cell_patch (d := d) (os := os) c2
        have kqc3 := fun d os => cell_patch (d := d) (os := os) c3
        refine wp_region_quiet_patch (by kernel_rfl) (by kernel_rfl) ?_
        repeat (go_big_quiet_step ((go_at_fn 121; exact Calls.patch_of (hcall.out _))))
        refine wpQuiet_nil ?_
        intro _ hw'
        obtain ⟨⟨dq, osq⟩, hw''⟩ := hw'
        subst hw''
        clear kqc0 kqc1 kqc2 kqc3
        have hb := below_patch wr dq osq
        replace hB := below_step hB hb
        clear hb
        generalize patch wr dq osq = w2 at hB ⊢
        clear c0 c1 c2 c3
        go_wp2_with fail
        go_ret
        have hF : DS = false := by
          cases DS with
          | false => rfl
          | true =>
            have := hDS.out.1 rfl m (by omega)
            rw [← HD.out] at this
            omega
        rw [hF]
        exact ⟨rfl, hB⟩
      ·
        have kqc0 := fun d os => cell_patch (d := d) (os := os) c0
        have kqc1 := fun d os => cell_patch (d := d) (os := os) c1
        have kqc2 := fun d os => cell_patch (d := d) (os := os) c2
        have kqc3 := fun d os => cell_patch (d := d) (os := os) c3
        refine wp_region_quiet_patch (by kernel_rfl) (by kernel_rfl) ?_
        repeat (go_big_quiet_step ((go_at_fn 121; exact Calls.patch_of (hcall.out _))))
        refine wpQuiet_nil ?_
        intro _ hw'
        obtain ⟨⟨dq, osq⟩, hw''⟩ := hw'
        subst hw''
        clear kqc0 kqc1 kqc2 kqc3
        have hb := below_patch wr dq osq
        replace hB := below_step hB hb
        clear hb
        generalize patch wr dq osq = w2 at hB ⊢
        clear c0 c1 c2 c3
        go_wp2_with fail
        go_roundw
        case rel =>
          refine ⟨m + 1, by omega, by go_num, hB, Lib.hid (fun j h1 h2 => ?_)⟩
          by_cases e : j = m
          · subst e; rw [← HD.out]; omega
          · exact HA.out j (by omega) h2
        case measure => simp [intOf]
    · have hk1 : ¬ ((k : Int) - 1 > 0) := by omega
      go_wp2_with fail
      go_ret
      rw [hDS.out.2 (fun j hj => HA.out j (by omega) hj)]
      exact ⟨rfl, hB⟩
end Go.Proofs.Pw

namespace Go.Proofs.Pw
open Go.RowKit
open Go.Lib hiding intOf
structure DelInv (q : ByteArray × ByteArray → Bool) (L M : List (ByteArray × ByteArray)) (i j : Nat) : Prop where
  len : M.length = L.length
  lt : i < j
  le : j ≤ L.length
  low : M.take i = (L.take j).filter q
  high : M.drop j = L.drop j
theorem take_sn {α : Type} {l : List α} {j : Nat} {x : α} (h : l[j]? = some x) : l.take (j + 1) = l.take j ++ [x] := by
  rw [List.take_add_one, h]; rfl
theorem DelInv.skip {q : ByteArray × ByteArray → Bool} {L M : List (ByteArray × ByteArray)} {i j : Nat} {x : ByteArray × ByteArray} (h : DelInv q L M i j) (hx : L[j]? = some x) (hq : q x = false) : DelInv q L M i (j + 1) := by
  have hl := (List.getElem?_eq_some_iff.1 hx).1
  have h1 := h.lt
  refine ⟨h.len, by omega, hl, ?_, ?_⟩
  · rw [take_sn hx, List.filter_append, ← h.low]; simp [hq]
  · rw [← List.drop_drop, ← List.drop_drop, h.high]
theorem DelInv.keep {q : ByteArray × ByteArray → Bool} {L M : List (ByteArray × ByteArray)} {i j : Nat} {x : ByteArray × ByteArray} (h : DelInv q L M i j) (hx : L[j]? = some x) (hq : q x = true) : DelInv q L (M.set i x) (i + 1) (j + 1) := by
  have hl := (List.getElem?_eq_some_iff.1 hx).1
  have h1 := h.lt
  have h2 := h.len
  refine ⟨by rw [List.length_set]; exact h.len, by omega, hl, ?_, ?_⟩
  · rw [take_sn (x := x) (by rw [List.getElem?_set_self (by omega)]), List.take_set_of_le (by omega), h.low, take_sn hx, List.filter_append]
    simp [hq]
  · rw [List.drop_set_of_lt (by omega), ← List.drop_drop, ← List.drop_drop, h.high]
theorem DelInv.start {q : ByteArray × ByteArray → Bool} {L : List (ByteArray × ByteArray)} {k : Nat} {x : ByteArray × ByteArray} (hk : L[k]? = some x) (hq : q x = false) (h0 : ∀ y ∈ L.take k, q y = true) : DelInv q L L k (k + 1) := by
  have hl := (List.getElem?_eq_some_iff.1 hk).1
  refine ⟨rfl, Nat.lt_succ_self _, hl, ?_, rfl⟩
  rw [take_sn hk, List.filter_append, List.filter_eq_self.2 h0]; simp [hq]
theorem zeroMd_one (n : Nat) : ∀ u ∈ (Builtin.zeroCells (Value.agg #[.string ⟨#[]⟩, .string ⟨#[]⟩]).cells n).toList, u.oneCell' = true := by
  intro u hu
  have h2 : ((Value.agg #[.string ⟨#[]⟩, .string ⟨#[]⟩]).cells).size = 2 := rfl
  simp only [Builtin.zeroCells, Array.toList_map, List.mem_map] at hu
  obtain ⟨i, _, rfl⟩ := hu
  rw [h2]
  rcases Nat.mod_two_eq_zero_or_one i with h | h <;> rw [h] <;> rfl
end Go.Proofs.Pw

namespace Go.Proofs.Pw
open Go.RowKit
open Go.Lib hiding intOf
def NoTwin (L : List (ByteArray × ByteArray)) : Prop := ∀ (i : Nat) (x y : ByteArray × ByteArray), L[i]? = some x → L[i + 1]? = some y → x.1 ≠ y.1
def CompOut (L : List (ByteArray × ByteArray)) (e : Ending) : Prop := ∃ a m c, e = .returned (.slice a m c) ∧ m ≤ L.length ∧ (m = L.length ↔ NoTwin L)
set_option maxHeartbeats 8000000 in
set_option maxRecDepth 100000 in
theorem compactM_calls (base : Nat) (v : Value) (L : List (ByteArray × ByteArray)) (w : World) (hown : w.ownsRow base 38 2 v L.length (mdVs L)) (hbase : base ≤ w.heap.size) (hl : L.length ≤ 1000000) :
    Calls Tryz.prog 122 #[v, .func (.func 123) #[] #[]] w fun e w' => CompOut L e ∧ Below base w w' := by
  have eg := Tryz.enters_rise2
  by_cases h2 : L.length < 2
  · obtain ⟨a, m, c, rfl⟩ := own_form hown
    obtain rfl := own_len hown
    have hOut : CompOut L (.returned (.slice a L.length c)) := ⟨a, L.length, c, rfl, Nat.le_refl _, iff_of_true rfl (fun i x y _ hy => by have := (List.getElem?_eq_some_iff.1 hy).1; omega)⟩
    have h2' : (L.length : Int) < 2 := by omega
    have HO := Lib.hid hOut
    clear hOut h2
    go_enter Tryz.func122, Tryz.ntmps122
    go_wp2_with fail
    go_ret
    exact ⟨HO.out, Below.refl _ _⟩
  · rcases hown.2 with ⟨_, h3⟩ | ⟨g, cap, cur, rfl, hbg, hg, hnc, hm, hcs, htk⟩
    · omega
    · have h2' : ¬ (L.length : Int) < 2 := by omega
      have HO := Lib.hid hown
      have hgw : g < w.heap.size := (Array.getElem?_eq_some_iff.1 hg).1
      generalize hnL : L.length = n at *
      replace hnL := Lib.hid hnL
      clear hg htk hcs hown
      go_enter Tryz.func122, Tryz.ntmps122
      go_wp2_with fail
      go_loopw [5] (fun i wr => ∃ j : Nat, j + 1 ≤ n ∧ i = .int .i64 ((j : Int) + 1) ∧ Below w.heap.size w wr ∧ Hid (∀ (i : Nat) (x y : ByteArray × ByteArray), i < j → L[i]? = some x → L[i + 1]? = some y → x.1 ≠ y.1)) (fun i _ => n - (intOf i).toNat)
      case atStart => exact ⟨0, by omega, rfl, Below.refl _ _, Lib.hid (fun i x y h => absurd h (Nat.not_lt_zero _))⟩
      case round =>
        obtain ⟨j, hj, rfl, hB, HA⟩ := hrel
        have hj1 : (0 : Int) ≤ (j : Int) + 1 := by omega
        have hj2 : ((j : Int) + 1).toNat = j + 1 := by omega
        have hj3 := wrap_nat j (by omega)
        have hj4 : (j : Int) + 1 - 1 = (j : Int) := by omega
        have hj5 := wrap_nat (j + 1 + 1) (by omega)
        by_cases hlt : j + 1 < n
        · have hlt' : (j : Int) + 1 < (n : Int) := by omega
          have hj6 : (j : Int) < (n : Int) := by omega
          have hj7 : ¬ ((j : Int) + 1 < 0) := by omega
          obtain ⟨⟨x1, y1⟩, hx1⟩ : ∃ m, L[j + 1]? = some m := ⟨_, List.getElem?_eq_getElem (by have := hnL.out; omega)⟩
          obtain ⟨⟨x0, y0⟩, hx0⟩ : ∃ m, L[j]? = some m := ⟨_, List.getElem?_eq_getElem (by have := hnL.out; omega)⟩
          have hOr : wr.ownsRow base 38 2 (.slice (some ⟨g, 0, none⟩) n cap) L.length (mdVs L) := by rw [hnL.out]; exact ownsRow_kept HO.out hB
          obtain ⟨c0, c1, -⟩ := own_cells hOr hx1
          obtain ⟨c2, c3, -⟩ := own_cells hOr hx0
          have hcall := fun W => rise2_calls x1 y1 x0 y0 W
          have HX := Lib.hid (And.intro hx0 (And.intro hx1 hOr))
          replace hcall := Lib.hid hcall
          clear hx0 hx1 hOr
          go_wp2_with fail
          by_cases he : x1 = x0
          · subst he
            rw [decide_eq_true rfl] at hcall
            have kqc0 := fun d os => cell_patch (d := d) (os := os) c0
            have kqc1 := fun d os => cell_patch (d := d) (os := os) c1
            have kqc2 := fun d os => cell_patch (d := d) (os := os) c2
            have kqc3 := fun d os => cell_patch (d := d) (os := os) c3
            refine wp_region_quiet_patch (by kernel_rfl) (by kernel_rfl) ?_
            repeat (go_big_quiet_step ((go_at_fn 123; exact Calls.patch_of (hcall.out _))))
            refine wpQuiet_nil ?_
            intro _ hw'
            obtain ⟨⟨dq, osq⟩, hw''⟩ := hw'
            subst hw''
            clear kqc0 kqc1 kqc2 kqc3
            have hb := below_patch wr dq osq
            replace hB := below_step hB hb
            clear hb
            generalize patch wr dq osq = w2 at hB ⊢
            have hnt : ¬ NoTwin L := fun h => h j (x1, y0) (x1, y1) HX.out.1 HX.out.2.1 rfl
            have HNT := Lib.hid hnt
            clear c0 c1 c2 c3 hcall hnt HX HA
            have HQ : Hid (n = j + 1 + (n - (j + 1)) ∧ 1 ≤ n - (j + 1)) := Lib.hid ⟨by omega, by omega⟩
            have hq1 : 1 ≤ n - (j + 1) := by omega
            have hB2 := hB.mono hbase
            have hO2 : Hid (w2.ownsRow base 38 2 (.slice (some ⟨g, 0, none⟩) n cap) L.length (mdVs L)) := Lib.hid (by rw [hnL.out]; exact ownsRow_kept HO.out hB)
            go_wp2_with fail
            generalize n - (j + 1) = q at *
            have hq9 : q ≤ 1000000 := by have := HQ.out; omega
            go_loopw [5, 7] (fun i5 i7 wr => ∃ (k m : Nat) (M : List (ByteArray × ByteArray)), i5 = .int .i64 k ∧ i7 = .int .i64 ((m : Int) + 1) ∧ m + 1 ≤ q ∧ k ≤ j + 1 + m ∧ Below base w wr ∧ Hid (wr.ownsRow base 38 2 (.slice (some ⟨g, 0, none⟩) n cap) M.length (mdVs M)) ∧ Hid (M.length = n)) (fun _ i7 _ => q - (intOf i7).toNat)
            case atStart => exact ⟨j + 1, 0, L, by go_num, rfl, hq1, Nat.le_refl _, hB2, hO2, Lib.hid hnL.out⟩
            case round =>
              clear hB2 hO2
              obtain ⟨k, m, M, rfl, rfl, hmq, hkm, hBr, hOM, hMl⟩ := hrel
              have hBs := hBr.size
              have hm1 : (0 : Int) ≤ (m : Int) + 1 := by omega
              have hm2 : ((m : Int) + 1).toNat = m + 1 := by omega
              have hm3 := wrap_nat m (by have := HQ.out; omega)
              have hm4 : (m : Int) + 1 - 1 = (m : Int) := by omega
              have hm5 := wrap_nat (m + 1 + 1) (by have := HQ.out; omega)
              have hm7 : ¬ ((m : Int) + 1 < 0) := by omega
              by_cases hlt2 : m + 1 < q
              · have hlt3 : (m : Int) + 1 < (q : Int) := by omega
                have hm6 : (m : Int) < (q : Int) := by omega
                obtain ⟨⟨xa, ya⟩, hxa⟩ : ∃ z, M[j + 1 + (m + 1)]? = some z := ⟨_, List.getElem?_eq_getElem (by have := hMl.out; have := HQ.out; omega)⟩
                obtain ⟨⟨xb, yb⟩, hxb⟩ : ∃ z, M[j + 1 + m]? = some z := ⟨_, List.getElem?_eq_getElem (by have := hMl.out; have := HQ.out; omega)⟩
                obtain ⟨⟨xc, yc⟩, hxc⟩ : ∃ z, M[k]? = some z := ⟨_, List.getElem?_eq_getElem (by have := hMl.out; have := HQ.out; omega)⟩
                obtain ⟨c0, c1, -⟩ := own_cells hOM.out hxa
                obtain ⟨c2, c3, -⟩ := own_cells hOM.out hxb
                rw [show (j + 1 + (m + 1)) * 2 = (j + 1) * 2 + (m + 1) * 2 by omega] at c0 c1
                rw [show (j + 1 + m) * 2 = (j + 1) * 2 + m * 2 by omega] at c2 c3
                have hkn : (k : Int) < (n : Int) := by have := HQ.out; omega
                have hk0 : (0 : Int) ≤ (k : Int) := by omega
                have hcall := fun W => rise2_calls xa ya xb yb W
                obtain ⟨D, hD⟩ : ∃ D, D = decide (xa = xb) := ⟨_, rfl⟩
                rw [← hD] at hcall
                have HXC := Lib.hid hxc
                have hBq := Below.refl wr.heap.size wr
                replace hcall := Lib.hid hcall
                clear hD hxa hxb hxc
                cases D with
                | true =>
                  go_wp2_with fail
                  have kqc0 := fun d os => cell_patch (d := d) (os := os) c0
                  have kqc1 := fun d os => cell_patch (d := d) (os := os) c1
                  have kqc2 := fun d os => cell_patch (d := d) (os := os) c2
                  have kqc3 := fun d os => cell_patch (d := d) (os := os) c3
                  refine wp_region_quiet_patch (by kernel_rfl) (by kernel_rfl) ?_
                  repeat (go_big_quiet_step ((go_at_fn 123; exact Calls.patch_of (hcall.out _))))
                  refine wpQuiet_nil ?_
                  intro _ hw'
                  obtain ⟨⟨dq, osq⟩, hw''⟩ := hw'
                  subst hw''
                  clear kqc0 kqc1 kqc2 kqc3
                  have hb := below_patch wr dq osq
                  replace hBq := below_step hBq hb
                  clear hb
                  generalize patch wr dq osq = w3 at hBq ⊢
                  clear c0 c1 c2 c3
                  go_wp2_with fail
                  go_roundw
                  case rel => exact ⟨k, m + 1, M, rfl, by go_num, by omega, by omega, hBr.trans (hBq.mono (Nat.le_trans hbase hBs)), Lib.hid (ownsRow_kept hOM.out hBq), hMl⟩
                  case measure => simp [intOf]; omega
                | false =>
                  go_wp2_with fail
                  have kqc0 := fun d os => cell_patch (d := d) (os := os) c0
                  have kqc1 := fun d os => cell_patch (d := d) (os := os) c1
                  have kqc2 := fun d os => cell_patch (d := d) (os := os) c2
                  have kqc3 := fun d os => cell_patch (d := d) (os := os) c3
                  refine wp_region_quiet_patch (by kernel_rfl) (by kernel_rfl) ?_
                  repeat (go_big_quiet_step ((go_at_fn 123; exact Calls.patch_of (hcall.out _))))
                  refine wpQuiet_nil ?_
                  intro _ hw'
                  obtain ⟨⟨dq, osq⟩, hw''⟩ := hw'
                  subst hw''
                  clear kqc0 kqc1 kqc2 kqc3
                  have hb := below_patch wr dq osq
                  replace hBq := below_step hBq hb
                  replace c0 := Below.cell_some hb c0
                  replace c1 := Below.cell_some hb c1
                  clear hb
                  generalize patch wr dq osq = w3 at hBq c0 c1 ⊢
                  clear c2 c3
                  have hOq := ownsRow_kept hOM.out hBq
                  obtain ⟨d0, d1, -⟩ := own_cells (i := k) hOq HXC.out
                  have f0 := own_frozen (j := k * 2) hOq
                  have f1 := own_frozen (j := k * 2 + 1) hOq
                  have s1 : (w3.setCell ⟨g, k * 2, none⟩ (.string xa)).cell? ⟨g, k * 2 + 1, none⟩ = some (.string yc) := by rw [set_off _ (by omega)]; exact d1
                  have s2 : (w3.setCell ⟨g, k * 2, none⟩ (.string xa)).frozen? ⟨g, k * 2 + 1, none⟩ = false := by simpa using f1
                  have HP := Lib.hid (own_put (i := k) hOq xa ya)
                  have hB3 := hBr.trans (hBq.mono (Nat.le_trans hbase hBs))
                  have hwk := wrap_nat (k + 1) (by have := HQ.out; omega)
                  clear hOq
                  go_wp2_with fail
                  go_roundw
                  case rel => exact ⟨k + 1, m + 1, M.set k (xa, ya), by go_num, by go_num, by omega, by omega, below_put hB3 hbg _ _, HP, Lib.hid (by rw [List.length_set]; exact hMl.out)⟩
                  case measure => simp [intOf]; omega
              · obtain rfl : q = m + 1 := by omega
                have hkn : k < n := by have := HQ.out; omega
                have hOut : ∀ c, CompOut L (.returned (.slice (some ⟨g, 0, none⟩) k c)) := fun c => ⟨_, k, c, rfl, by rw [hnL.out]; omega, iff_of_false (by rw [hnL.out]; omega) HNT.out⟩
                rcases hOM.out.2 with ⟨h9, _⟩ | ⟨g5, c5, cur5, e5, _, hg5, _, _, hcs5, htk5⟩
                · cases h9
                · injection e5 with e5 e7 e6
                  clear e7
                  injection e5 with e5
                  injection e5 with e5
                  subst e5 e6
                  have hfit : k * 2 + (n - k) * 2 ≤ cur5.toList.length := by rw [Array.length_toList, hcs5]; omega
                  have hg5' : wr.heap[g]? = some (.cells cur5.toList.toArray 38 (0, 0)) := by rw [Array.toArray_toList]; exact hg5
                  have hzl := zeroCells_len (Value.agg #[.string ⟨#[]⟩, .string ⟨#[]⟩]).cells rfl (n - k)
                  have HF := Lib.hid (And.intro hfit (And.intro hzl (zeroMd_one (n - k))))
                  have HG := Lib.hid hg5'
                  have HOut := Lib.hid hOut
                  have hi1 : (k : Int) ≤ (n : Int) := by omega
                  have hi2 : ¬ (cap = k) := by omega
                  have hi3 : k ≤ cap := by omega
                  have hi4 : (k : Int) ≤ (cap : Int) := by omega
                  have hi5 : (n : Int) ≤ (cap : Int) := by omega
                  have hltz : ¬ (m : Int) + 1 < (m : Int) + 1 := by omega
                  have hzv : ∀ w, (zeroValue 38).run Tryz.prog w = .ok (.agg #[.string ⟨#[]⟩, .string ⟨#[]⟩]) w := Tryz.zeroValue38
                  clear hOM hg5 hg5' hfit hzl htk5 hcs5 hMl hOut
                  go_wp2_with (refine wpList_clearK rfl _ 23 rfl 38 (.agg #[.string ⟨#[]⟩, .string ⟨#[]⟩]) (n - k) Tryz.underlying23 hzv HF.out.2.1 HF.out.2.2 g (k * 2) _ (by omega) rfl _ 38 HG.out HF.out.1 base w hBr hbg ?_; intro w5 hg5 hb15 hc15)
                  go_ret
                  exact ⟨HOut.out _, hb15⟩
          · rw [decide_eq_false he] at hcall
            have kqc0 := fun d os => cell_patch (d := d) (os := os) c0
            have kqc1 := fun d os => cell_patch (d := d) (os := os) c1
            have kqc2 := fun d os => cell_patch (d := d) (os := os) c2
            have kqc3 := fun d os => cell_patch (d := d) (os := os) c3
            refine wp_region_quiet_patch (by kernel_rfl) (by kernel_rfl) ?_
            repeat (go_big_quiet_step ((go_at_fn 123; exact Calls.patch_of (hcall.out _))))
            refine wpQuiet_nil ?_
            intro _ hw'
            obtain ⟨⟨dq, osq⟩, hw''⟩ := hw'
            subst hw''
            clear kqc0 kqc1 kqc2 kqc3
            have hb := below_patch wr dq osq
            replace hB := below_step hB hb
            clear hb
            generalize patch wr dq osq = w2 at hB ⊢
            clear c0 c1 c2 c3
            have HE := Lib.hid he
            clear he
            go_wp2_with fail
            go_roundw
            case rel =>
              refine ⟨j + 1, by omega, by go_num, hB, Lib.hid (fun i x y hi h3 h4 => ?_)⟩
              by_cases e : i = j
              · subst e
                rw [HX.out.1] at h3
                rw [HX.out.2.1] at h4
                cases h3
                cases h4
                exact fun e => HE.out e.symm
              · exact HA.out i x y (by omega) h3 h4
            case measure => simp [intOf]; omega
        · have hlt' : ¬ (j : Int) + 1 < (n : Int) := by omega
          have hOut : CompOut L (.returned (.slice (some ⟨g, 0, none⟩) n cap)) := ⟨_, n, cap, rfl, by rw [hnL.out]; exact Nat.le_refl _, iff_of_true hnL.out.symm (fun i x y hx hy => HA.out i x y (by have := (List.getElem?_eq_some_iff.1 hy).1; have := hnL.out; omega) hx hy)⟩
          have HOut := Lib.hid hOut
          clear hOut
          go_wp2_with fail
          go_ret
          exact ⟨HOut.out, hB.mono hbase⟩
theorem rise_parts {n : Nat} {P V : Nat → ByteArray} {L : List (ByteArray × ByteArray)} (hL : mdF n P V = mdTs L) : riseB (mdF n P V) = true ↔ SortP n P ∧ NoTwin L := by
  have hlen : L.length = n := by have := congrArg List.length hL; rw [mdF_length, mdTs_length] at this; exact this.symm
  have hget : ∀ i, i < n → ∃ y, L[i]? = some (P i, y) := fun i hi => by
    have h1 := mdF_get n P V i hi
    rw [hL] at h1
    unfold mdTs at h1
    rw [List.getElem?_map, List.getElem?_eq_getElem (by omega)] at h1
    have h2 := bytes_pair.1 (Option.some.inj h1)
    refine ⟨L[i].2, ?_⟩
    rw [List.getElem?_eq_getElem (by omega), ← h2.1]
  unfold riseB
  rw [List.all_eq_true, mdF_length]
  constructor
  · intro h
    have h1 : ∀ i, i + 1 < n → compareBytes (P i).data.toList (P (i + 1)).data.toList < 0 := fun i hi => by
      have := of_decide_eq_true (h i (by rw [List.mem_range]; omega))
      rw [mdAt_mdF (by omega), mdAt_mdF hi] at this
      exact this
    refine ⟨fun j hj => ?_, fun i x y hx hy => ?_⟩
    · have := (compareBytes_ord.anti _ _).1 (h1 j hj)
      omega
    · have hi := (List.getElem?_eq_some_iff.1 hy).1
      obtain ⟨u, hu⟩ := hget i (by omega)
      obtain ⟨v, hv⟩ := hget (i + 1) (by omega)
      rw [hu] at hx
      rw [hv] at hy
      cases hx
      cases hy
      intro e
      have := h1 i (by omega)
      rw [show P i = P (i + 1) from e, compareBytes_ord.self] at this
      omega
  · rintro ⟨h1, h2⟩ i hi
    rw [List.mem_range] at hi
    rw [mdAt_mdF (show i < n by omega), mdAt_mdF (show i + 1 < n by omega)]
    refine decide_eq_true ?_
    have h3 := h1 i (by omega)
    obtain ⟨u, hu⟩ := hget i (by omega)
    obtain ⟨v, hv⟩ := hget (i + 1) (by omega)
    have h4 := h2 i _ _ hu hv
    have h5 : compareBytes (P (i + 1)).data.toList (P i).data.toList ≠ 0 := fun e => h4 (bytes_eq.1 (compareBytes_zero e).symm)
    show compareBytes (P i).data.toList (P (i + 1)).data.toList < 0
    exact (compareBytes_ord.anti _ _).2 (by omega)
set_option maxHeartbeats 2000000 in
set_option maxRecDepth 100000 in
theorem modRise_calls (v : Value) (l : List Md) (w : World) (h : ModsAt w v l) (hl : l.length ≤ 1000000) :
    Calls Tryz.prog 81 #[v] w fun e w' => e = .returned (.bool (riseB l)) ∧ Below w.heap.size w w' := by
  have hcl := fun W hb => cloneM_calls v l W (h.below hb) hl
  obtain ⟨a, n, cap, P, V, rfl, rfl, hnc, hcap, hc⟩ := h
  rw [mdF_length] at hl
  have hso := isSortedM_calls a n cap P V w hl hc
  have hSI := sortB_iff (n := n) (P := P)
  have HRP := Lib.hid (fun L hL => rise_parts (n := n) (P := P) (V := V) (L := L) hL)
  generalize sortB n P = DS at hso hSI
  generalize hRB : riseB (mdF n P V) = RB at *
  replace hso := Lib.hid hso
  replace hcl := Lib.hid hcl
  replace hSI := Lib.hid hSI
  clear hc hRB
  cases DS with
  | false =>
    have hF : RB = false := by
      cases RB with
      | false => rfl
      | true =>
        obtain ⟨L, hL⟩ : ∃ L, mdF n P V = mdTs L := ⟨mdL n P V, (mdL_ts n P V).symm⟩
        exact absurd (hSI.out.2 ((HRP.out L hL).1 rfl).1) (by decide)
    rw [hF]
    clear HRP hF
    go_enter Tryz.func81, Tryz.ntmps81
    go_wp2_with fail
    refine hso.out.mono ?_
    rintro e w1 ⟨rfl, hb⟩
    go_wp2_with fail
    go_ret
    exact ⟨rfl, hb⟩
  | true =>
    go_enter Tryz.func81, Tryz.ntmps81
    go_wp2_with fail
    refine hso.out.mono ?_
    rintro e w1 ⟨rfl, hb⟩
    have hcl1 := hcl.out w1 hb
    replace hcl1 := Lib.hid hcl1
    clear hso hcl
    go_wp2_with fail
    refine hcl1.out.mono ?_
    rintro e w2 ⟨v2, L2, rfl, hL2, ho2, hb2⟩
    have hl2 : L2.length = n := by have := congrArg List.length hL2; rw [mdF_length, mdTs_length] at this; exact this.symm
    have hco := compactM_calls w1.heap.size v2 L2 w2 ho2 hb2.size (by omega)
    have hR := HRP.out L2 hL2
    have HB : Hid (∀ m : Nat, (m = L2.length ↔ NoTwin L2) → (((m : Int) == (n : Int)) = RB)) := Lib.hid (fun m hm => by
      rw [Bool.eq_iff_iff, hR, beq_iff_eq]
      constructor
      · intro e
        exact ⟨by first | exact hSI.out.1 rfl | exact hSI.out.1 trivial, hm.1 (by omega)⟩
      · intro e
        have := hm.2 e.2
        omega)
    obtain ⟨a2, n2, c2, rfl⟩ := own_form ho2
    have hB2 := below_step hb hb2
    have hbs := hb2.size
    replace hco := Lib.hid hco
    clear hcl1 hL2 ho2 hl2 hR
    go_wp2_with fail
    refine hco.out.mono ?_
    rintro e w3 ⟨⟨a3, m3, c3, rfl, _, hm3⟩, hb3⟩
    have HM := Lib.hid (HB.out m3 hm3)
    clear hco hm3 HB
    go_wp2_with fail
    go_ret
    refine ⟨?_, hB2.trans (hb3.mono (Nat.le_trans hb.size (Nat.le_refl _)))⟩
    rw [← HM.out]
    rfl
end Go.Proofs.Pw

namespace Go.Proofs.Pw
open Go.RowKit
open Go.Lib hiding intOf
theorem latestL_size {l : List En} (h : ShortI l) (p : Str) : (latestL l p).length ≤ 1000000 := by
  unfold latestL
  by_cases e : likedL l p (vsort (versL l p)) = []
  · rw [e]; exact Nat.zero_le _
  · exact (versL_size h).2 _ ((vsort_mem _ _).1 (likedL_sub (lastS_mem e))).1
set_option maxHeartbeats 4000000 in
set_option maxRecDepth 100000 in
theorem upNews_in (ks : List Nat) (A : Nat → Addr) (hks : IdxKs ks) (a : Option Addr) (n cap : Nat) (P V : Nat → ByteArray) (R : Nat → List Md) (K : Nat → List Str) (Bk : Nat → Bool) (Rv Kv : Nat → Value) (sv : Value) (sel : List Md) (w : World) (hE : EnvP ks A w) (h : EntsIn w a n cap P V R K Bk Rv Kv) (hs : ShortI (enF n P V R K Bk)) (hv : ModsAt w sv sel) (hl : sel.length ≤ 10000) (hss : ∀ m ∈ sel, m.2.length ≤ 1000000) :
    Calls Tryz.prog 33 #[.slice a n cap, sv] w fun e w' => (∃ x ev, e = .returned (.tuple #[x, ev]) ∧ FaultAt A w' ev (newsErr (enF n P V R K Bk) sel) ∧ ModsAt w' x (newsR (enF n P V R K Bk) sel)) ∧ Below w.heap.size w w' := by
  obtain ⟨i0, hi, hz0, hz1, hz2⟩ := info_parts Tryz.infoMod
  have hck := idxCheck_in ks A hks a n cap P V R K Bk Rv Kv w hE h hs
  have hla := fun (W : World) (hb : Below w.heap.size w W) => upLatest_in ks A a n cap P V R K Bk Rv Kv sv sel W (hE.below hb) (h.below hb) hs (hv.below hb) (by omega)
  have hri := fun (W : World) (hb : Below w.heap.size w W) => modRise_calls sv sel W (hv.below hb) (by omega)
  obtain ⟨sa, m, sc, Q, U, rfl, e2, _, _, hc⟩ := id hv
  have hm : m ≤ 10000 := by rw [e2, mdF_length] at hl; exact hl
  have hlz := fun p => latestL_size hs p
  have HE := Lib.hid hE
  generalize enF n P V R K Bk = l at *
  have hless := fun (x y : ByteArray) (hx : x.size ≤ 1000000000) (hy : y.size ≤ 1000000000) (W : World) (hb : Below w.heap.size w W) => verLess_calls ks A x y W (hE.below hb) hx hy
  have HSZ : Hid (∀ j, j < m → (U j).size ≤ 1000000) := Lib.hid (fun j hj => by
    have h2 := hss _ (by rw [e2]; exact List.mem_of_getElem? (mdF_get m Q U j hj))
    simp only [Array.length_toList] at h2
    exact h2)
  have HNE : Hid (newsErr l sel = orE (idxErr l) (if riseB sel = true then (0, -1) else (8, -1)) ∧ ((newsErr l sel).1 ≠ 0 → newsR l sel = []) ∧ ((newsErr l sel).1 = 0 → newsR l sel = newsL l sel)) := Lib.hid ⟨rfl, fun h0 => by unfold newsR; rw [if_neg h0], fun h0 => by unfold newsR; rw [if_pos h0]⟩
  have HLM : Hid (latestM l sel = mdF m Q (fun j => ⟨(latestL l (Q j).data.toList).toArray⟩)) := Lib.hid (by
    rw [e2]
    unfold latestM mdF
    rw [List.map_map]
    rfl)
  have HSE := Lib.hid e2
  have HLZ : Hid (∀ j, (⟨(latestL l (Q j).data.toList).toArray⟩ : ByteArray).size ≤ 1000000) := Lib.hid (fun j => by
    have := hlz (Q j).data.toList
    simpa [ByteArray.size] using this)
  generalize newsErr l sel = NE at *
  generalize newsR l sel = NR at *
  generalize riseB sel = RB at *
  replace hck := Lib.hid hck
  replace hla := Lib.hid hla
  replace hri := Lib.hid hri
  replace hless := Lib.hid hless
  replace hc := Lib.hid hc
  clear h hs hE hl hlz hss e2 hv
  go_enter Tryz.func33, Tryz.ntmps33
  go_wp2_with fail
  refine hck.out.mono ?_
  rintro e w1 ⟨⟨v1, rfl, hf1⟩, hB⟩
  rcases fault_form hf1 with ⟨h0, rfl⟩ | ⟨h0, ty, q, rfl⟩
  · have HIZ := Lib.hid h0
    have hr2 := hri.out _ hB
    replace hr2 := Lib.hid hr2
    clear hf1 h0 hck
    cases RB with
    | false =>
      have HF : Hid (NE = (8, -1) ∧ NR = []) := Lib.hid (by
        have e : NE = (8, -1) := by rw [HNE.out.1]; unfold orE; rw [if_neg (by simp [HIZ.out])]; rfl
        exact ⟨e, HNE.out.2.1 (by rw [e]; decide)⟩)
      clear HNE
      go_wp2_with fail
      refine hr2.out.mono ?_
      rintro e w2 ⟨rfl, hb⟩
      replace hB := below_step hB hb
      have g8 := (HE.out.below hB).errs.var 8 hks.2.2.2.2
      simp only [errG] at g8
      clear hb hr2
      go_wp2_with fail
      go_region
      all_goals
        go_wp2_with fail
        go_ret2
        rw [HF.out.1, HF.out.2]
        refine ⟨⟨_, _, rfl, .inr (.inl ⟨by decide, rfl, ?_⟩), ModsAt.nil _⟩, hB.drew⟩
        show _ = errV A 8
        rw [errV_pos A (show (8 : Nat) ≠ 0 by decide)]
        rfl
    | true =>
      have HF : Hid (NE = (0, -1) ∧ NR = newsL l (mdF m Q U)) := Lib.hid (by
        have e : NE = (0, -1) := by rw [HNE.out.1]; unfold orE; rw [if_neg (by simp [HIZ.out])]; rfl
        exact ⟨e, by rw [HNE.out.2.2 (by rw [e]), HSE.out]⟩)
      clear HNE
      go_wp2_with fail
      refine hr2.out.mono ?_
      rintro e w2 ⟨rfl, hb⟩
      replace hB := below_step hB hb
      have hl3 := hla.out _ hB
      replace hl3 := Lib.hid hl3
      clear hb hr2
      go_wp2_with fail
      refine hl3.out.mono ?_
      rintro e w3 ⟨⟨v3, L3, rfl, hL3, ho3⟩, hb⟩
      have hM3 := modsAt_own ho3
      rw [hL3, HLM.out] at hM3
      replace hB := below_step hB hb
      obtain ⟨a3, n3, c3, P3, V3, rfl, e3, _, _, hc3⟩ := hM3
      have hn3 : n3 = m := by have := congrArg List.length e3; rw [mdF_length, mdF_length] at this; exact this.symm
      have HPV : Hid (∀ j, j < m → P3 j = Q j ∧ V3 j = ⟨(latestL l (Q j).data.toList).toArray⟩) := Lib.hid (fun j hj => by
        have h1 := mdF_get n3 P3 V3 j (by omega)
        rw [← e3, mdF_get m _ _ j hj] at h1
        have h2 := Option.some.inj h1
        exact ⟨(bytes_eq.1 (Prod.mk.inj h2).1).symm, (bytes_eq.1 (Prod.mk.inj h2).2).symm⟩)
      subst hn3
      replace hc3 := Lib.hid hc3
      clear e3 hL3 ho3 hb hl3
      go_wp2_with fail
      go_loopw [7, 8, 23] (fun o _ i wr => ∃ (k : Nat) (L : List (ByteArray × ByteArray)), k ≤ n3 ∧ i = .int .i64 k ∧ Hid (wr.ownsRow w3.heap.size 38 2 o L.length (mdVs L)) ∧ L.length ≤ k ∧ Hid (mdTs L = newsL l ((mdF n3 Q U).take k)) ∧ Below w3.heap.size w3 wr) (fun _ _ i _ => n3 - (intOf i).toNat)
      case atStart => exact ⟨0, [], Nat.zero_le _, rfl, Lib.hid (World.ownsRow_nil _ _ _ _), Nat.le_refl _, Lib.hid rfl, Below.refl _ _⟩
      case round =>
        obtain ⟨k, L, hk, rfl, hO, hLk, hT, hBr⟩ := hrel
        obtain ⟨ao, no, co, rfl⟩ := own_form hO.out
        have hown := Lib.hid (fun q (e : (Value.slice ao no co).ownBlock = some q) => (hO.out.lt q e).1)
        by_cases hlt : k < n3
        · have hkn : (k : Int) < (n3 : Int) := by omega
          obtain ⟨b1, o1, ea, c0, c1⟩ := hc3.out k hlt
          obtain ⟨b2, o2, eb, d0, d1⟩ := hc.out k hlt
          replace c0 := Below.cell_some hBr c0
          replace c1 := Below.cell_some hBr c1
          have hBw := below_step hB hBr
          replace d0 := Below.cell_some hBw d0
          replace d1 := Below.cell_some hBw d1
          obtain ⟨p1, p2⟩ := HPV.out k hlt
          rw [p1] at c0
          have hlz := HLZ.out k
          have hnb : newsB l ((Q k).data.toList, (U k).data.toList) = verLess (U k).data.toList (latestL l (Q k).data.toList) := rfl
          have hTk : newsL l ((mdF n3 Q U).take (k + 1)) = newsL l ((mdF n3 Q U).take k) ++ (if newsB l ((Q k).data.toList, (U k).data.toList) = true then [((Q k).data.toList, latestL l (Q k).data.toList)] else []) := by
            rw [mdF_take_succ n3 Q U k hlt, newsL_snoc]
          obtain ⟨LX, hLX⟩ : ∃ LX : ByteArray, LX = ⟨(latestL l (Q k).data.toList).toArray⟩ := ⟨_, rfl⟩
          have hLX2 : latestL l (Q k).data.toList = LX.data.toList := by rw [hLX]
          rw [p2, ← hLX] at c1
          rw [← hLX] at hlz
          rw [hLX2] at hnb hTk
          have hls := fun W hb => hless.out (U k) LX (by have := HSZ.out k hlt; omega) (by omega) W hb
          rw [← hnb] at hls
          have hba := below_alloc wr (.cells #[.string (Q k), .string LX] 38)
          have hz := box2_alloc wr (.string (Q k)) (.string LX) 38
          have hO2 := hO.out.below hba
          have hB2 := below_step hBr hba
          replace d1 := Below.cell_some hba d1
          obtain ⟨w4, hW⟩ : ∃ W, wr.alloc (.cells #[.string (Q k), .string LX] 38) = W := ⟨_, rfl⟩
          rw [hW] at hz hO2 hB2 d1
          obtain ⟨z0, z1, zf⟩ := hz
          subst ea eb
          generalize newsB l ((Q k).data.toList, (U k).data.toList) = NB at *
          cases NB with
          | true =>
            have HN : Hid (mdTs (L ++ [(Q k, LX)]) = newsL l ((mdF n3 Q U).take (k + 1))) := Lib.hid (by rw [hTk, if_pos rfl, mdTs_sn, hT.out])
            have HO2 := hO2
            replace hls := Lib.hid hls
            clear hba hTk hnb hLX hLX2 p1 p2 hT hO d0 hO2
            go_wp2_with fail
            clear hW c0 c1
            have kqd1 := fun d os => cell_patch (d := d) (os := os) d1
            have kqz1 := fun d os => cell_patch (d := d) (os := os) z1
            refine wp_region_quiet_patch (by kernel_rfl) (by kernel_rfl) ?_
            repeat (go_big_quiet_step ((go_at_call 82; exact Calls.patch_of (hls.out _ (below_step hB (below_step hB2 (below_patch _ _ _)))))))
            refine wpQuiet_nil ?_
            intro _ hw'
            obtain ⟨⟨dq, osq⟩, hw''⟩ := hw'
            subst hw''
            clear kqd1 kqz1
            have hb := below_patch w4 dq osq
            replace hB2 := below_step hB2 hb
            replace HO2 := HO2.below hb
            replace z0 := Below.cell_some hb z0
            replace z1 := Below.cell_some hb z1
            clear hb
            generalize patch w4 dq osq = w5 at hB2 HO2 z0 z1 ⊢
            have HO := Lib.hid HO2
            clear HO2
            go_wp2_with (at_builtin; refine wpList_append_own _ rfl _ _ 23 rfl w3.heap.size 38 i0 (.agg #[.string ⟨#[]⟩, .string ⟨#[]⟩]) 2 32 Tryz.underlying23 hi hz0 hz1 hz2 rfl (by decide) _ _ _ rfl (HO.out.alloc _) ⟨w5.heap.size, 0, none⟩ 1 1 [.string (Q k), .string LX] rfl rfl (cell_two_new _ _ _ _) (by intro u hu; simp at hu; rcases hu with rfl | rfl <;> rfl) (by unfold maxLen; omega) (by omega) (by have := hB2.size; simp; omega) ?_; intro o' w6 hown4 hgrow4 _)
            go_roundw
            case rel =>
              refine ⟨k + 1, L ++ [(Q k, LX)], by omega, by go_num, Lib.hid ?_, by simp; omega, HN, ?_⟩
              · rw [List.length_append, List.length_singleton, ← mdVs_snoc]
                exact hown4
              · exact (hB2.alloc hB2.size _).grown hgrow4 (by have := hB2.size; simp; omega) hown.out
            case measure => simp [intOf]; omega
          | false =>
            have HN : Hid (mdTs L = newsL l ((mdF n3 Q U).take (k + 1))) := Lib.hid (by rw [hTk, if_neg (by decide), List.append_nil, hT.out])
            have HO2 := hO2
            replace hls := Lib.hid hls
            clear hba hTk hnb hLX hLX2 p1 p2 hT hO d0 hO2
            go_wp2_with fail
            clear hW c0 c1
            have kqd1 := fun d os => cell_patch (d := d) (os := os) d1
            have kqz1 := fun d os => cell_patch (d := d) (os := os) z1
            refine wp_region_quiet_patch (by kernel_rfl) (by kernel_rfl) ?_
            repeat (go_big_quiet_step ((go_at_call 82; exact Calls.patch_of (hls.out _ (below_step hB (below_step hB2 (below_patch _ _ _)))))))
            refine wpQuiet_nil ?_
            intro _ hw'
            obtain ⟨⟨dq, osq⟩, hw''⟩ := hw'
            subst hw''
            clear kqd1 kqz1
            have hb := below_patch w4 dq osq
            replace hB2 := below_step hB2 hb
            replace HO2 := HO2.below hb
            clear hb
            generalize patch w4 dq osq = w5 at hB2 HO2 ⊢
            have HO := Lib.hid HO2
            clear HO2
            go_wp2_with fail
            go_roundw
            case rel => exact ⟨k + 1, L, by omega, by go_num, HO, by omega, HN, hB2⟩
            case measure => simp [intOf]; omega
        · have HT : Hid (mdTs L = NR) := Lib.hid (by rw [hT.out, show k = n3 by omega, mdF_take_all, HF.out.2])
          have hM := modsAt_own hO.out
          rw [HT.out] at hM
          have HM := Lib.hid hM
          have hnk : ¬ (k : Int) < (n3 : Int) := by omega
          clear hT hlt hM
          go_wp2_with fail
          go_ret2
          rw [HF.out.1]
          exact ⟨⟨_, _, rfl, .inl ⟨rfl, rfl, rfl⟩, HM.out⟩, below_step hB hBr⟩
  · have HF : Hid (NE = idxErr l ∧ NR = []) := Lib.hid (by
      have e : NE = idxErr l := by rw [HNE.out.1]; unfold orE; rw [if_pos h0]
      exact ⟨e, HNE.out.2.1 (by rw [e]; exact h0)⟩)
    have HV := Lib.hid hf1
    clear h0 hf1 HNE
    go_wp2_with fail
    go_ret2
    rw [HF.out.1, HF.out.2]
    exact ⟨⟨_, _, rfl, HV.out, ModsAt.nil _⟩, hB⟩
end Go.Proofs.Pw

namespace Go.Proofs.Pw
open Go.RowKit
open Go.Lib hiding intOf
def longEn (e : En) : Bool := decide (70 < e.md.1.length) || (decide (60 < e.md.2.length) || (longMods e.reqs 25 || (decide (15 < e.packs.length) || e.packs.any fun s => decide (70 < s.length))))
def longIdx (l : List En) : Bool := decide (30 < l.length ∧ l.length ≠ 101) || l.any longEn
def longII (l : List En) : Int := if longIdx l = true then 1 else 0
theorem longIdx_hit {l : List En} {k : Nat} (hk : k < l.length) (h : longEn (enAt l k) = true) : longII l = 1 := by
  unfold longII longIdx
  rw [if_pos]
  rw [Bool.or_eq_true]
  exact .inr (List.any_eq_true.2 ⟨_, enAt_mem hk, h⟩)
theorem longIdx_none {l : List En} (h0 : ¬ (30 < l.length ∧ l.length ≠ 101)) (h : ∀ j, j < l.length → longEn (enAt l j) = false) : longII l = 0 := by
  unfold longII longIdx
  rw [if_neg]
  rw [Bool.or_eq_true]
  rintro (h1 | h1)
  · exact h0 (of_decide_eq_true h1)
  · obtain ⟨e, he, h2⟩ := List.any_eq_true.1 h1
    obtain ⟨i, hi⟩ := List.getElem?_of_mem he
    have hl := (List.getElem?_eq_some_iff.1 hi).1
    rw [enAt_get hl] at hi
    rw [← Option.some.inj hi, h i hl] at h2
    cases h2
set_option maxHeartbeats 4000000 in
set_option maxRecDepth 100000 in
theorem longIndex_in (a : Option Addr) (n cap : Nat) (P V : Nat → ByteArray) (R : Nat → List Md) (K : Nat → List Str) (Bk : Nat → Bool) (Rv Kv : Nat → Value) (w : World) (h : EntsIn w a n cap P V R K Bk Rv Kv) :
    Calls Tryz.prog 12 #[.slice a n cap] w fun e w' => e = .returned (.int .i64 (longII (enF n P V R K Bk))) ∧ w = w' := by
  have hcap := h.cap
  have hle := h.le
  have H := Lib.hid h
  clear h
  by_cases h30 : 30 < n ∧ n ≠ 101
  · have HF : Hid (longII (enF n P V R K Bk) = 1) := Lib.hid (by
      unfold longII longIdx
      rw [if_pos]
      rw [Bool.or_eq_true, enF_length]
      exact .inl (decide_eq_true h30))
    have h1 : (30 : Int) < (n : Int) := by omega
    have h2 : ((n : Int) != 101) = true := bne_iff_ne.2 (by omega)
    have h3 : ((n : Int) == 101) = false := beq_eq_false_iff_ne.2 (by omega)
    clear h30
    go_enter Tryz.func12, Tryz.ntmps12
    go_wp2_with fail
    go_ret
    rw [HF.out]
    exact ⟨rfl, rfl⟩
  · have hn101 : n ≤ 101 := by omega
    by_cases h31 : n = 101
    · have h1 : (30 : Int) < (n : Int) := by omega
      have h2 : ((n : Int) != 101) = false := by subst h31; rfl
      have h3 : ((n : Int) == 101) = true := by subst h31; rfl
      clear h31
      go_enter Tryz.func12, Tryz.ntmps12
      go_wp2_with fail
      go_loop [3] (fun i => ∃ k : Nat, k ≤ n ∧ i = .int .i64 k ∧ Hid (∀ j, j < k → longEn (enAt (enF n P V R K Bk) j) = false)) (fun i => n - (intOf i).toNat)
      case atStart => exact ⟨0, Nat.zero_le _, rfl, Lib.hid (fun j hj => absurd hj (Nat.not_lt_zero _))⟩
      case round =>
        obtain ⟨k, hk, rfl, HA⟩ := hrel
        by_cases hlt : k < n
        · have hkn : (k : Int) < (n : Int) := by omega
          obtain ⟨b1, o1, ea, hcell⟩ := H.out.at_ k hlt
          have hM := H.out.reqs k hlt
          obtain ⟨aK, nK, cK, LK, eK, eKl, _, _, hKc⟩ := H.out.packs k hlt
          obtain ⟨aM, nM, cM, _, _, eM, _⟩ := id hM
          rw [eM, eK] at hcell
          rw [eM] at hM
          have hlm := longMods_calls (.slice aM nM cM) (R k) 25 w hM
          have hEn : longEn (enAt (enF n P V R K Bk) k) = (decide (70 < (P k).size) || (decide (60 < (V k).size) || (longMods (R k) 25 || (decide (15 < nK) || (lstF nK LK).any fun s => decide (70 < s.length))))) := by
            rw [enAt_enF hlt]
            unfold longEn
            simp only [← size_eq, eKl, lstF_length]
          have hhit : longEn (enAt (enF n P V R K Bk) k) = true → longII (enF n P V R K Bk) = 1 := longIdx_hit (by rw [enF_length]; exact hlt)
          subst ea
          obtain ⟨d0, d1, d2, d3, d4⟩ := hcell
          replace hhit := Lib.hid hhit
          replace hEn := Lib.hid hEn
          replace hlm := Lib.hid hlm
          replace hKc := Lib.hid hKc
          clear hM eM eK eKl
          by_cases c1 : 70 < (P k).size
          · have HF : Hid (longII (enF n P V R K Bk) = 1) := Lib.hid (hhit.out (by rw [hEn.out, decide_eq_true c1]; rfl))
            have c1' : (70 : Int) < ((P k).size : Int) := by omega
            go_wp2_with fail
            go_ret
            rw [HF.out]
            exact ⟨rfl, rfl⟩
          · have c1' : ¬ (70 : Int) < ((P k).size : Int) := by omega
            by_cases c2 : 60 < (V k).size
            · have HF : Hid (longII (enF n P V R K Bk) = 1) := Lib.hid (hhit.out (by rw [hEn.out, decide_eq_false c1, decide_eq_true c2]; rfl))
              have c2' : (60 : Int) < ((V k).size : Int) := by omega
              go_wp2_with fail
              go_ret
              rw [HF.out]
              exact ⟨rfl, rfl⟩
            · have c2' : ¬ (60 : Int) < ((V k).size : Int) := by omega
              cases c3 : longMods (R k) 25 with
              | true =>
                have HF : Hid (longII (enF n P V R K Bk) = 1) := Lib.hid (hhit.out (by rw [hEn.out, decide_eq_false c1, decide_eq_false c2, c3]; rfl))
                rw [longI_yes c3] at hlm
                clear c3
                go_wp2_with fail
                refine hlm.out.mono ?_
                rintro e w' ⟨rfl, rfl⟩
                go_wp2_with fail
                go_ret
                rw [HF.out]
                exact ⟨rfl, rfl⟩
              | false =>
                rw [longI_no c3] at hlm
                by_cases c4 : 15 < nK
                · have HF : Hid (longII (enF n P V R K Bk) = 1) := Lib.hid (hhit.out (by rw [hEn.out, decide_eq_false c1, decide_eq_false c2, c3, decide_eq_true c4]; rfl))
                  have c4' : (15 : Int) < (nK : Int) := by omega
                  clear c3
                  go_wp2_with fail
                  refine hlm.out.mono ?_
                  rintro e w' ⟨rfl, rfl⟩
                  go_wp2_with fail
                  go_ret
                  rw [HF.out]
                  exact ⟨rfl, rfl⟩
                · have c4' : ¬ (15 : Int) < (nK : Int) := by omega
                  have HE2 : Hid (longEn (enAt (enF n P V R K Bk) k) = (lstF nK LK).any fun s => decide (70 < s.length)) := Lib.hid (by rw [hEn.out, decide_eq_false c1, decide_eq_false c2, c3, decide_eq_false c4]; rfl)
                  clear c3
                  go_wp2_with fail
                  refine hlm.out.mono ?_
                  rintro e w' ⟨rfl, rfl⟩
                  go_wp2_with fail
                  go_loop [4] (fun i => ∃ q : Nat, q ≤ nK ∧ i = .int .i64 q ∧ Hid (∀ j, j < q → ¬ 70 < (LK j).size)) (fun i => nK - (intOf i).toNat)
                  case atStart => exact ⟨0, Nat.zero_le _, rfl, Lib.hid (fun j hj => absurd hj (Nat.not_lt_zero _))⟩
                  case round =>
                    obtain ⟨q, hq, rfl, HA2⟩ := hrel
                    by_cases hq2 : q < nK
                    · have hqn : (q : Int) < (nK : Int) := by omega
                      obtain ⟨b2, o2, ek, r0⟩ := hKc.out q hq2
                      subst ek
                      by_cases c5 : 70 < (LK q).size
                      · have HF : Hid (longII (enF n P V R K Bk) = 1) := Lib.hid (hhit.out (by
                          rw [HE2.out, List.any_eq_true]
                          refine ⟨_, List.mem_of_getElem? (show (lstF nK LK)[q]? = some (LK q).data.toList by simp [lstF, hq2]), ?_⟩
                          rw [← size_eq]; exact decide_eq_true c5))
                        have c5' : (70 : Int) < ((LK q).size : Int) := by omega
                        go_wp2_with fail
                        go_ret
                        rw [HF.out]
                        exact ⟨rfl, rfl⟩
                      · have c5' : ¬ (70 : Int) < ((LK q).size : Int) := by omega
                        have HN : Hid (∀ j, j < q + 1 → ¬ 70 < (LK j).size) := Lib.hid (fun j hj => by
                          by_cases e : j = q
                          · subst e; exact c5
                          · exact HA2.out j (by omega))
                        go_wp2_with fail
                        go_round
                        case rel => exact ⟨q + 1, by omega, by go_num, HN⟩
                        case measure => simp [intOf]; omega
                    · obtain rfl : nK = q := by omega
                      have HN : Hid (∀ j, j < k + 1 → longEn (enAt (enF n P V R K Bk) j) = false) := Lib.hid (fun j hj => by
                        by_cases e : j = k
                        · subst e
                          rw [HE2.out, List.any_eq_false]
                          intro s hs
                          obtain ⟨i, hi⟩ := List.getElem?_of_mem hs
                          have hil : i < nK := by have := (List.getElem?_eq_some_iff.1 hi).1; simpa [lstF] using this
                          have : (lstF nK LK)[i]? = some (LK i).data.toList := by simp [lstF, hil]
                          rw [this] at hi
                          rw [← Option.some.inj hi, ← size_eq]
                          have := HA2.out i hil
                          simpa using this
                        · exact HA.out j (by omega))
                      go_wp2_with fail
                      go_round
                      case rel => exact ⟨k + 1, by omega, by go_num, HN⟩
                      case measure => simp [intOf]; omega
        · obtain rfl : n = k := by omega
          have HF : Hid (longII (enF n P V R K Bk) = 0) := Lib.hid (longIdx_none (by rw [enF_length]; exact h30) (by rw [enF_length]; exact HA.out))
          go_wp2_with fail
          go_ret
          rw [HF.out]
          exact ⟨rfl, rfl⟩
    · have h1 : ¬ (30 : Int) < (n : Int) := by omega
      clear h31
      go_enter Tryz.func12, Tryz.ntmps12
      go_wp2_with fail
      go_loop [3] (fun i => ∃ k : Nat, k ≤ n ∧ i = .int .i64 k ∧ Hid (∀ j, j < k → longEn (enAt (enF n P V R K Bk) j) = false)) (fun i => n - (intOf i).toNat)
      case atStart => exact ⟨0, Nat.zero_le _, rfl, Lib.hid (fun j hj => absurd hj (Nat.not_lt_zero _))⟩
      case round =>
        obtain ⟨k, hk, rfl, HA⟩ := hrel
        by_cases hlt : k < n
        · have hkn : (k : Int) < (n : Int) := by omega
          obtain ⟨b1, o1, ea, hcell⟩ := H.out.at_ k hlt
          have hM := H.out.reqs k hlt
          obtain ⟨aK, nK, cK, LK, eK, eKl, _, _, hKc⟩ := H.out.packs k hlt
          obtain ⟨aM, nM, cM, _, _, eM, _⟩ := id hM
          rw [eM, eK] at hcell
          rw [eM] at hM
          have hlm := longMods_calls (.slice aM nM cM) (R k) 25 w hM
          have hEn : longEn (enAt (enF n P V R K Bk) k) = (decide (70 < (P k).size) || (decide (60 < (V k).size) || (longMods (R k) 25 || (decide (15 < nK) || (lstF nK LK).any fun s => decide (70 < s.length))))) := by
            rw [enAt_enF hlt]
            unfold longEn
            simp only [← size_eq, eKl, lstF_length]
          have hhit : longEn (enAt (enF n P V R K Bk) k) = true → longII (enF n P V R K Bk) = 1 := longIdx_hit (by rw [enF_length]; exact hlt)
          subst ea
          obtain ⟨d0, d1, d2, d3, d4⟩ := hcell
          replace hhit := Lib.hid hhit
          replace hEn := Lib.hid hEn
          replace hlm := Lib.hid hlm
          replace hKc := Lib.hid hKc
          clear hM eM eK eKl
          by_cases c1 : 70 < (P k).size
          · have HF : Hid (longII (enF n P V R K Bk) = 1) := Lib.hid (hhit.out (by rw [hEn.out, decide_eq_true c1]; rfl))
            have c1' : (70 : Int) < ((P k).size : Int) := by omega
            go_wp2_with fail
            go_ret
            rw [HF.out]
            exact ⟨rfl, rfl⟩
          · have c1' : ¬ (70 : Int) < ((P k).size : Int) := by omega
            by_cases c2 : 60 < (V k).size
            · have HF : Hid (longII (enF n P V R K Bk) = 1) := Lib.hid (hhit.out (by rw [hEn.out, decide_eq_false c1, decide_eq_true c2]; rfl))
              have c2' : (60 : Int) < ((V k).size : Int) := by omega
              go_wp2_with fail
              go_ret
              rw [HF.out]
              exact ⟨rfl, rfl⟩
            · have c2' : ¬ (60 : Int) < ((V k).size : Int) := by omega
              cases c3 : longMods (R k) 25 with
              | true =>
                have HF : Hid (longII (enF n P V R K Bk) = 1) := Lib.hid (hhit.out (by rw [hEn.out, decide_eq_false c1, decide_eq_false c2, c3]; rfl))
                rw [longI_yes c3] at hlm
                clear c3
                go_wp2_with fail
                refine hlm.out.mono ?_
                rintro e w' ⟨rfl, rfl⟩
                go_wp2_with fail
                go_ret
                rw [HF.out]
                exact ⟨rfl, rfl⟩
              | false =>
                rw [longI_no c3] at hlm
                by_cases c4 : 15 < nK
                · have HF : Hid (longII (enF n P V R K Bk) = 1) := Lib.hid (hhit.out (by rw [hEn.out, decide_eq_false c1, decide_eq_false c2, c3, decide_eq_true c4]; rfl))
                  have c4' : (15 : Int) < (nK : Int) := by omega
                  clear c3
                  go_wp2_with fail
                  refine hlm.out.mono ?_
                  rintro e w' ⟨rfl, rfl⟩
                  go_wp2_with fail
                  go_ret
                  rw [HF.out]
                  exact ⟨rfl, rfl⟩
                · have c4' : ¬ (15 : Int) < (nK : Int) := by omega
                  have HE2 : Hid (longEn (enAt (enF n P V R K Bk) k) = (lstF nK LK).any fun s => decide (70 < s.length)) := Lib.hid (by rw [hEn.out, decide_eq_false c1, decide_eq_false c2, c3, decide_eq_false c4]; rfl)
                  clear c3
                  go_wp2_with fail
                  refine hlm.out.mono ?_
                  rintro e w' ⟨rfl, rfl⟩
                  go_wp2_with fail
                  go_loop [4] (fun i => ∃ q : Nat, q ≤ nK ∧ i = .int .i64 q ∧ Hid (∀ j, j < q → ¬ 70 < (LK j).size)) (fun i => nK - (intOf i).toNat)
                  case atStart => exact ⟨0, Nat.zero_le _, rfl, Lib.hid (fun j hj => absurd hj (Nat.not_lt_zero _))⟩
                  case round =>
                    obtain ⟨q, hq, rfl, HA2⟩ := hrel
                    by_cases hq2 : q < nK
                    · have hqn : (q : Int) < (nK : Int) := by omega
                      obtain ⟨b2, o2, ek, r0⟩ := hKc.out q hq2
                      subst ek
                      by_cases c5 : 70 < (LK q).size
                      · have HF : Hid (longII (enF n P V R K Bk) = 1) := Lib.hid (hhit.out (by
                          rw [HE2.out, List.any_eq_true]
                          refine ⟨_, List.mem_of_getElem? (show (lstF nK LK)[q]? = some (LK q).data.toList by simp [lstF, hq2]), ?_⟩
                          rw [← size_eq]; exact decide_eq_true c5))
                        have c5' : (70 : Int) < ((LK q).size : Int) := by omega
                        go_wp2_with fail
                        go_ret
                        rw [HF.out]
                        exact ⟨rfl, rfl⟩
                      · have c5' : ¬ (70 : Int) < ((LK q).size : Int) := by omega
                        have HN : Hid (∀ j, j < q + 1 → ¬ 70 < (LK j).size) := Lib.hid (fun j hj => by
                          by_cases e : j = q
                          · subst e; exact c5
                          · exact HA2.out j (by omega))
                        go_wp2_with fail
                        go_round
                        case rel => exact ⟨q + 1, by omega, by go_num, HN⟩
                        case measure => simp [intOf]; omega
                    · obtain rfl : nK = q := by omega
                      have HN : Hid (∀ j, j < k + 1 → longEn (enAt (enF n P V R K Bk) j) = false) := Lib.hid (fun j hj => by
                        by_cases e : j = k
                        · subst e
                          rw [HE2.out, List.any_eq_false]
                          intro s hs
                          obtain ⟨i, hi⟩ := List.getElem?_of_mem hs
                          have hil : i < nK := by have := (List.getElem?_eq_some_iff.1 hi).1; simpa [lstF] using this
                          have : (lstF nK LK)[i]? = some (LK i).data.toList := by simp [lstF, hil]
                          rw [this] at hi
                          rw [← Option.some.inj hi, ← size_eq]
                          have := HA2.out i hil
                          simpa using this
                        · exact HA.out j (by omega))
                      go_wp2_with fail
                      go_round
                      case rel => exact ⟨k + 1, by omega, by go_num, HN⟩
                      case measure => simp [intOf]; omega
        · obtain rfl : n = k := by omega
          have HF : Hid (longII (enF n P V R K Bk) = 0) := Lib.hid (longIdx_none (by rw [enF_length]; exact h30) (by rw [enF_length]; exact HA.out))
          go_wp2_with fail
          go_ret
          rw [HF.out]
          exact ⟨rfl, rfl⟩
end Go.Proofs.Pw

namespace Go.Proofs.Pw
open Go.Lib hiding intOf
theorem longMods_small {l : List Md} {k : Nat} (h : longMods l k = false) : l.length ≤ k ∧ ∀ m ∈ l, m.1.length ≤ 70 ∧ m.2.length ≤ 60 := by
  unfold longMods at h
  rw [Bool.or_eq_false_iff] at h
  refine ⟨by have := of_decide_eq_false h.1; omega, fun m hm => ?_⟩
  have h2 := List.any_eq_false.1 h.2 m hm
  simp only [Bool.or_eq_true, decide_eq_true_eq] at h2
  omega
theorem longEn_small {e : En} (h : longEn e = false) : e.md.1.length ≤ 70 ∧ e.md.2.length ≤ 60 ∧ longMods e.reqs 25 = false ∧ e.packs.length ≤ 15 ∧ ∀ s ∈ e.packs, s.length ≤ 70 := by
  unfold longEn at h
  rw [Bool.or_eq_false_iff, Bool.or_eq_false_iff, Bool.or_eq_false_iff, Bool.or_eq_false_iff] at h
  obtain ⟨h1, h2, h3, h4, h5⟩ := h
  refine ⟨by have := of_decide_eq_false h1; omega, by have := of_decide_eq_false h2; omega, h3, by have := of_decide_eq_false h4; omega, fun s hs => ?_⟩
  have := List.any_eq_false.1 h5 s hs
  simp only [decide_eq_true_eq] at this
  omega
theorem longIdx_small {l : List En} (h : longIdx l = false) : l.length ≤ 101 ∧ ∀ e ∈ l, longEn e = false := by
  unfold longIdx at h
  rw [Bool.or_eq_false_iff] at h
  refine ⟨by have := of_decide_eq_false h.1; omega, fun e he => ?_⟩
  have := List.any_eq_false.1 h.2 e he
  simpa using this
theorem longIdx_short {l : List En} (h : longIdx l = false) : ShortI l := by
  obtain ⟨h1, h2⟩ := longIdx_small h
  refine ⟨by omega, fun e he => ?_, fun e he => ?_, fun e he => ?_⟩
  · have := longEn_small (h2 e he); omega
  · have h3 := longMods_small (longEn_small (h2 e he)).2.2.1
    exact ⟨by omega, fun m hm => by have := h3.2 m hm; omega⟩
  · have h3 := longEn_small (h2 e he)
    exact ⟨by omega, fun s hs => by have := h3.2.2.2.2 s hs; omega⟩
theorem longII_no {l : List En} (h : longIdx l = false) : longII l = 0 := by unfold longII; rw [h]; rfl
theorem longII_yes {l : List En} (h : longIdx l = true) : longII l = 1 := by unfold longII; rw [h]; rfl
end Go.Proofs.Pw

namespace Go.Proofs.Pw
open Go.RowKit
open Go.Lib hiding intOf
set_option maxHeartbeats 1000000 in
set_option maxRecDepth 100000 in
theorem findOf_in (a : Option Addr) (n cap : Nat) (P V : Nat → ByteArray) (R : Nat → List Md) (K : Nat → List Str) (B : Nat → Bool) (Rv Kv : Nat → Value) (p v : ByteArray) (w : World) (h : EntsIn w a n cap P V R K B Rv Kv) (hl : n ≤ 1000000) :
    Calls Tryz.prog 19 #[.slice a n cap, .agg #[.string p, .string v]] w fun e w' => e = .returned (.int .i64 (findE (enF n P V R K B) (p.data.toList, v.data.toList))) ∧ Below w.heap.size w w' := by
  have hB := below_alloc w (.cells #[.string p, .string v] 38)
  obtain ⟨z0, z1, _⟩ := box2_alloc w (.string p) (.string v) 38
  have H := Lib.hid (h.below hB)
  have hg := Tryz.md_guard
  clear h
  go_enter Tryz.func19, Tryz.ntmps19
  go_wp2_with fail
  generalize hw1 : w.alloc (.cells #[.string p, .string v] 38) = w1 at *
  clear hw1
  go_loopw [5] (fun i wr => ∃ k : Nat, k ≤ n ∧ i = .int .i64 k ∧ Below w1.heap.size w1 wr ∧ Hid (∀ j, j < k → ((P j).data.toList, (V j).data.toList) ≠ (p.data.toList, v.data.toList))) (fun i _ => n - (intOf i).toNat)
  case atStart => exact ⟨0, Nat.zero_le _, rfl, Below.refl _ _, Lib.hid (fun j hj => absurd hj (Nat.not_lt_zero _))⟩
  case round =>
    obtain ⟨k, hk, rfl, hBk, HA⟩ := hrel
    have hBw := below_step hB hBk
    by_cases hlt : k < n
    · have hkn : (k : Int) < (n : Int) := by omega
      obtain ⟨b1, o1, ea, hcell⟩ := H.out.at_ k hlt
      have c0 := Below.cell_some hBk hcell.c0
      have c1 := Below.cell_some hBk hcell.c1
      have y0 := Below.cell_some hBk z0
      have y1 := Below.cell_some hBk z1
      subst ea
      have he := md_eql (P k) (V k) p v
      by_cases hm : ((P k).data.toList, (V k).data.toList) = (p.data.toList, v.data.toList)
      · have hd : decide (P k = p ∧ V k = v) = true := decide_eq_true (bytes_pair.1 hm)
        simp only [hd] at he
        have HF : Hid (findE (enF n P V R K B) (p.data.toList, v.data.toList) = k) := Lib.hid (findI_hit (enF_get n P V R K B k hlt) (decide_eq_true hm) (fun j y hj hy => by
          rw [enF_get n P V R K B j (by omega)] at hy
          cases hy
          exact decide_eq_false (HA.out j hj)))
        clear hm hcell hd
        go_wp2_with fail
        have kqc0 := fun d os => cell_patch (d := d) (os := os) c0
        have kqc1 := fun d os => cell_patch (d := d) (os := os) c1
        have kqy0 := fun d os => cell_patch (d := d) (os := os) y0
        have kqy1 := fun d os => cell_patch (d := d) (os := os) y1
        refine wp_region_quiet_patch (by kernel_rfl) (by kernel_rfl) ?_
        repeat (go_big_quiet_step (fail))
        refine wpQuiet_nil ?_
        intro _ hw'
        obtain ⟨⟨dq, osq⟩, hw''⟩ := hw'
        subst hw''
        clear kqc0 kqc1 kqy0 kqy1
        have hb := below_patch wr dq osq
        replace hBw := below_step hBw hb
        clear hb
        generalize patch wr dq osq = wq1 at hBw ⊢
        go_wp2_with fail
        go_ret
        rw [HF.out]
        exact ⟨rfl, hBw⟩
      · have hd : decide (P k = p ∧ V k = v) = false := decide_eq_false (fun h => hm (bytes_pair.2 h))
        simp only [hd] at he
        have HN : Hid (∀ j, j < k + 1 → ((P j).data.toList, (V j).data.toList) ≠ (p.data.toList, v.data.toList)) := Lib.hid (fun j hj => by
          by_cases e : j = k
          · subst e; exact hm
          · exact HA.out j (by omega))
        clear hm hcell hd
        go_wp2_with fail
        have kqc0 := fun d os => cell_patch (d := d) (os := os) c0
        have kqc1 := fun d os => cell_patch (d := d) (os := os) c1
        have kqy0 := fun d os => cell_patch (d := d) (os := os) y0
        have kqy1 := fun d os => cell_patch (d := d) (os := os) y1
        refine wp_region_quiet_patch (by kernel_rfl) (by kernel_rfl) ?_
        repeat (go_big_quiet_step (fail))
        refine wpQuiet_nil ?_
        intro _ hw'
        obtain ⟨⟨dq, osq⟩, hw''⟩ := hw'
        subst hw''
        clear kqc0 kqc1 kqy0 kqy1
        have hb := below_patch wr dq osq
        replace hBk := below_step hBk hb
        clear hb
        generalize patch wr dq osq = wq1 at hBk ⊢
        go_wp2_with fail
        go_roundw
        case rel => exact ⟨k + 1, by omega, by go_num, hBk, HN⟩
        case measure => simp [intOf]; omega
    · obtain rfl : n = k := by omega
      have HF : Hid (findE (enF n P V R K B) (p.data.toList, v.data.toList) = -1) := Lib.hid (findI_none (fun j y hy => by
        have hj : j < n := by have := (List.getElem?_eq_some_iff.1 hy).1; rwa [enF_length] at this
        rw [enF_get n P V R K B j hj] at hy
        cases hy
        exact decide_eq_false (HA.out j hj)))
      go_wp2_with fail
      go_ret
      rw [HF.out]
      exact ⟨rfl, hBw⟩
end Go.Proofs.Pw

namespace Go.Proofs.Pw
open Go.RowKit
open Go.Lib hiding intOf
end Go.Proofs.Pw
