/- Qa: walks and plain laws, joined: SlDelK. Conditions: at each theorem. -/
import Derived.Test.YtnanklfbmmionaaGreatDoorQaq
import Derived.Deep.AppendLies
import Derived.Deep.RegionLaw

namespace Go.Proofs.Pw
open Go.RowKit Go.Sort
open Go.Lib hiding intOf
structure Kept (blk : Nat) (w W : World) : Prop where
  os : W.os = w.os
  tape : W.tape = w.tape
  output : W.output = w.output
  size : w.heap.size ≤ W.heap.size
  all : ∀ k, k < w.heap.size → k ≠ blk → W.heap[k]? = w.heap[k]?
theorem Kept.of (blk : Nat) {w W : World} (h : Below w.heap.size w W) : Kept blk w W := ⟨h.os, h.tape, h.output, h.size, fun k hk _ => h.block k hk⟩
theorem Kept.below {blk B : Nat} {w W : World} (h : Kept blk w W) (h1 : B ≤ blk) (h2 : B ≤ w.heap.size) : Below B w W := ⟨h.os, h.tape, h.output, h.size, fun k hk => h.all k (by omega) (by omega)⟩
theorem Kept.step {blk : Nat} {w W W' : World} (h : Kept blk w W) (g : Below W.heap.size W W') : Kept blk w W' :=
  ⟨g.os.trans h.os, g.tape.trans h.tape, g.output.trans h.output, Nat.le_trans h.size g.size, fun k hk hn => (g.block k (Nat.lt_of_lt_of_le hk h.size)).trans (h.all k hk hn)⟩
theorem Kept.trans {blk : Nat} {w W W' : World} (h : Kept blk w W) (g : Kept blk W W') : Kept blk w W' :=
  ⟨g.os.trans h.os, g.tape.trans h.tape, g.output.trans h.output, Nat.le_trans h.size g.size, fun k hk hn => (g.all k (Nat.lt_of_lt_of_le hk h.size) hn).trans (h.all k hk hn)⟩
theorem Kept.set {blk : Nat} {w W : World} (h : Kept blk w W) (j : Nat) (v : Value) : Kept blk w (W.setCell ⟨blk, j, none⟩ v) :=
  h.trans ⟨rfl, rfl, rfl, by simp [World.setCell], fun k _ hn => Below.heap_setCell _ _ _ _ hn⟩
theorem Kept.put {blk : Nat} {w W : World} (h : Kept blk w W) (off : Nat) (d : Array Str) : Kept blk w (putRow encStr W blk off d) :=
  h.trans ⟨rfl, rfl, rfl, by simp [putRow, mapBlock], fun k _ hn => by
    simp only [putRow, mapBlock, Array.getElem?_modify]
    rw [if_neg (fun e => hn e.symm)]⟩
theorem Kept.cell {blk : Nat} {w W : World} (h : Kept blk w W) {a : Addr} {v : Value} (hc : w.cell? a = some v) (hn : a.block ≠ blk) : W.cell? a = some v := by
  have h1 := h.all a.block (World.block_lt_of_cell? w a hc) hn
  rw [← hc]
  exact World.cell?_of_block h1
def TestsK (g : Nat) (lb : Array Value) (p : Str → Bool) (l : List Str) (blk : Nat) (w : World) : Prop :=
  ∀ W, Kept blk w W → ∀ s ∈ l, Calls Tryz.prog g (#[encStr s] ++ lb) W fun e w'' => e = .returned (.bool (p s)) ∧ Below W.heap.size W w''
set_option maxHeartbeats 400000 in
theorem indexFuncK_calls (g : Nat) (lb : Array Value) (eg : ∀ args w, (callFunc g args).run Tryz.prog w = .ok (.enter g args) w) (p : Str → Bool) (blk off cap : Nat) (d : Array Str) (w : World) (hn : d.size ≤ 4000000001)
    (_hblk : blk < w.heap.size) (hH : Holds encStr w blk off d) (hT : TestsK g lb p d.toList blk w) :
    Calls Tryz.prog 170 #[.slice (some ⟨blk, off, none⟩) d.size cap, .func (.func g) #[] lb] w fun e w' => e = .returned (.int .i64 (findI p d.toList)) ∧ Below w.heap.size w w' := by
  replace hH := Lib.hid hH
  replace hT := Lib.hid hT
  go_enter Tryz.func170, Tryz.ntmps170
  go_wp2_with fail
  go_loopw [8] (fun i wr => ∃ k : Nat, k ≤ d.size ∧ i = .int .i64 k ∧ Below w.heap.size w wr ∧ Hid (∀ j, j < k → p d[j]! = false)) (fun i _ => d.size - (intOf i).toNat)
  case atStart => exact ⟨0, by omega, rfl, Below.refl _ _, Lib.hid (fun j hj => absurd hj (Nat.not_lt_zero _))⟩
  case round =>
    obtain ⟨k, hk, rfl, hb, HA⟩ := hrel
    by_cases hlt : k < d.size
    · have hck := Below.cell_some hb (hH.out k hlt).1
      have hcall := hT.out wr (Kept.of _ hb) _ (mem_arr hlt).1
      have HF := Lib.hid (mem_arr hlt).2
      generalize hs : d[k]! = s at hck hcall HF
      have HS := Lib.hid hs
      clear hs
      cases hq : p s with
      | true =>
        rw [hq] at hcall
        have HR : Hid (findI p d.toList = k) := Lib.hid (findI_hit HF.out hq (fun j y hj hy => by
          have := (mem_arr (d := d) (j := j) (by omega)).2
          rw [hy] at this
          injection this with this
          rw [this]
          exact HA.out j hj))
        clear hq
        go_wp2_with (go_at_fn g; refine hcall.mono ?_; rintro e w' ⟨rfl, hb2⟩)
        go_ret
        rw [HR.out]
        exact ⟨rfl, below_step hb hb2⟩
      | false =>
        rw [hq] at hcall
        have HQ := Lib.hid hq
        clear hq
        go_wp2_with (go_at_fn g; refine hcall.mono ?_; rintro e w' ⟨rfl, hb2⟩)
        go_roundw
        case rel =>
          refine ⟨k + 1, by omega, by go_num, below_step hb hb2, Lib.hid (fun j hj => ?_)⟩
          by_cases e : j = k
          · subst e; rw [HS.out]; exact HQ.out
          · exact HA.out j (by omega)
        case measure => simp [intOf]; omega
    · obtain rfl : k = d.size := by omega
      have HR : Hid (findI p d.toList = -1) := Lib.hid (findI_none (fun j y hy => by
        have hj : j < d.size := by have := (List.getElem?_eq_some_iff.1 hy).1; simpa using this
        have := (mem_arr (d := d) hj).2
        rw [hy] at this
        injection this with this
        rw [this]
        exact HA.out j hj))
      go_wp2_with fail
      go_ret
      rw [HR.out]
      exact ⟨rfl, hb⟩
set_option maxHeartbeats 2000000 in
set_option maxRecDepth 100000 in
theorem deleteFuncK_calls (g : Nat) (lb : Array Value) (eg : ∀ args w, (callFunc g args).run Tryz.prog w = .ok (.enter g args) w) (p : Str → Bool) (blk off cap : Nat) (d : Array Str) (w : World) (hn : d.size ≤ 4000000001) (hcap : d.size ≤ cap)
    (hblk : blk < w.heap.size) (hH : Holds encStr w blk off d) (hT : TestsK g lb p d.toList blk w) :
    Calls Tryz.prog 111 #[.slice (some ⟨blk, off, none⟩) d.size cap, .func (.func g) #[] lb] w fun e w' =>
      e = .returned (.slice (some ⟨blk, off, none⟩) (d.toList.filter fun x => !p x).length cap) ∧ Kept blk w w' ∧ Holds encStr w' blk off (d.toList.filter fun x => !p x).toArray := by
  have hIF := indexFuncK_calls g lb eg p blk off cap d w hn hblk hH hT
  have hfil : (d.toList.filter fun x => !p x) = keptUpTo (fun j => !p d[j]!) d d.size := (keptUpTo_filter (fun x => !p x) d).symm
  obtain ⟨kp, HK⟩ : ∃ kp : Nat → Bool, Hid (kp = fun j => !p d[j]!) := ⟨_, Lib.hid rfl⟩
  rw [hfil, ← HK.out]
  clear hfil
  rcases findI_cases p d with ⟨e1, hall⟩ | ⟨k0, hk0, e1, ht, hall⟩
  · rw [e1] at hIF
    have e3 : keptUpTo kp d d.size = d.toList := by
      rw [keptUpTo_all kp d _ (fun j hj => by rw [HK.out]; show (!p d[j]!) = true; rw [hall j hj]; rfl)]
      apply List.ext_getElem?
      intro i
      by_cases hi : i < d.size
      · rw [(mem_arr hi).2]; simp [hi]
      · rw [List.getElem?_eq_none (by simp; omega), List.getElem?_eq_none (by simp; omega)]
    have E3 := Lib.hid e3
    replace hH := Lib.hid hH
    replace hT := Lib.hid hT
    clear hall e1 e3
    go_enter Tryz.func111, Tryz.ntmps111
    go_wp2_with fail
    refine hIF.mono ?_
    rintro e w1 ⟨rfl, hb1⟩
    go_wp2_with fail
    go_ret
    rw [E3.out]
    exact ⟨by simp, Kept.of _ hb1, by simpa using holds_below hH.out hb1 hblk⟩
  · rw [e1] at hIF
    have hI0 : KeptInv kp d (k0 + 1) k0 d := KeptInv.start (fun j hj => by rw [HK.out]; show (!p d[j]!) = true; rw [hall j hj]; rfl) (by rw [HK.out]; show (!p d[k0]!) = false; rw [ht]; rfl)
    have hne1 : ((k0 : Int) == -1) = false := beq_eq_false_iff_ne.2 (by omega)
    have zr := Tryz.zeroValue9
    replace hH := Lib.hid hH
    replace hT := Lib.hid hT
    replace hI0 := Lib.hid hI0
    clear hall e1 ht
    go_enter Tryz.func111, Tryz.ntmps111
    go_wp2_with fail
    refine hIF.mono ?_
    rintro e w1 ⟨rfl, hb1⟩
    go_wp2_with fail
    go_loopg [5, 6, 7] d.size (fun gg s5 s6 _ wr => ∃ (i j : Nat) (dk : Array Str), s5 = .int .i64 i ∧ s6 = .int .i64 j ∧ j ≤ d.size ∧ d.size - j ≤ gg ∧ Kept blk w wr ∧ Hid (Holds encStr wr blk off dk) ∧ Hid (KeptInv kp d j i dk))
    case atStart => exact ⟨k0, k0 + 1, d, rfl, by go_num, by omega, by omega, Kept.of _ hb1, Lib.hid (holds_below hH.out hb1 hblk), hI0⟩
    case round =>
      obtain ⟨i, j, dk, rfl, rfl, hjd, hgg, hB, hHk, hI⟩ := hrel
      have hij := hI.out.lt
      have hds := hI.out.size
      have hblkr : blk < wr.heap.size := Nat.lt_of_lt_of_le hblk hB.size
      by_cases hlt : j < d.size
      · have hltz : (j : Int) < (d.size : Int) := by omega
        obtain ⟨cj, _⟩ := hHk.out j (by omega)
        rw [hI.out.high j (by omega)] at cj
        have hcall := hT.out wr hB _ (mem_arr hlt).1
        have hfut : Hid (∀ w', Below wr.heap.size wr w' → w'.cell? ⟨blk, off + i, none⟩ = some (encStr dk[i]!) ∧ w'.frozen? ⟨blk, off + i, none⟩ = false) := Lib.hid (fun w' hb => (holds_below hHk.out hb hblkr) i (by omega))
        generalize hu : d[j]! = u at cj hcall
        have HU := Lib.hid hu
        generalize dk[i]! = old at hfut
        clear hu
        cases hq : p u with
        | false =>
          rw [hq] at hcall
          have HQ := Lib.hid hq
          have HDS := Lib.hid hds
          clear hq hds
          go_wp2_with (go_at_fn g; refine hcall.mono ?_; rintro e w' ⟨rfl, hb2⟩; obtain ⟨ci, fi⟩ := hfut.out w' hb2)
          go_roundg (d.size - (j + 1))
          case measure => omega
          case rel =>
            refine ⟨i + 1, j + 1, dk.setIfInBounds i u, by go_num, by go_num, by omega, Nat.le_refl _, ?_, Lib.hid ?_, Lib.hid ?_⟩
            · exact (hB.step hb2).set _ _
            · exact holds_setCell (holds_below hHk.out hb2 hblkr) (by have := HDS.out; omega) u
            · have := hI.out.keep hlt (by rw [HK.out]; show (!p d[j]!) = true; rw [HU.out, HQ.out]; rfl)
              rwa [HU.out] at this
        | true =>
          rw [hq] at hcall
          have HQ := Lib.hid hq
          clear hq hds hfut
          go_wp2_with (go_at_fn g; refine hcall.mono ?_; rintro e w' ⟨rfl, hb2⟩)
          go_roundg (d.size - (j + 1))
          case measure => omega
          case rel => exact ⟨i, j + 1, dk, rfl, by go_num, by omega, Nat.le_refl _, hB.step hb2, Lib.hid (holds_below hHk.out hb2 hblkr), Lib.hid (hI.out.skip (by rw [HK.out]; show (!p d[j]!) = false; rw [HU.out, HQ.out]; rfl))⟩
      · obtain rfl : j = d.size := by omega
        have hltz : ¬ (d.size : Int) < (d.size : Int) := by omega
        have hcl : ∀ ty, (Builtin.clear_ #[35] ty #[.slice (some ⟨blk, off + i, none⟩) (d.size - i) (cap - i)]).run Tryz.prog wr = .ok (.tuple #[]) (wr.setCells blk (off + i) (List.replicate (d.size - i) (encStr []))) :=
          fun ty => Lib.run_clear_slice wr _ _ ty _ Tryz.underlying35 zr rfl rfl blk (off + i) _ _ (by omega) (fun t ht => by rw [show off + i + t = off + (i + t) by omega, (hHk.out (i + t) (by omega)).1]; rfl) (fun t ht => by rw [show off + i + t = off + (i + t) by omega]; exact (hHk.out (i + t) (by omega)).2)
        have HDS := Lib.hid hds
        clear hds
        go_wp2_with fail
        go_ret
        have hI := hI.out
        have hrow : wr.setCells blk (off + i) (List.replicate (d.size - i) (encStr [])) = putRow encStr wr blk off (keptUpTo kp d d.size ++ List.replicate (d.size - i) []).toArray := by
          rw [← hI.done [], ← putRow_setCells encStr wr blk off _ dk i (by simp; have := HDS.out; omega), putRow_self encStr wr blk off dk hHk.out, List.map_replicate]
        refine ⟨by rw [hI.len]; rfl, ?_, ?_⟩
        · show Kept blk w (wr.setCells blk (off + i) (List.replicate (d.size - i) (encStr [])))
          rw [hrow]
          exact hB.put _ _
        · show Holds encStr (wr.setCells blk (off + i) (List.replicate (d.size - i) (encStr []))) blk off _
          rw [hrow]
          apply holds_take (m := List.replicate (d.size - i) [])
          exact holds_putRow encStr wr blk off dk _ hHk.out (by simp [hI.len]; have := HDS.out; omega)
end Go.Proofs.Pw
