/- Qa: walks and plain laws, joined: SlDel SortLayS VerSort VoMath. Conditions: at each theorem. -/
import Derived.Test.YtnanklfbmmionaaGreatDoorQab
import Derived.Lib.SlKept
import Derived.Lib.SliceRun
import Derived.LoopTactic
import Derived.Sort.EncStr
import Derived.Deep.LoopGhost
import Derived.Shelf.Abstract
import Derived.RegionTactic
import Derived.BigRegion
import Derived.WalkKit
import Derived.Test.YtnanklfbmmionaaGreatDoorProg
import Derived.Shelf.SlSortCmp.NoneTotal
import Derived.Test.YtnanklfbmmionaaGreatDoorQao
import Derived.Test.YtnanklfbmmionaaGreatDoorQah
import Derived.Test.YtnanklfbmmionaaGreatDoorShelf
import Derived.Shelf.SlSortCmp.Whole1
import Derived.Stop.IfaceNil

namespace Go.Proofs.Pw
open Go.RowKit Go.Sort
open Go.Lib hiding intOf
theorem holds_below {w w' : World} {blk off : Nat} {d : Array Str} (h : Holds encStr w blk off d) (hb : Below w.heap.size w w') (hblk : blk < w.heap.size) : Holds encStr w' blk off d :=
  fun j hj => ⟨Below.cell_some hb (h j hj).1, (hb.frozen (p := ⟨blk, off + j, none⟩) hblk).trans (h j hj).2⟩
theorem holds_setCell {w : World} {blk off : Nat} {d : Array Str} (h : Holds encStr w blk off d) {i : Nat} (hi : i < d.size) (u : Str) : Holds encStr (w.setCell ⟨blk, off + i, none⟩ (encStr u)) blk off (d.setIfInBounds i u) := by
  intro j hj
  have hj' : j < d.size := by simpa using hj
  refine ⟨?_, by simp [(h j hj').2]⟩
  by_cases e : j = i
  · subst e
    rw [getElem!_set_same d j u hj', World.cell?_setCell_same _ _ _ (h j hj').1]
  · rw [getElem!_set_other d i j u e, World.cell?_setCell_other _ _ _ _ (by intro h2; injection h2 with _ h3 _; omega)]
    exact (h j hj').1
theorem below_putRow {B : Nat} {w w' : World} (h : Below B w w') {blk : Nat} (hb : B ≤ blk) (off : Nat) (d : Array Str) : Below B w (putRow encStr w' blk off d) := by
  refine h.trans ⟨rfl, rfl, rfl, by simp [putRow, mapBlock], fun k hk => ?_⟩
  simp only [putRow, mapBlock, Array.getElem?_modify]
  rw [if_neg (by omega)]
def TestsB (g : Nat) (lb : Array Value) (p : Str → Bool) (l : List Str) (base : Nat) (w : World) : Prop :=
  ∀ W, Below base w W → ∀ s ∈ l, Calls Tryz.prog g (#[encStr s] ++ lb) W fun e w'' => e = .returned (.bool (p s)) ∧ Below W.heap.size W w''
theorem mem_arr {d : Array Str} {j : Nat} (hj : j < d.size) : d[j]! ∈ d.toList ∧ d.toList[j]? = some d[j]! := by
  have e : d[j]! = d[j] := getElem!_pos d j hj
  rw [e]
  exact ⟨by simp, by simp [hj]⟩
set_option maxHeartbeats 400000 in
theorem indexFuncS_calls (g : Nat) (lb : Array Value) (eg : ∀ args w, (callFunc g args).run Tryz.prog w = .ok (.enter g args) w) (p : Str → Bool) (blk off cap base : Nat) (d : Array Str) (w : World) (hn : d.size ≤ 4000000001)
    (hbase : base ≤ w.heap.size) (_hblk : blk < w.heap.size) (hH : Holds encStr w blk off d) (hT : TestsB g lb p d.toList base w) :
    Calls Tryz.prog 170 #[.slice (some ⟨blk, off, none⟩) d.size cap, .func (.func g) #[] lb] w fun e w' => e = .returned (.int .i64 (findI p d.toList)) ∧ Below w.heap.size w w' := by
  replace hH := Lib.hid hH
  replace hT := Lib.hid hT
  go_enter Tryz.func170, Tryz.ntmps170
  go_wp2_with fail
  go_loopw [8] (fun i wr => ∃ k : Nat, k ≤ d.size ∧ i = .int .i64 k ∧ Below w.heap.size w wr ∧ Hid (∀ j, j < k → p d[j]! = false)) (fun i _ => d.size - (intOf i).toNat)
  case atStart => exact ⟨0, by omega, rfl, Below.refl _ _, Lib.hid (fun j hj => absurd hj (Nat.not_lt_zero _))⟩
  case round =>
    obtain ⟨k, hk, rfl, hb, HA⟩ := hrel
    by_cases hlt : k < d.size
    · have hck := Below.cell_some hb (hH.out k hlt).1
      have hcall := hT.out wr (hb.mono hbase) _ (mem_arr hlt).1
      have HF := Lib.hid (mem_arr hlt).2
      generalize hs : d[k]! = s at hck hcall HF
      have HS := Lib.hid hs
      clear hs
      cases hq : p s with
      | true =>
        rw [hq] at hcall
        have HR : Hid (findI p d.toList = k) := Lib.hid (findI_hit HF.out hq (fun j y hj hy => by
          have := (mem_arr (d := d) (j := j) (by omega)).2
          rw [hy] at this
          injection this with this
          rw [this]
          exact HA.out j hj))
        clear hq
        go_wp2_with (go_at_fn g; refine hcall.mono ?_; rintro e w' ⟨rfl, hb2⟩)
        go_ret
        rw [HR.out]
        exact ⟨rfl, below_step hb hb2⟩
      | false =>
        rw [hq] at hcall
        have HQ := Lib.hid hq
        clear hq
        go_wp2_with (go_at_fn g; refine hcall.mono ?_; rintro e w' ⟨rfl, hb2⟩)
        go_roundw
        case rel =>
          refine ⟨k + 1, by omega, by go_num, below_step hb hb2, Lib.hid (fun j hj => ?_)⟩
          by_cases e : j = k
          · subst e; rw [HS.out]; exact HQ.out
          · exact HA.out j (by omega)
        case measure => simp [intOf]; omega
    · obtain rfl : k = d.size := by omega
      have HR : Hid (findI p d.toList = -1) := Lib.hid (findI_none (fun j y hy => by
        have hj : j < d.size := by have := (List.getElem?_eq_some_iff.1 hy).1; simpa using this
        have := (mem_arr (d := d) hj).2
        rw [hy] at this
        injection this with this
        rw [this]
        exact HA.out j hj))
      go_wp2_with fail
      go_ret
      rw [HR.out]
      exact ⟨rfl, hb⟩
theorem findI_cases (p : Str → Bool) (d : Array Str) : (findI p d.toList = -1 ∧ ∀ j, j < d.size → p d[j]! = false) ∨ ∃ k, k < d.size ∧ findI p d.toList = (k : Int) ∧ p d[k]! = true ∧ ∀ j, j < k → p d[j]! = false := by
  cases h : d.toList.findIdx? p with
  | none =>
    left
    refine ⟨by unfold findI; rw [h], fun j hj => ?_⟩
    rw [List.findIdx?_eq_none_iff] at h
    exact h _ (mem_arr hj).1
  | some k =>
    right
    rw [List.findIdx?_eq_some_iff_getElem] at h
    obtain ⟨hk, h1, h2⟩ := h
    have hk' : k < d.size := by simpa using hk
    have e : ∀ j (hj : j < d.size), d.toList[j]'(by simpa using hj) = d[j]! := fun j hj => by rw [getElem!_pos d j hj]; simp
    refine ⟨k, hk', ?_, by rw [← e k hk']; exact h1, fun j hj => ?_⟩
    · exact findI_hit (mem_arr hk').2 (by rw [← e k hk']; exact h1) (fun j y hj hy => by
        have hjd : j < d.size := by omega
        have h3 := h2 j hj
        rw [e j hjd] at h3
        have := (mem_arr (d := d) hjd).2
        rw [hy] at this
        injection this with this
        rw [this]
        simpa using h3)
    · have h3 := h2 j hj
      rw [e j (by omega)] at h3
      simpa using h3
theorem holds_take {w : World} {blk off : Nat} {l m : List Str} (h : Holds encStr w blk off (l ++ m).toArray) : Holds encStr w blk off l.toArray := by
  intro j hj
  have hj' : j < l.length := by simpa using hj
  have := h j (by simp; omega)
  have e : (l ++ m).toArray[j]! = l.toArray[j]! := by
    rw [getElem!_pos _ j (by simp; omega), getElem!_pos _ j (by simpa using hj)]
    simp [List.getElem_append_left hj']
  rw [e] at this
  exact this
set_option maxHeartbeats 2000000 in
set_option maxRecDepth 100000 in
theorem deleteFunc_calls (g : Nat) (lb : Array Value) (eg : ∀ args w, (callFunc g args).run Tryz.prog w = .ok (.enter g args) w) (p : Str → Bool) (blk off cap base : Nat) (d : Array Str) (w : World) (hn : d.size ≤ 4000000001) (hcap : d.size ≤ cap)
    (hbase : base ≤ blk) (hblk : blk < w.heap.size) (hH : Holds encStr w blk off d) (hT : TestsB g lb p d.toList base w) :
    Calls Tryz.prog 111 #[.slice (some ⟨blk, off, none⟩) d.size cap, .func (.func g) #[] lb] w fun e w' =>
      e = .returned (.slice (some ⟨blk, off, none⟩) (d.toList.filter fun x => !p x).length cap) ∧ Below base w w' ∧ Holds encStr w' blk off (d.toList.filter fun x => !p x).toArray := by
  have hIF := indexFuncS_calls g lb eg p blk off cap base d w hn (by omega) hblk hH hT
  have hfil : (d.toList.filter fun x => !p x) = keptUpTo (fun j => !p d[j]!) d d.size := (keptUpTo_filter (fun x => !p x) d).symm
  obtain ⟨kp, HK⟩ : ∃ kp : Nat → Bool, Hid (kp = fun j => !p d[j]!) := ⟨_, Lib.hid rfl⟩
  rw [hfil, ← HK.out]
  clear hfil
  rcases findI_cases p d with ⟨e1, hall⟩ | ⟨k0, hk0, e1, ht, hall⟩
  · rw [e1] at hIF
    have e3 : keptUpTo kp d d.size = d.toList := by
      rw [keptUpTo_all kp d _ (fun j hj => by rw [HK.out]; show (!p d[j]!) = true; rw [hall j hj]; rfl)]
      apply List.ext_getElem?
      intro i
      by_cases hi : i < d.size
      · rw [(mem_arr hi).2]; simp [hi]
      · rw [List.getElem?_eq_none (by simp; omega), List.getElem?_eq_none (by simp; omega)]
    have E3 := Lib.hid e3
    replace hH := Lib.hid hH
    replace hT := Lib.hid hT
    clear hall e1 e3
    go_enter Tryz.func111, Tryz.ntmps111
    go_wp2_with fail
    refine hIF.mono ?_
    rintro e w1 ⟨rfl, hb1⟩
    go_wp2_with fail
    go_ret
    rw [E3.out]
    exact ⟨by simp, hb1.mono (by omega), by simpa using holds_below hH.out hb1 hblk⟩
  · rw [e1] at hIF
    have hI0 : KeptInv kp d (k0 + 1) k0 d := KeptInv.start (fun j hj => by rw [HK.out]; show (!p d[j]!) = true; rw [hall j hj]; rfl) (by rw [HK.out]; show (!p d[k0]!) = false; rw [ht]; rfl)
    have hne1 : ((k0 : Int) == -1) = false := beq_eq_false_iff_ne.2 (by omega)
    have zr := Tryz.zeroValue9
    replace hH := Lib.hid hH
    replace hT := Lib.hid hT
    replace hI0 := Lib.hid hI0
    clear hall e1 ht
    go_enter Tryz.func111, Tryz.ntmps111
    go_wp2_with fail
    refine hIF.mono ?_
    rintro e w1 ⟨rfl, hb1⟩
    go_wp2_with fail
    go_loopg [5, 6, 7] d.size (fun gg s5 s6 _ wr => ∃ (i j : Nat) (dk : Array Str), s5 = .int .i64 i ∧ s6 = .int .i64 j ∧ j ≤ d.size ∧ d.size - j ≤ gg ∧ Below base w wr ∧ Hid (Holds encStr wr blk off dk) ∧ Hid (KeptInv kp d j i dk))
    case atStart => exact ⟨k0, k0 + 1, d, rfl, by go_num, by omega, by omega, hb1.mono (by omega), Lib.hid (holds_below hH.out hb1 hblk), hI0⟩
    case round =>
      obtain ⟨i, j, dk, rfl, rfl, hjd, hgg, hB, hHk, hI⟩ := hrel
      have hij := hI.out.lt
      have hds := hI.out.size
      have hblkr : blk < wr.heap.size := Nat.lt_of_lt_of_le hblk hB.size
      by_cases hlt : j < d.size
      · have hltz : (j : Int) < (d.size : Int) := by omega
        obtain ⟨cj, _⟩ := hHk.out j (by omega)
        rw [hI.out.high j (by omega)] at cj
        have hcall := hT.out wr hB _ (mem_arr hlt).1
        have hfut : Hid (∀ w', Below wr.heap.size wr w' → w'.cell? ⟨blk, off + i, none⟩ = some (encStr dk[i]!) ∧ w'.frozen? ⟨blk, off + i, none⟩ = false) := Lib.hid (fun w' hb => (holds_below hHk.out hb hblkr) i (by omega))
        generalize hu : d[j]! = u at cj hcall
        have HU := Lib.hid hu
        generalize dk[i]! = old at hfut
        clear hu
        cases hq : p u with
        | false =>
          rw [hq] at hcall
          have HQ := Lib.hid hq
          have HDS := Lib.hid hds
          clear hq hds
          go_wp2_with (go_at_fn g; refine hcall.mono ?_; rintro e w' ⟨rfl, hb2⟩; obtain ⟨ci, fi⟩ := hfut.out w' hb2)
          go_roundg (d.size - (j + 1))
          case measure => omega
          case rel =>
            refine ⟨i + 1, j + 1, dk.setIfInBounds i u, by go_num, by go_num, by omega, Nat.le_refl _, ?_, Lib.hid ?_, Lib.hid ?_⟩
            · exact (hB.trans (hb2.mono (by omega))).setCell hbase _
            · exact holds_setCell (holds_below hHk.out hb2 hblkr) (by have := HDS.out; omega) u
            · have := hI.out.keep hlt (by rw [HK.out]; show (!p d[j]!) = true; rw [HU.out, HQ.out]; rfl)
              rwa [HU.out] at this
        | true =>
          rw [hq] at hcall
          have HQ := Lib.hid hq
          clear hq hds hfut
          go_wp2_with (go_at_fn g; refine hcall.mono ?_; rintro e w' ⟨rfl, hb2⟩)
          go_roundg (d.size - (j + 1))
          case measure => omega
          case rel => exact ⟨i, j + 1, dk, rfl, by go_num, by omega, Nat.le_refl _, hB.trans (hb2.mono (by omega)), Lib.hid (holds_below hHk.out hb2 hblkr), Lib.hid (hI.out.skip (by rw [HK.out]; show (!p d[j]!) = false; rw [HU.out, HQ.out]; rfl))⟩
      · obtain rfl : j = d.size := by omega
        have hltz : ¬ (d.size : Int) < (d.size : Int) := by omega
        have hcl : ∀ ty, (Builtin.clear_ #[35] ty #[.slice (some ⟨blk, off + i, none⟩) (d.size - i) (cap - i)]).run Tryz.prog wr = .ok (.tuple #[]) (wr.setCells blk (off + i) (List.replicate (d.size - i) (encStr []))) :=
          fun ty => Lib.run_clear_slice wr _ _ ty _ Tryz.underlying35 zr rfl rfl blk (off + i) _ _ (by omega) (fun t ht => by rw [show off + i + t = off + (i + t) by omega, (hHk.out (i + t) (by omega)).1]; rfl) (fun t ht => by rw [show off + i + t = off + (i + t) by omega]; exact (hHk.out (i + t) (by omega)).2)
        have HDS := Lib.hid hds
        clear hds
        go_wp2_with fail
        go_ret
        have hI := hI.out
        have hrow : wr.setCells blk (off + i) (List.replicate (d.size - i) (encStr [])) = putRow encStr wr blk off (keptUpTo kp d d.size ++ List.replicate (d.size - i) []).toArray := by
          rw [← hI.done [], ← putRow_setCells encStr wr blk off _ dk i (by simp; have := HDS.out; omega), putRow_self encStr wr blk off dk hHk.out, List.map_replicate]
        refine ⟨by rw [hI.len]; rfl, ?_, ?_⟩
        · show Below base w (wr.setCells blk (off + i) (List.replicate (d.size - i) (encStr [])))
          rw [hrow]
          exact below_putRow hB hbase _ _
        · show Holds encStr (wr.setCells blk (off + i) (List.replicate (d.size - i) (encStr []))) blk off _
          rw [hrow]
          apply holds_take (m := List.replicate (d.size - i) [])
          exact holds_putRow encStr wr blk off dk _ hHk.out (by simp [hI.len]; have := HDS.out; omega)
end Go.Proofs.Pw

namespace Go.Proofs.Pw
open Go.RowKit
def laysSortSR : Go.Shelf.Ren := ⟨fun | 6 => 167 | 14 => 225 | 15 => 158 | 20 => 272 | 21 => 273 | 22 => 274 | 23 => 275 | 24 => 276 | 25 => 277 | 26 => 278 | 27 => 279 | 28 => 220 | 29 => 221 | 46 => 299 | 47 => 267 | 48 => 268 | 49 => 300 | 50 => 301 | 57 => 308 | n => n,
  fun | 0 => 0 | 3 => 3 | 4 => 4 | 5 => 5 | 9 => 9 | 22 => 35 | 24 => 9 | 25 => 84 | 39 => 180 | 45 => 234 | 46 => 235 | 50 => 239 | 53 => 33 | 55 => 128 | 66 => 284 | 70 => 288 | 76 => 308 | 77 => 123 | n => n, fun n => n⟩
theorem laysSortS : Go.Proofs.SlLaysF.n6 Tryz.prog laysSortSR := {
  mixed := by kernel_rfl
  f6 := ⟨Tryz.f167.name, by decide, Tryz.func167.trans (congrArg some (by kernel_rfl))⟩
  f14 := ⟨Tryz.f225.name, by decide, Tryz.func225.trans (congrArg some (by kernel_rfl))⟩
  f15 := Tryz.func158.trans (congrArg some (by kernel_rfl))
  f20 := ⟨Tryz.f272.name, by decide, Tryz.func272.trans (congrArg some (by kernel_rfl))⟩
  f21 := ⟨Tryz.f273.name, by decide, Tryz.func273.trans (congrArg some (by kernel_rfl))⟩
  f22 := ⟨Tryz.f274.name, by decide, Tryz.func274.trans (congrArg some (by kernel_rfl))⟩
  f23 := ⟨Tryz.f275.name, by decide, Tryz.func275.trans (congrArg some (by kernel_rfl))⟩
  f24 := ⟨Tryz.f276.name, by decide, Tryz.func276.trans (congrArg some (by kernel_rfl))⟩
  f25 := ⟨Tryz.f277.name, by decide, Tryz.func277.trans (congrArg some (by kernel_rfl))⟩
  f26 := ⟨Tryz.f278.name, by decide, Tryz.func278.trans (congrArg some (by kernel_rfl))⟩
  f27 := ⟨Tryz.f279.name, by decide, Tryz.func279.trans (congrArg some (by kernel_rfl))⟩
  f28 := Tryz.func220.trans (congrArg some (by kernel_rfl))
  f29 := Tryz.func221.trans (congrArg some (by kernel_rfl))
  f46 := ⟨Tryz.f299.name, by decide, Tryz.func299.trans (congrArg some (by kernel_rfl))⟩
  f47 := Tryz.func267.trans (congrArg some (by kernel_rfl))
  f48 := Tryz.func268.trans (congrArg some (by kernel_rfl))
  f49 := ⟨Tryz.f300.name, by decide, Tryz.func300.trans (congrArg some (by kernel_rfl))⟩
  f50 := ⟨Tryz.f301.name, by decide, Tryz.func301.trans (congrArg some (by kernel_rfl))⟩
  f57 := ⟨Tryz.f308.name, by decide, Tryz.func308.trans (congrArg some (by kernel_rfl))⟩
  t0 := Tryz.underlying0
  a0 := Tryz.isAgg0
  z0 := Tryz.sizeOf0
  v0 := Tryz.zeroValue0
  t3 := Tryz.underlying3
  a3 := Tryz.isAgg3
  z3 := Tryz.sizeOf3
  v3 := Tryz.zeroValue3
  t4 := Tryz.underlying4
  a4 := Tryz.isAgg4
  z4 := Tryz.sizeOf4
  v4 := Tryz.zeroValue4
  t5 := Tryz.underlying5
  a5 := Tryz.isAgg5
  z5 := Tryz.sizeOf5
  v5 := Tryz.zeroValue5
  t9 := Tryz.underlying9
  a9 := Tryz.isAgg9
  z9 := Tryz.sizeOf9
  v9 := Tryz.zeroValue9
  t22 := Tryz.underlying35
  a22 := Tryz.isAgg35
  z22 := Tryz.sizeOf35
  v22 := Tryz.zeroValue35
  a24 := Tryz.isAgg9
  z24 := Tryz.sizeOf9
  t25 := Tryz.underlying84
  a25 := Tryz.isAgg84
  z25 := Tryz.sizeOf84
  v25 := Tryz.zeroValue84
  t39 := Tryz.underlying180
  a39 := Tryz.isAgg180
  z39 := Tryz.sizeOf180
  v39 := Tryz.zeroValue180
  t45 := Tryz.underlying234
  a45 := Tryz.isAgg234
  z45 := Tryz.sizeOf234
  v45 := Tryz.zeroValue234
  t46 := Tryz.underlying235
  a46 := Tryz.isAgg235
  z46 := Tryz.sizeOf235
  v46 := Tryz.zeroValue235
  t50 := Tryz.underlying239
  a50 := Tryz.isAgg239
  z50 := Tryz.sizeOf239
  v50 := Tryz.zeroValue239
  t53 := Tryz.underlying33
  a53 := Tryz.isAgg33
  z53 := Tryz.sizeOf33
  v53 := Tryz.zeroValue33
  t55 := Tryz.underlying128
  a55 := Tryz.isAgg128
  z55 := Tryz.sizeOf128
  v55 := Tryz.zeroValue128
  t66 := Tryz.underlying284
  a66 := Tryz.isAgg284
  z66 := Tryz.sizeOf284
  v66 := Tryz.zeroValue284
  t70 := Tryz.underlying288
  a70 := Tryz.isAgg288
  z70 := Tryz.sizeOf288
  v70 := Tryz.zeroValue288
  t76 := Tryz.underlying308
  a76 := Tryz.isAgg308
  z76 := Tryz.sizeOf308
  v76 := Tryz.zeroValue308
  t77 := Tryz.underlying123
  a77 := Tryz.isAgg123
  z77 := Tryz.sizeOf123
  v77 := Tryz.zeroValue123 }
end Go.Proofs.Pw

namespace Go.Proofs.Pw
open Go.RowKit Go.Sort
open Go.Lib hiding intOf
theorem bytes_back (b : ByteArray) : (⟨b.data.toList.toArray⟩ : ByteArray) = b := bytes_eq.1 rfl
theorem lstF_arr (n : Nat) (L : Nat → ByteArray) (j : Nat) (h : j < n) : (lstF n L).toArray[j]! = (L j).data.toList := by
  rw [getElem!_pos _ j (by rw [List.size_toArray, lstF_length]; exact h)]
  have := lstF_get n L j h
  rw [List.getElem?_eq_getElem (by rw [lstF_length]; exact h)] at this
  simpa using this
theorem strsAt_holds {w : World} {g off cap : Nat} {l : List Str} (h : Holds encStr w g off l.toArray) (hc : l.length ≤ cap) (hm : cap ≤ 9223372036854775807) : StrsAt w (.slice (some ⟨g, off, none⟩) l.length cap) l := by
  refine ⟨_, l.length, cap, fun j => ⟨(l.getD j []).toArray⟩, rfl, ?_, hc, hm, fun j hj => ⟨g, off, rfl, ?_⟩⟩
  · apply List.ext_getElem?
    intro i
    by_cases hi : i < l.length
    · rw [lstF_get _ _ i hi, List.getElem?_eq_getElem hi, List.getD_eq_getElem?_getD, List.getElem?_eq_getElem hi]; rfl
    · rw [List.getElem?_eq_none (by omega), List.getElem?_eq_none (by rw [lstF_length]; omega)]
  · have := (h j (by simpa using hj)).1
    rw [this]
    show some (encStr l.toArray[j]!) = some (Value.string ⟨(l.getD j []).toArray⟩)
    rw [getElem!_pos _ j (by simpa using hj), List.getD_eq_getElem?_getD, List.getElem?_eq_getElem hj]
    simp
theorem lstF_mem' {m : Nat} {M : Nat → ByteArray} {x : Str} : x ∈ lstF m M ↔ ∃ j, j < m ∧ (M j).data.toList = x := by simp [lstF]
theorem compactUpTo_length_le {α : Type} [Inhabited α] [DecidableEq α] (d : Array α) : (compactUpTo d d.size).length ≤ d.size := by
  unfold compactUpTo
  rw [List.length_map]
  exact Nat.le_trans (List.length_filter_le _ _) (by simp)
theorem cloneS_calls (a : Option Addr) (n cap : Nat) (L : Nat → ByteArray) (w : World) (hn : n ≤ 4000000000) (hc : ∀ j, j < n → ∃ b o, a = some ⟨b, o, none⟩ ∧ w.cell? ⟨b, o + j, none⟩ = some (.string (L j))) :
    Calls Tryz.prog 165 #[.slice a n cap] w fun e w' => ((e = .returned (.slice none 0 0) ∧ n = 0) ∨ ∃ g c, e = .returned (.slice (some ⟨g, 0, none⟩) n c) ∧ w.heap.size ≤ g ∧ g < w'.heap.size ∧ n ≤ c ∧ c ≤ 9223372036854775807 ∧ Holds encStr w' g 0 (lstF n L).toArray) ∧ Below w.heap.size w w' := by
  have key : ∀ (v' : Value) (w' : World) (zs : List ByteArray), zs.length = n → (∀ j, j < n → zs[j]? = some (L j)) → w'.ownsRow w.heap.size 9 1 v' n (zs.map Value.string) → v' ≠ .slice none 0 0 → ∃ g c, v' = .slice (some ⟨g, 0, none⟩) n c ∧ w.heap.size ≤ g ∧ g < w'.heap.size ∧ n ≤ c ∧ c ≤ 9223372036854775807 ∧ Holds encStr w' g 0 (lstF n L).toArray := by
    intro v' w' zs hz hL h hne
    rcases h.2 with ⟨rfl, _⟩ | ⟨g, c, cur, rfl, hb, hg, hnc, hm, hs, ht⟩
    · exact absurd rfl hne
    · refine ⟨g, c, rfl, hb, (Array.getElem?_eq_some_iff.1 hg).1, hnc, by unfold maxLen at hm; exact hm, fun j hj => ?_⟩
      have hj' : j < n := by simpa [lstF_length] using hj
      rw [Nat.zero_add, lstF_arr n L j hj']
      show _ = some (Value.string ⟨(L j).data.toList.toArray⟩) ∧ _
      rw [bytes_back]
      constructor
      · rw [cell_of_row w' g j cur 9 (0, 0) hg]
        have h1 : (zs.map Value.string)[j]? = some (.string (L j)) := by rw [List.getElem?_map, hL j hj']; rfl
        rw [← ht, List.getElem?_take, if_pos (by omega)] at h1
        simpa using h1
      · simp [World.frozen?, hg]
  by_cases h0 : n = 0
  · subst h0
    cases a with
    | none => exact (Tryz.slices_Clone_string_nil 0 cap w).mono fun e w' ⟨h1, h2⟩ => ⟨.inl ⟨h1, rfl⟩, by rw [h2]; exact Below.refl _ _⟩
    | some a =>
        refine (Tryz.slices_Clone_string_zero a cap w).mono fun e w' ⟨v', h1, h2, h3, h4⟩ => ?_
        obtain ⟨g, c, rfl, r⟩ := key v' w' [] rfl (fun j hj => absurd hj (Nat.not_lt_zero _)) h2 h3
        exact ⟨.inr ⟨g, c, h1, r⟩, h4⟩
  · obtain ⟨b, o, rfl, _⟩ := hc 0 (by omega)
    have hc2 : ∀ j, j < n → w.cell? ⟨b, o + j, none⟩ = some (.string (L j)) := fun j hj => by
      obtain ⟨b', o', e, h⟩ := hc j hj
      injection e with e
      injection e with e1 e2 _
      rw [e1, e2]; exact h
    have hzl : ((List.range n).map L).length = n := by simp
    have hzg : ∀ j, j < n → ((List.range n).map L)[j]? = some (L j) := fun j hj => by simp [hj]
    refine (Tryz.slices_Clone_string b o n cap ((List.range n).map L) w (by rw [hzl]; exact Nat.le_refl _) (by omega) (fun j hj => by
      rw [hzl] at hj
      rw [List.getD_eq_getElem?_getD, hzg j hj]
      exact hc2 j hj)).mono fun e w' ⟨v', h1, h2, h3, h4⟩ => ?_
    rw [List.take_of_length_le (by rw [hzl]; exact Nat.le_refl _)] at h2
    obtain ⟨g, c, rfl, r⟩ := key v' w' _ hzl hzg h2 h3
    exact ⟨.inr ⟨g, c, h1, r⟩, h4⟩
theorem indexFuncS_nil (f : Value) (cap : Nat) (w : World) :
    Calls Tryz.prog 170 #[.slice none 0 cap, f] w fun e w' => e = .returned (.int .i64 (-1)) ∧ w = w' := by
  go_enter Tryz.func170, Tryz.ntmps170
  go_wp2_with fail
  refine wp_loop_rounds 1 ?_
  rw [rounds_succ]
  go_wp2_with fail
  go_ret
  exact ⟨rfl, rfl⟩
theorem deleteFunc_nil (f : Value) (cap : Nat) (w : World) :
    Calls Tryz.prog 111 #[.slice none 0 cap, f] w fun e w' => e = .returned (.slice none 0 cap) ∧ w = w' := by
  go_enter Tryz.func111, Tryz.ntmps111
  go_wp2_with fail
  refine (indexFuncS_nil f cap _).mono ?_
  rintro e w' ⟨rfl, rfl⟩
  go_wp2_with fail
  go_ret
  exact ⟨rfl, rfl⟩
def OkV (s : Str) : Prop := verErr s = 0 ∧ s.length ≤ 1000000000
abbrev RV := {s : Str // OkV s}
instance : Inhabited RV := ⟨⟨[118, 48, 46, 48, 46, 48], by decide +kernel, by decide⟩⟩
def encRV (x : RV) : Value := encStr x.1
def cmpRV (x y : RV) : Int := verCmp x.1 y.1
theorem cmpRV_swo : SWO (ltOf cmpRV) := by
  have h := verCmp_ord
  refine ⟨fun x => ?_, fun x y z h1 h2 => ?_, fun x y z h1 h2 => ?_⟩
  · unfold ltOf cmpRV
    rw [h.self]; rfl
  · unfold ltOf cmpRV at *
    rw [decide_eq_true_iff] at *
    have a1 := h.tr x.1 y.1 z.1 (by omega) (by omega)
    rcases Int.lt_or_eq_of_le a1 with a2 | a2
    · exact a2
    · exfalso
      have a3 := h.zero a2
      have a4 := h.tr z.1 x.1 y.1 (by omega) (by omega)
      have a5 := (h.anti y.1 z.1).1 h2
      omega
  · unfold ltOf cmpRV at *
    rw [decide_eq_false_iff_not] at *
    intro h3
    have b1 := (h.anti x.1 z.1).1 h3
    have b2 := h.anti y.1 x.1
    have b3 := h.anti z.1 y.1
    have b4 := h.anti x.1 y.1
    have b5 := h.anti y.1 z.1
    have := h.tr z.1 y.1 x.1 (by omega) (by omega)
    omega
theorem encRV_one : Go.Proofs.OneCell encRV := fun _ => rfl
theorem below_sortW {B : Nat} {w0 w : World} (h : Below B w0 w) (hB : B ≤ w0.heap.size) {blk : Nat} (hb : B ≤ blk) (off m : Nat) (d : Array RV) (os : Array Obj) : Below B w0 (Go.Proofs.sortWorld encRV w blk off m d os) := by
  have hBs := h.size
  refine h.trans ⟨rfl, rfl, rfl, ?_, fun k hk => ?_⟩
  · simp [sortWorld, grow, putRow, mapBlock, Sort.ahead]
  · simp only [sortWorld, grow, putRow, mapBlock, Sort.ahead]
    by_cases hk2 : k < w.heap.size
    · rw [Array.getElem?_append_left (by simpa using hk2), Array.getElem?_modify, if_neg (by omega)]
    · exact absurd (Nat.lt_of_lt_of_le hk (Nat.le_trans hB hBs)) hk2
theorem sortV_calls (ks : List Nat) (A : Nat → Addr) (w0 w : World) (hE : EnvP ks A w0) (g cap : Nat) (d : Array RV) (hB : Below w0.heap.size w0 w) (hg0 : w0.heap.size ≤ g) (hg : g < w.heap.size) (hH : Holds encRV w g 0 d) (hsz : d.size ≤ 1000000) :
    Calls Tryz.prog 167 #[.slice (some ⟨g, 0, none⟩) d.size cap, .func (.func 117) #[] #[]] w fun e w' => e = .returned (.tuple #[]) ∧ ∃ d' : Array RV, d'.size = d.size ∧ (∀ x, x ∈ d'.toList ↔ x ∈ d.toList) ∧ (∀ i j, i < j → j < d'.size → verCmp d'[i]!.1 d'[j]!.1 ≤ 0) ∧ Holds encRV w' g 0 d' ∧ g < w'.heap.size ∧ Below w0.heap.size w0 w' := by
  have hcmp : CmpLays1 Tryz.prog 117 #[] encRV cmpRV g 0 d.size w := by
    intro m os dk hs x y
    refine (verCompareD ks A ⟨x.1.toArray⟩ ⟨y.1.toArray⟩ _ (hE.below (below_sortW hB (Nat.le_refl _) hg0 0 m dk os)) (by show x.1.length ≤ _; exact x.2.2) (by show y.1.length ≤ _; exact y.2.2) x.2.1 y.2.1).mono ?_
    rintro e w' ⟨rfl, hb⟩
    exact ⟨rfl, hb.grown⟩
  refine (Any.slices_SortFunc laysSortS encRV encRV_one cmpRV cmpRV_swo 117 #[] g 0 cap d w (Go.Proofs.enters_of Tryz.func117 (by kernel_rfl) rfl) hcmp hH hg (by omega)).mono ?_
  rintro e w' ⟨rfl, d', n, os, hp, hs, rfl⟩
  obtain ⟨hp1, _, hp3⟩ := hp
  have hH2 : Holds encRV (putRow encRV (Sort.ahead w n) g 0 d') g 0 d' := holds_putRow encRV _ g 0 d d' hH hp1
  refine ⟨rfl, d', hp1, fun x => ?_, fun i j hij hj => ?_, ?_, ?_, below_sortW hB (Nat.le_refl _) hg0 0 n d' os⟩
  · have := hp3.mem_iff (a := x)
    rw [Array.extract_eq_self_of_le (by omega), Array.extract_eq_self_of_le (Nat.le_refl _)] at this
    exact this
  · have h1 := hs i j (Nat.zero_le _) hij (by omega)
    unfold ltOf cmpRV at h1
    rw [decide_eq_false_iff_not] at h1
    have := verCmp_ord.anti d'[i]!.1 d'[j]!.1
    have := verCmp_ord.anti d'[j]!.1 d'[i]!.1
    omega
  · exact holds_grow encRV _ os g 0 d' (by simpa [putRow, mapBlock, Sort.ahead] using hg) hH2
  · simp [sortWorld, grow, putRow, mapBlock, Sort.ahead]; omega
theorem map_sub {P : Str → Prop} : ∀ (l : List Str), (∀ x ∈ l, P x) → ∃ m : List {s : Str // P s}, m.map (·.1) = l
  | [], _ => ⟨[], rfl⟩
  | a :: r, h => by
    obtain ⟨m, hm⟩ := map_sub r (fun x hx => h x (by simp [hx]))
    exact ⟨⟨a, h a (by simp)⟩ :: m, by simp [hm]⟩
theorem map_get (m : Array RV) (j : Nat) (hj : j < m.size) : (m.map (·.1))[j]! = (m[j]!).1 := by
  rw [getElem!_pos _ j (by simpa using hj), getElem!_pos m j hj]; simp
theorem holds_rv {w : World} {g off : Nat} {m : Array RV} : Holds encRV w g off m ↔ Holds encStr w g off (m.map (·.1)) := by
  constructor
  · intro h j hj
    have hj' : j < m.size := by simpa using hj
    rw [map_get m j hj']
    exact h j hj'
  · intro h j hj
    have := h j (by simpa using hj)
    rw [map_get m j hj] at this
    exact this
theorem vsort_of {l : List Str} {d : Array RV} (hm : ∀ x : RV, x ∈ d.toList ↔ x.1 ∈ l) (hl : ∀ x ∈ l, x.length ≤ 1000000000) (hs : ∀ i j, i < j → j < d.size → verCmp d[i]!.1 d[j]!.1 ≤ 0) : compactUpTo (d.map (·.1)) (d.map (·.1)).size = vsort l := by
  apply rises_ext verCmp_ord
  · apply compact_rises verCmp_ord
    · intro i j hij hj
      have hj' : j < d.size := by simpa using hj
      rw [map_get d i (by omega), map_get d j hj']
      exact hs i j hij hj'
    · intro i j hi hj he
      have hi' : i < d.size := by simpa using hi
      have hj' : j < d.size := by simpa using hj
      rw [map_get d i hi', map_get d j hj'] at he ⊢
      exact (verCmp_same d[i]!.2.1 d[j]!.2.1).1 he
  · exact vsort_rises l
  · intro x
    rw [compact_mem, vsort_mem]
    constructor
    · rintro ⟨i, hi, rfl⟩
      have hi' : i < d.size := by simpa using hi
      rw [map_get d i hi']
      exact ⟨(hm _).1 (by rw [getElem!_pos d i hi']; simp), d[i]!.2.1⟩
    · rintro ⟨h1, h2⟩
      have := (hm ⟨x, h2, hl x h1⟩).2 h1
      obtain ⟨i, hi, e⟩ := List.mem_iff_getElem.1 this
      have hi' : i < d.size := by simpa using hi
      refine ⟨i, by simpa using hi', ?_⟩
      rw [map_get d i hi', getElem!_pos d i hi']
      have e' : d[i] = ⟨x, h2, hl x h1⟩ := by simpa using e
      rw [e']
theorem verSort1_calls (ks : List Nat) (A : Nat → Addr) (s : ByteArray) (w : World) (hE : EnvP ks A w) (hs : s.size ≤ 1000000000) :
    Calls Tryz.prog 166 #[.string s] w fun e w' => e = .returned (.bool (!decide (verErr s.data.toList = 0))) ∧ Below w.heap.size w w' := by
  have hk := verCheck_calls ks A s w hE hs
  by_cases h0 : verErr s.data.toList = 0
  · rw [decide_eq_true h0]
    rw [h0, errV_zero] at hk
    clear h0
    replace hk := Lib.hid hk
    go_enter Tryz.func166, Tryz.ntmps166
    go_wp2_with fail
    refine hk.out.mono ?_
    rintro e w1 ⟨rfl, hb1⟩
    go_wp2_with fail
    go_ret
    exact ⟨rfl, hb1⟩
  · rw [decide_eq_false h0]
    rw [errV_pos A h0] at hk
    clear h0
    replace hk := Lib.hid hk
    go_enter Tryz.func166, Tryz.ntmps166
    go_wp2_with fail
    refine hk.out.mono ?_
    rintro e w1 ⟨rfl, hb1⟩
    go_wp2_with fail
    go_ret
    exact ⟨rfl, hb1⟩
theorem Tryz.enters_sort1 : ∀ args w, (callFunc 166 args).run Tryz.prog w = .ok (.enter 166 args) w := Go.Proofs.enters_of Tryz.func166 (by kernel_rfl) rfl
set_option maxHeartbeats 1000000 in
set_option maxRecDepth 100000 in
theorem verSort_calls (ks : List Nat) (A : Nat → Addr) (v : Value) (l : List Str) (w : World) (hE : EnvP ks A w) (hS : StrsAt w v l) (hn : l.length ≤ 1000000) (hl : ∀ x ∈ l, x.length ≤ 1000000000) :
    Calls Tryz.prog 106 #[v] w fun e w' => (∃ v', e = .returned v' ∧ StrsAt w' v' (vsort l)) ∧ Below w.heap.size w w' := by
  obtain ⟨a, n, cap, L, rfl, rfl, hnc, hcap, hc⟩ := hS
  rw [lstF_length] at hn
  have hcl := cloneS_calls a n cap L w (by omega) hc
  have hsn := AnyF.slices_SortFunc_none (P := Tryz.prog) (ρ := laysSortSR) { laysSortS with }
  have hce := Tryz.slices_Compact_string_empty
  have HL := Lib.hid hl
  replace hcl := Lib.hid hcl
  replace hsn := Lib.hid hsn
  replace hce := Lib.hid hce
  clear hc hl
  go_enter Tryz.func106, Tryz.ntmps106
  go_wp2_with fail
  refine hcl.out.mono ?_
  rintro e w1 ⟨h, hb1⟩
  rcases h with ⟨rfl, rfl⟩ | ⟨g, c, rfl, h1, h2, h3, h4, h5⟩
  · go_wp2_with fail
    refine (deleteFunc_nil _ 0 _).mono ?_
    rintro e w' ⟨rfl, rfl⟩
    go_wp2_with fail
    refine (hsn.out none 0 _ _).mono ?_
    rintro e w' ⟨rfl, rfl⟩
    go_wp2_with fail
    refine (hce.out none 0 _).mono ?_
    rintro e w' ⟨rfl, rfl⟩
    go_wp2_with fail
    go_ret
    exact ⟨⟨_, rfl, StrsAt.nil _⟩, hb1⟩
  · have hdz : (lstF n L).toArray.size = n := by rw [List.size_toArray, lstF_length]
    have hT : TestsB 166 #[] (fun s => !decide (verErr s = 0)) (lstF n L).toArray.toList w.heap.size w1 := by
      intro W hB s hs
      obtain ⟨j, hj, rfl⟩ := lstF_mem'.1 (by simpa using hs)
      have := verSort1_calls ks A (L j) W (hE.below (hb1.trans hB)) (by rw [size_eq]; exact HL.out _ (lstF_mem'.2 ⟨j, hj, rfl⟩))
      rw [← bytes_back (L j)] at this
      exact this
    have hD := deleteFunc_calls 166 #[] Tryz.enters_sort1 (fun s => !decide (verErr s = 0)) g 0 c w.heap.size (lstF n L).toArray w1 (by rw [hdz]; omega) (by rw [hdz]; exact h3) h1 h2 h5 hT
    rw [hdz] at hD
    have hfe : ((lstF n L).toArray.toList.filter fun x => !(!decide (verErr x = 0))) = (lstF n L).filter fun x => decide (verErr x = 0) := by
      congr 1; funext x; simp
    simp only [hfe] at hD
    obtain ⟨m, hm⟩ := map_sub (P := OkV) ((lstF n L).filter fun x => decide (verErr x = 0)) (fun x hx => ⟨by have := (List.mem_filter.1 hx).2; simpa using this, HL.out x (List.mem_filter.1 hx).1⟩)
    have hml : ((lstF n L).filter fun x => decide (verErr x = 0)).length = m.length := by rw [← hm, List.length_map]
    have hmn : m.length ≤ n := by
      have := List.length_filter_le (fun x => decide (verErr x = 0)) (lstF n L)
      rw [lstF_length, hml] at this
      exact this
    have hma : m.toArray.map (·.1) = ((lstF n L).filter fun x => decide (verErr x = 0)).toArray := by rw [← hm]; simp
    rw [hml, ← hma] at hD
    have hmem : ∀ x : RV, x ∈ m ↔ x.1 ∈ lstF n L := by
      intro x
      constructor
      · intro hx
        have : x.1 ∈ m.map (·.1) := List.mem_map.2 ⟨x, hx, rfl⟩
        rw [hm] at this
        exact (List.mem_filter.1 this).1
      · intro hx
        have : x.1 ∈ m.map (·.1) := by rw [hm]; exact List.mem_filter.2 ⟨hx, by simpa using x.2.1⟩
        obtain ⟨y, hy, e⟩ := List.mem_map.1 this
        have : y = x := Subtype.ext e
        rw [← this]; exact hy
    have HM := Lib.hid hmem
    replace hD := Lib.hid hD
    clear hT hfe hm hma hmem hcl
    go_wp2_with fail
    refine hD.out.mono ?_
    rintro e w2 ⟨rfl, hb2, h6⟩
    have hb02 := hb1.trans hb2
    have hso := sortV_calls ks A w w2 hE g c m.toArray hb02 h1 (Nat.lt_of_lt_of_le h2 hb2.size) (holds_rv.2 h6) (by simp; omega)
    rw [List.size_toArray] at hso
    replace hso := Lib.hid hso
    clear hD h6
    go_wp2_with fail
    refine hso.out.mono ?_
    rintro e w3 ⟨rfl, d', hd1, hd2, hd3, hd4, hd5, hb3⟩
    have hdm : (d'.map (·.1)).size = m.length := by rw [Array.size_map, hd1]
    have hH3 := holds_rv.1 hd4
    have hco := Tryz.slices_Compact_string_arr g 0 c (d'.map (·.1)) w3 hH3 (by rw [hdm]; omega) (by rw [hdm]; omega)
    have hv := vsort_of (l := lstF n L) (d := d') (fun x => by rw [hd2 x]; exact HM.out x) HL.out hd3
    rw [hv, hdm] at hco
    have hvl : (vsort (lstF n L)).length ≤ m.length := by
      rw [← hv, ← hdm]
      exact compactUpTo_length_le _
    replace hco := Lib.hid hco
    clear hso hv hd2 hd3 hd4 hsn hce
    go_wp2_with fail
    refine hco.out.mono ?_
    rintro e w4 ⟨rfl, q, rfl⟩
    go_wp2_with fail
    go_ret
    refine ⟨⟨_, rfl, ?_⟩, below_putRow (below_drewN hb3 q) h1 0 _⟩
    refine strsAt_holds (holds_take (m := List.replicate (m.length - (vsort (lstF n L)).length) []) ?_) (by omega) h4
    have hH4 : Holds encStr (Sort.ahead w3 q) g 0 (d'.map (·.1)) := fun j hj => hH3 j hj
    exact holds_putRow encStr (Sort.ahead w3 q) g 0 _ _ hH4 (by simp [hd1]; omega)
end Go.Proofs.Pw

namespace Go.Proofs.Pw
open Go.Lib hiding intOf
end Go.Proofs.Pw
