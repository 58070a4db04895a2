/- St: walks and plain laws, joined: PathsOf Fresh SlDelK Query3 Picked CrcMath MvsMath MvsMath2 LeastMath UpMath PkgMath FileRefMath SumMath. Conditions: at each theorem. -/
import Derived.Test.YtglhgbcebpeomaaGreatDoorStm
import Derived.Test.YtglhgbcebpeomaaGreatDoorStj
import Derived.Test.YtglhgbcebpeomaaGreatDoorStg
import Derived.Deep.AppendLies
import Derived.Deep.RegionLaw
import Derived.Test.YtglhgbcebpeomaaGreatDoorStl
import Derived.Deep.RegionHeld2
import Derived.Test.YtglhgbcebpeomaaGreatDoorSta
import Derived.Laws.BitsAllLaws
import Derived.Test.YtglhgbcebpeomaaGreatDoorStc
import Derived.Test.YtglhgbcebpeomaaGreatDoorStb

namespace Go.Proofs.Pw
open Go.RowKit
open Go.Lib hiding intOf
end Go.Proofs.Pw

namespace Go.Proofs.Pw
open Go.RowKit Go.Sort
open Go.Lib hiding intOf
def FreshS (B : Nat) (w : World) (v : Value) (l : List Str) : Prop :=
  (v = .slice none 0 0 ∧ l = []) ∨ ∃ g c, v = .slice (some ⟨g, 0, none⟩) l.length c ∧ B ≤ g ∧ g < w.heap.size ∧ l.length ≤ c ∧ c ≤ 9223372036854775807 ∧ Holds encStr w g 0 l.toArray
theorem FreshS.strs {B : Nat} {w : World} {v : Value} {l : List Str} (h : FreshS B w v l) : StrsAt w v l := by
  rcases h with ⟨rfl, rfl⟩ | ⟨g, c, rfl, _, _, h1, h2, h3⟩
  · exact StrsAt.nil w
  · exact strsAt_holds h3 h1 h2
theorem FreshS.mono {B B' : Nat} {w : World} {v : Value} {l : List Str} (h : FreshS B w v l) (hb : B' ≤ B) : FreshS B' w v l := by
  rcases h with h | ⟨g, c, h0, h1, r⟩
  · exact .inl h
  · exact .inr ⟨g, c, h0, by omega, r⟩
theorem FreshS.below {B : Nat} {w w' : World} {v : Value} {l : List Str} (h : FreshS B w v l) (hb : Below w.heap.size w w') : FreshS B w' v l := by
  rcases h with h | ⟨g, c, h0, h1, h2, h3, h4, h5⟩
  · exact .inl h
  · exact .inr ⟨g, c, h0, h1, Nat.lt_of_lt_of_le h2 hb.size, h3, h4, fun j hj => ⟨Below.cell_some hb (h5 j hj).1, (hb.frozen (p := ⟨g, 0 + j, none⟩) h2).trans (h5 j hj).2⟩⟩
end Go.Proofs.Pw

namespace Go.Proofs.Pw
open Go.RowKit Go.Sort
open Go.Lib hiding intOf
structure Kept (blk : Nat) (w W : World) : Prop where
  os : W.os = w.os
  tape : W.tape = w.tape
  output : W.output = w.output
  size : w.heap.size ≤ W.heap.size
  all : ∀ k, k < w.heap.size → k ≠ blk → W.heap[k]? = w.heap[k]?
theorem Kept.of (blk : Nat) {w W : World} (h : Below w.heap.size w W) : Kept blk w W := ⟨h.os, h.tape, h.output, h.size, fun k hk _ => h.block k hk⟩
theorem Kept.below {blk B : Nat} {w W : World} (h : Kept blk w W) (h1 : B ≤ blk) (h2 : B ≤ w.heap.size) : Below B w W := ⟨h.os, h.tape, h.output, h.size, fun k hk => h.all k (by omega) (by omega)⟩
theorem Kept.step {blk : Nat} {w W W' : World} (h : Kept blk w W) (g : Below W.heap.size W W') : Kept blk w W' :=
  ⟨g.os.trans h.os, g.tape.trans h.tape, g.output.trans h.output, Nat.le_trans h.size g.size, fun k hk hn => (g.block k (Nat.lt_of_lt_of_le hk h.size)).trans (h.all k hk hn)⟩
theorem Kept.trans {blk : Nat} {w W W' : World} (h : Kept blk w W) (g : Kept blk W W') : Kept blk w W' :=
  ⟨g.os.trans h.os, g.tape.trans h.tape, g.output.trans h.output, Nat.le_trans h.size g.size, fun k hk hn => (g.all k (Nat.lt_of_lt_of_le hk h.size) hn).trans (h.all k hk hn)⟩
theorem Kept.set {blk : Nat} {w W : World} (h : Kept blk w W) (j : Nat) (v : Value) : Kept blk w (W.setCell ⟨blk, j, none⟩ v) :=
  h.trans ⟨rfl, rfl, rfl, by simp [World.setCell], fun k _ hn => Below.heap_setCell _ _ _ _ hn⟩
theorem Kept.put {blk : Nat} {w W : World} (h : Kept blk w W) (off : Nat) (d : Array Str) : Kept blk w (putRow encStr W blk off d) :=
  h.trans ⟨rfl, rfl, rfl, by simp [putRow, mapBlock], fun k _ hn => by
    simp only [putRow, mapBlock, Array.getElem?_modify]
    rw [if_neg (fun e => hn e.symm)]⟩
theorem Kept.cell {blk : Nat} {w W : World} (h : Kept blk w W) {a : Addr} {v : Value} (hc : w.cell? a = some v) (hn : a.block ≠ blk) : W.cell? a = some v := by
  have h1 := h.all a.block (World.block_lt_of_cell? w a hc) hn
  rw [← hc]
  exact World.cell?_of_block h1
end Go.Proofs.Pw

namespace Go.Proofs.Pw
open Go.RowKit Go.Sort
open Go.Lib hiding intOf
theorem FaultAt.bare {A : Nat → Addr} {w : World} {c : Nat} : FaultAt A w (errV A c) (c, -1) := by
  by_cases h : c = 0
  · subst h; exact .inl ⟨rfl, rfl, rfl⟩
  · exact .inr (.inl ⟨h, rfl, rfl⟩)
end Go.Proofs.Pw

namespace Go.Proofs.Pw
open Go.RowKit Go.Sort
open Go.Lib hiding intOf
def sDot : ByteArray := ⟨#[46]⟩
def sX : ByteArray := ⟨#[120]⟩
def v020rc : ByteArray := ⟨#[118, 48, 46, 50, 46, 48, 45, 114, 99]⟩
def s3P (j : Nat) : ByteArray := if j < 2 then sA else sB
def s3V (j : Nat) : ByteArray := if j = 0 then v100 else if j = 1 then v110 else if j = 2 then v010 else v020rc
def s3R (j : Nat) : List Md := if j = 1 then [(sB.data.toList, v010.data.toList)] else []
def s3K (j : Nat) : List Str := if j = 0 then [sDot.data.toList, sX.data.toList] else if j = 1 then [sDot.data.toList] else []
def s3L : List En := enF 4 s3P s3V s3R s3K smB
theorem s3_short : ShortI s3L := by
  refine ⟨by decide +kernel, ?_, ?_, ?_⟩
  · decide +kernel
  · intro e he
    have : ∀ e ∈ s3L, e.reqs.length ≤ 1000000 ∧ ∀ m ∈ e.reqs, m.1.length ≤ 1000000 ∧ m.2.length ≤ 1000000 := by decide +kernel
    exact this e he
  · decide +kernel
def s3Rv (N j : Nat) : Value := if j = 1 then .slice (some ⟨N + 1, 0, none⟩) 1 1 else .slice none 0 0
def s3Kv (N j : Nat) : Value := if j = 0 then .slice (some ⟨N, 0, none⟩) 2 2 else if j = 1 then .slice (some ⟨N + 2, 0, none⟩) 1 1 else .slice none 0 0
def s3W0 (w : World) : World := ((w.alloc (.cells #[.string sDot, .string sX] 9)).alloc (.cells #[.string sB, .string v010] 29)).alloc (.cells #[.string sDot] 9)
def s3C (N : Nat) : List Value := [.string sA, .string v100, .slice none 0 0, .slice (some ⟨N, 0, none⟩) 2 2, .bool false, .string sA, .string v110, .slice (some ⟨N + 1, 0, none⟩) 1 1, .slice (some ⟨N + 2, 0, none⟩) 1 1, .bool false, .string sB, .string v010, .slice none 0 0, .slice none 0 0, .bool false, .string sB, .string v020rc, .slice none 0 0, .slice none 0 0, .bool false]
def s3W (w : World) : World := (s3W0 w).alloc (.cells (s3C w.heap.size).toArray 37)
theorem s3_size (w : World) : (s3W0 w).heap.size = w.heap.size + 3 := by unfold s3W0; simp
theorem s3W_below (w : World) : Below w.heap.size w (s3W w) := below_step (below_step (below_step (below_alloc w _) (below_alloc _ _)) (below_alloc _ _)) (below_alloc _ _)
theorem s3W_in (w : World) : EntsIn (s3W w) (some ⟨w.heap.size + 3, 0, none⟩) 4 4 s3P s3V s3R s3K smB (s3Rv w.heap.size) (s3Kv w.heap.size) := by
  have hc : ∀ (c : Nat) (u : Value), (s3C w.heap.size)[c]? = some u → (s3W w).cell? ⟨w.heap.size + 3, c, none⟩ = some u := fun c u h => new_cell (s3W0 w) (s3C w.heap.size) 37 (s3_size w) h
  have hb3 : Below (s3W0 w).heap.size (s3W0 w) (s3W w) := below_alloc _ _
  have hb2 := below_step (below_alloc ((w.alloc (.cells #[.string sDot, .string sX] 9)).alloc (.cells #[.string sB, .string v010] 29)) (.cells #[.string sDot] 9)) hb3
  have hb1 := below_step (below_alloc (w.alloc (.cells #[.string sDot, .string sX] 9)) (.cells #[.string sB, .string v010] 29)) hb2
  refine ⟨Nat.le_refl _, by decide, fun j hj => ⟨w.heap.size + 3, 0, rfl, ?_⟩, fun j hj => ?_, fun j hj => ?_⟩
  · match j, hj with
    | 0, _ => exact ⟨hc _ _ rfl, hc _ _ rfl, hc _ _ rfl, hc _ _ rfl, hc _ _ rfl⟩
    | 1, _ => exact ⟨hc _ _ rfl, hc _ _ rfl, hc _ _ rfl, hc _ _ rfl, hc _ _ rfl⟩
    | 2, _ => exact ⟨hc _ _ rfl, hc _ _ rfl, hc _ _ rfl, hc _ _ rfl, hc _ _ rfl⟩
    | 3, _ => exact ⟨hc _ _ rfl, hc _ _ rfl, hc _ _ rfl, hc _ _ rfl, hc _ _ rfl⟩
  · match j, hj with
    | 0, _ => exact ModsAt.nil _
    | 2, _ => exact ModsAt.nil _
    | 3, _ => exact ModsAt.nil _
    | 1, _ =>
      have h0 := Below.cell_some hb2 (new_cell (w.alloc (.cells #[.string sDot, .string sX] 9)) [.string sB, .string v010] 29 (World.size_alloc _ _) (c := 0) rfl)
      have h1 := Below.cell_some hb2 (new_cell (w.alloc (.cells #[.string sDot, .string sX] 9)) [.string sB, .string v010] 29 (World.size_alloc _ _) (c := 1) rfl)
      refine ⟨some ⟨w.heap.size + 1, 0, none⟩, 1, 1, fun _ => sB, fun _ => v010, rfl, rfl, Nat.le_refl _, by decide, fun i hi => ?_⟩
      obtain rfl : i = 0 := by omega
      exact ⟨w.heap.size + 1, 0, rfl, h0, h1⟩
  · match j, hj with
    | 2, _ => exact StrsAt.nil _
    | 3, _ => exact StrsAt.nil _
    | 0, _ =>
      have h0 := Below.cell_some hb1 (new_cell w [.string sDot, .string sX] 9 rfl (c := 0) rfl)
      have h1 := Below.cell_some hb1 (new_cell w [.string sDot, .string sX] 9 rfl (c := 1) rfl)
      refine ⟨some ⟨w.heap.size, 0, none⟩, 2, 2, fun i => if i = 0 then sDot else sX, rfl, rfl, Nat.le_refl _, by decide, fun i hi => ?_⟩
      have hi2 : i = 0 ∨ i = 1 := by omega
      rcases hi2 with rfl | rfl
      · exact ⟨w.heap.size, 0, rfl, h0⟩
      · exact ⟨w.heap.size, 0, rfl, h1⟩
    | 1, _ =>
      have h0 := Below.cell_some hb3 (new_cell ((w.alloc (.cells #[.string sDot, .string sX] 9)).alloc (.cells #[.string sB, .string v010] 29)) [.string sDot] 9 (N := w.heap.size + 2) (by simp) (c := 0) rfl)
      refine ⟨some ⟨w.heap.size + 2, 0, none⟩, 1, 1, fun _ => sDot, rfl, rfl, Nat.le_refl _, by decide, fun i hi => ?_⟩
      obtain rfl : i = 0 := by omega
      exact ⟨w.heap.size + 2, 0, rfl, h0⟩
set_option maxHeartbeats 2000000 in
set_option maxRecDepth 100000 in
theorem small3_calls (w : World) :
    Calls Tryz.prog 50 #[] w fun e w' => e = .returned (.slice (some ⟨w.heap.size + 3, 0, none⟩) 4 4) ∧ w' = s3W w := by
  go_enter Tryz.func50, Tryz.ntmps50
  go_wp2_with fail
  go_ret
  exact ⟨rfl, rfl⟩
end Go.Proofs.Pw

namespace Go.Proofs.Pw
open Go.Lib hiding intOf
def crcBit (c : Nat) : Nat := if c % 2 = 1 then (c / 2) ^^^ 3988292384 else c / 2
def crcBits : Nat → Nat → Nat
  | 0, c => c
  | n + 1, c => crcBit (crcBits n c)
def crcRun (s : Str) : Nat := s.foldl (fun c b => crcBits 8 (c ^^^ b.toNat)) 4294967295
def crcF (s : Str) : Nat := crcRun s ^^^ 4294967295
theorem crcRun_snoc (s : Str) (b : UInt8) : crcRun (s ++ [b]) = crcBits 8 (crcRun s ^^^ b.toNat) := by
  unfold crcRun
  rw [List.foldl_append]
  rfl
theorem xor_32 {a b : Nat} (ha : a < 4294967296) (hb : b < 4294967296) : a ^^^ b < 4294967296 := Nat.xor_lt_two_pow (n := 32) ha hb
theorem crcBit_32 {c : Nat} (h : c < 4294967296) : crcBit c < 4294967296 := by
  unfold crcBit
  split
  · exact xor_32 (by omega) (by decide)
  · omega
theorem crcBits_32 {c : Nat} (h : c < 4294967296) : ∀ n, crcBits n c < 4294967296
  | 0 => h
  | n + 1 => crcBit_32 (crcBits_32 h n)
theorem byte_32 (b : UInt8) : b.toNat < 4294967296 := by have := b.toNat_lt; omega
theorem crcRun_32 (s : Str) : crcRun s < 4294967296 := by
  have key : ∀ (s : Str) (c : Nat), c < 4294967296 → s.foldl (fun c b => crcBits 8 (c ^^^ b.toNat)) c < 4294967296 := by
    intro s
    induction s with
    | nil => intro c h; exact h
    | cons b r ih =>
      intro c h
      rw [List.foldl_cons]
      exact ih _ (crcBits_32 (xor_32 h (byte_32 b)) 8)
  exact key s _ (by decide)
theorem crcF_32 (s : Str) : crcF s < 4294967296 := xor_32 (crcRun_32 s) (by decide)
theorem and_one (c : Nat) : c &&& 1 = c % 2 := Nat.and_one_is_mod c
theorem crcBit_u32 {c : Nat} (h : c < 4294967296) : bits .xor .u32 ((c : Int) / 2) (IntKind.u32.wrap (3988292384 * bits .and .u32 (c : Int) 1)) = ((crcBit c : Nat) : Int) := by
  have h1 : bits .and .u32 (c : Int) 1 = ((c % 2 : Nat) : Int) := by
    rw [show (1 : Int) = ((1 : Nat) : Int) from rfl, u32_and_nat c 1 h (by decide), and_one]
  rw [h1, show (c : Int) / 2 = ((c / 2 : Nat) : Int) by omega]
  unfold crcBit
  by_cases h2 : c % 2 = 1
  · rw [if_pos h2, h2, show IntKind.u32.wrap (3988292384 * ((1 : Nat) : Int)) = ((3988292384 : Nat) : Int) by decide]
    exact u32_xor_nat _ _ (by omega) (by decide)
  · have h3 : c % 2 = 0 := by omega
    rw [if_neg h2, h3, show IntKind.u32.wrap (3988292384 * ((0 : Nat) : Int)) = ((0 : Nat) : Int) by decide, u32_xor_nat _ _ (by omega) (by decide), Nat.xor_zero]
end Go.Proofs.Pw

namespace Go.Proofs.Pw
open Go.Lib hiding intOf
def grow1 (out : List Md) (m : Md) : List Md := if out.getLast?.map (·.1) = some m.1 then out.dropLast ++ [m] else out ++ [m]
def greatest (l : List Md) : List Md := l.foldl grow1 []
def Climbs (l : List Md) : Prop := l.Pairwise fun a b => modCmp a b ≤ 0
theorem climbs_of_rises {l : List Md} (h : Rises modCmp l) : Climbs l := h.imp fun {a b} h => by omega
theorem modCmp_path {a b : Md} (h : modCmp a b ≤ 0) : compareBytes a.1 b.1 < 0 ∨ (a.1 = b.1 ∧ verCmp a.2 b.2 ≤ 0) := by
  unfold modCmp at h
  rw [orI_le] at h
  rcases h with h | ⟨h1, h2⟩
  · exact .inl h
  · exact .inr ⟨compareBytes_zero h1, h2⟩
theorem path_self (p : Str) : ¬ compareBytes p p < 0 := by rw [compareBytes_self]; decide
theorem last_some {α : Type} {l : List α} {y : α} (h : l.getLast? = some y) : ∃ hne : l ≠ [], l.getLast hne = y := by
  have hne : l ≠ [] := fun e => by rw [e] at h; cases h
  rw [List.getLast?_eq_some_getLast hne] at h
  exact ⟨hne, Option.some.inj h⟩
structure Great (l out : List Md) : Prop where
  rise : out.Pairwise fun a b => compareBytes a.1 b.1 < 0
  sub : ∀ m ∈ out, m ∈ l
  over : ∀ m ∈ l, ∃ x ∈ out, x.1 = m.1 ∧ verCmp m.2 x.2 ≤ 0
theorem great_nil : Great [] [] := ⟨by simp, by simp, by simp⟩
theorem great_snoc {l out : List Md} {m : Md} (h : Great l out) (hc : Climbs (l ++ [m])) : Great (l ++ [m]) (grow1 out m) := by
  have hle : ∀ x ∈ l, modCmp x m ≤ 0 := fun x hx => (List.pairwise_append.1 hc).2.2 x hx m (by simp)
  have hself : verCmp m.2 m.2 ≤ 0 := by rw [verCmp_ord.self]; decide
  unfold grow1
  by_cases hl : out.getLast?.map (·.1) = some m.1
  · rw [if_pos hl]
    obtain ⟨y, hy, e⟩ : ∃ y, out.getLast? = some y ∧ y.1 = m.1 := by
      cases h1 : out.getLast? with
      | none => rw [h1] at hl; cases hl
      | some y => rw [h1] at hl; exact ⟨y, rfl, by simpa using hl⟩
    obtain ⟨hne, hlast⟩ := last_some hy
    have hout : out = out.dropLast ++ [y] := by rw [← hlast]; exact (List.dropLast_concat_getLast hne).symm
    have hp := h.rise
    rw [hout, List.pairwise_append] at hp
    refine ⟨?_, fun x hx => ?_, fun x hx => ?_⟩
    · rw [List.pairwise_append]
      refine ⟨hp.1, by simp, fun a ha b hb => ?_⟩
      simp at hb
      subst hb
      rw [← e]
      exact hp.2.2 a ha y (by simp)
    · rcases List.mem_append.1 hx with h1 | h1
      · exact List.mem_append.2 (.inl (h.sub x (List.dropLast_subset _ h1)))
      · exact List.mem_append.2 (.inr h1)
    · rcases List.mem_append.1 hx with h1 | h1
      · obtain ⟨z, hz, e1, e2⟩ := h.over x h1
        rw [hout] at hz
        rcases List.mem_append.1 hz with h2 | h2
        · exact ⟨z, List.mem_append.2 (.inl h2), e1, e2⟩
        · simp at h2
          subst h2
          refine ⟨m, by simp, by rw [← e, e1], ?_⟩
          rcases modCmp_path (hle x h1) with h3 | h3
          · rw [← e1, e] at h3
            exact absurd h3 (path_self _)
          · exact h3.2
      · simp at h1
        subst h1
        exact ⟨x, by simp, rfl, hself⟩
  · rw [if_neg hl]
    have hlt : ∀ a ∈ out, compareBytes a.1 m.1 < 0 := by
      intro a ha
      rcases modCmp_path (hle a (h.sub a ha)) with h1 | ⟨h1, _⟩
      · exact h1
      · exfalso
        obtain ⟨y, hy⟩ : ∃ y, out.getLast? = some y := by
          cases h2 : out.getLast? with
          | none => rw [List.getLast?_eq_none_iff] at h2; subst h2; simp at ha
          | some y => exact ⟨y, rfl⟩
        obtain ⟨hne, hlast⟩ := last_some hy
        have hout : out = out.dropLast ++ [y] := by rw [← hlast]; exact (List.dropLast_concat_getLast hne).symm
        have hym : y.1 ≠ m.1 := fun e => hl (by rw [hy]; simp [e])
        have hyl : y ∈ l := h.sub y (by rw [hout]; simp)
        rw [hout] at ha
        rcases List.mem_append.1 ha with h2 | h2
        · have hp := h.rise
          rw [hout, List.pairwise_append] at hp
          have h3 := hp.2.2 a h2 y (by simp)
          rcases modCmp_path (hle y hyl) with h4 | h4
          · rw [h1] at h3
            have := (compareBytes_ord.anti _ _).1 h3
            omega
          · exact hym h4.1
        · simp at h2
          subst h2
          exact hym h1
    refine ⟨?_, fun x hx => ?_, fun x hx => ?_⟩
    · rw [List.pairwise_append]
      exact ⟨h.rise, by simp, fun a ha b hb => by simp at hb; subst hb; exact hlt a ha⟩
    · rcases List.mem_append.1 hx with h1 | h1
      · exact List.mem_append.2 (.inl (h.sub x h1))
      · exact List.mem_append.2 (.inr h1)
    · rcases List.mem_append.1 hx with h1 | h1
      · obtain ⟨z, hz, e1, e2⟩ := h.over x h1
        exact ⟨z, List.mem_append.2 (.inl hz), e1, e2⟩
      · simp at h1
        subst h1
        exact ⟨x, by simp, rfl, hself⟩
theorem great_fold : ∀ (r l out : List Md), Great l out → Climbs (l ++ r) → Great (l ++ r) (r.foldl grow1 out)
  | [], l, out, h, _ => by simpa using h
  | m :: r, l, out, h, hc => by
    have e : l ++ m :: r = (l ++ [m]) ++ r := by simp
    rw [e] at hc ⊢
    exact great_fold r (l ++ [m]) (grow1 out m) (great_snoc h (List.pairwise_append.1 hc).1) hc
theorem great_of {l : List Md} (h : Climbs l) : Great l (greatest l) := great_fold l [] [] great_nil (by simpa using h)
theorem Great.one {l out : List Md} (h : Great l out) {a b : Md} (ha : a ∈ out) (hb : b ∈ out) (e : a.1 = b.1) : a = b := RiseP.unique h.rise ha hb e
theorem Great.mem {l out : List Md} (h : Great l out) (hr : ∀ m ∈ l, mdErr m = 0) (m : Md) : m ∈ out ↔ m ∈ l ∧ ∀ x ∈ l, x.1 = m.1 → verCmp x.2 m.2 ≤ 0 := by
  constructor
  · intro hm
    refine ⟨h.sub m hm, fun x hx e => ?_⟩
    obtain ⟨z, hz, e1, e2⟩ := h.over x hx
    rw [h.one hz hm (e1.trans e)] at e2
    exact e2
  · rintro ⟨hm, h1⟩
    obtain ⟨z, hz, e1, e2⟩ := h.over m hm
    have h2 := h1 z (h.sub z hz) e1
    have h3 : verCmp m.2 z.2 = 0 := by
      have := verCmp_ord.anti z.2 m.2
      have := verCmp_ord.anti m.2 z.2
      omega
    have : m = z := modCmp_zero (hr m hm) (hr z (h.sub z hz)) (by unfold modCmp; rw [orI_eq, e1, compareBytes_self]; exact ⟨rfl, h3⟩)
    rw [this]; exact hz
noncomputable def buildL (l : List En) (roots : List Md) : List Md := greatest (reachL l roots)
theorem RightG.great {l : List En} {roots : List Md} (h : RightG l roots) : Great (reachL l roots) (buildL l roots) := great_of (climbs_of_rises (reachL_rises h.idx roots))
def hasB (sel : List Md) (m : Md) : Bool := decide (0 ≤ findI (hasP m.1) sel) && !verLess (mdAt sel (findI (hasP m.1) sel).toNat).2 m.2
def underB (a b : List Md) : Bool := a.all (hasB b)
theorem hasB_iff {sel : List Md} {m : Md} : hasB sel m = true ↔ ∃ k : Nat, findI (hasP m.1) sel = k ∧ verLess (mdAt sel k).2 m.2 = false := by
  unfold hasB
  rw [Bool.and_eq_true, decide_eq_true_iff]
  constructor
  · rintro ⟨h1, h2⟩
    exact ⟨(findI (hasP m.1) sel).toNat, by omega, by simpa using h2⟩
  · rintro ⟨k, h1, h2⟩
    rw [h1]
    exact ⟨by omega, by simpa using h2⟩
theorem hasB_rise {sel : List Md} (h : RiseP sel) {m : Md} : hasB sel m = true ↔ ∃ x ∈ sel, x.1 = m.1 ∧ verLess x.2 m.2 = false := by
  rw [hasB_iff]
  constructor
  · rintro ⟨k, h1, h2⟩
    obtain ⟨x, hx, hp⟩ := findI_spec h1
    have hl := (List.getElem?_eq_some_iff.1 hx).1
    rw [mdAt_get hl] at hx
    rw [Option.some.inj hx] at h2
    exact ⟨x, by rw [← Option.some.inj hx]; exact mdAt_mem hl, of_decide_eq_true hp, h2⟩
  · rintro ⟨x, hx, e, h2⟩
    have h0 : ¬ findI (hasP m.1) sel < 0 := fun hn => by
      have := findI_eq_none.1 hn x hx
      unfold hasP at this
      rw [decide_eq_false_iff_not] at this
      exact this e
    refine ⟨(findI (hasP m.1) sel).toNat, by omega, ?_⟩
    obtain ⟨y, hy, hp⟩ := findI_spec (show findI (hasP m.1) sel = ((findI (hasP m.1) sel).toNat : Nat) by omega)
    have hl := (List.getElem?_eq_some_iff.1 hy).1
    have hym := List.mem_of_getElem? hy
    rw [mdAt_get hl] at hy
    rw [Option.some.inj hy, h.unique hym hx ((of_decide_eq_true hp).trans e.symm)]
    exact h2
end Go.Proofs.Pw

namespace Go.Proofs.Pw
open Go.Lib hiding intOf
theorem verLess_of_le {a b : Str} (h : verCmp b a ≤ 0) : verLess a b = false := by
  unfold verLess
  refine decide_eq_false (fun h1 => ?_)
  have := (verCmp_ord.anti a b).1 h1.2.2
  omega
theorem Great.under {l out : List Md} (h : Great l out) : underB l out = true := by
  unfold underB
  rw [List.all_eq_true]
  intro m hm
  obtain ⟨x, hx, e1, e2⟩ := h.over m hm
  rw [hasB_rise h.rise]
  exact ⟨x, hx, e1, verLess_of_le e2⟩
theorem le_trans3 {a b c : Str} (h1 : verCmp a b ≤ 0) (h2 : verCmp b c ≤ 0) : verCmp a c ≤ 0 := verCmp_ord.tr a b c h1 h2
theorem build_over {l : List En} {roots : List Md} (h : RightG l roots) {m : Md} (hm : Reached l roots m) : ∃ x ∈ buildL l roots, x.1 = m.1 ∧ verCmp m.2 x.2 ≤ 0 := h.great.over m (h.mem.2 hm)
theorem RightG.sub {l : List En} {A B : List Md} (hB : RightG l B) (h : ∀ m ∈ A, Reached l B m) : RightG l A := ⟨hB.idx, fun m hm => hB.entry (h m hm)⟩
end Go.Proofs.Pw

namespace Go.Proofs.Pw
open Go.Lib hiding intOf
end Go.Proofs.Pw

namespace Go.Proofs.Pw
open Go.Lib hiding intOf
def latestM (l : List En) (sel : List Md) : List Md := sel.map fun m => (m.1, latestL l m.1)
theorem latest_in {l : List En} (h : RightI l) {m : Md} {e : En} (he : e ∈ l) (hm : e.md = m) : ∃ e ∈ l, e.md = (m.1, latestL l m.1) := by
  have h1 : m.2 ∈ versL l m.1 := versL_mem.2 ⟨e, he, hm⟩
  have h2 : m.2 ∈ vsort (versL l m.1) := (vsort_mem _ _).2 ⟨h1, by rw [← hm]; exact (modErr_zero (h.mds e he)).2⟩
  have h3 : vsort (versL l m.1) ≠ [] := fun e => by rw [e] at h2; cases h2
  have h4 := likedL_sub (lastS_mem (likedL_ne (l := l) (p := m.1) h3))
  exact versL_mem.1 ((vsort_mem _ _).1 h4).1
def newsB (l : List En) (m : Md) : Bool := verLess m.2 (latestL l m.1)
def newsL (l : List En) (sel : List Md) : List Md := latestM l (sel.filter (newsB l))
noncomputable def nextL (l : List En) (sel : List Md) : List Md := buildL l (sel ++ latestM l sel)
structure SelOk (l : List En) (x : List Md) : Prop where
  right : RightG l x
  rise : RiseP x
def OverM (x y : List Md) : Prop := ∀ m ∈ x, ∃ z ∈ y, z.1 = m.1 ∧ verCmp m.2 z.2 ≤ 0
theorem OverM.trans {x y z : List Md} (h1 : OverM x y) (h2 : OverM y z) : OverM x z := fun m hm => by
  obtain ⟨a, ha, e1, h3⟩ := h1 m hm
  obtain ⟨b, hb, e2, h4⟩ := h2 a ha
  exact ⟨b, hb, e2.trans e1, le_trans3 h3 h4⟩
theorem SelOk.md {l : List En} {x : List Md} (h : SelOk l x) {m : Md} (hm : m ∈ x) : mdErr m = 0 := h.right.right (.root hm)
theorem next_right {l : List En} {x : List Md} (hx : RightG l x) : RightG l (x ++ latestM l x) := ⟨hx.idx, fun m hm => by
  rcases List.mem_append.1 hm with h | h
  · exact hx.at_ m h
  · unfold latestM at h
    obtain ⟨y, hy, rfl⟩ := List.mem_map.1 h
    obtain ⟨e, he, e1⟩ := hx.at_ y hy
    exact latest_in hx.idx he e1⟩
structure AllOk (l : List En) (x y : List Md) : Prop where
  ok : SelOk l y
  over : OverM x y
  stop : nextL l y = y
theorem AllOk.none {l : List En} {x y : List Md} (h : AllOk l x y) : newsL l y = [] := by
  unfold newsL
  have : y.filter (newsB l) = [] := by
    rw [List.filter_eq_nil_iff]
    intro m hm hn
    have h1 := next_right h.ok.right
    have h2 : (m.1, latestL l m.1) ∈ y ++ latestM l y := List.mem_append.2 (.inr (List.mem_map.2 ⟨m, hm, rfl⟩))
    obtain ⟨z, hz, e1, h3⟩ := build_over h1 (.root h2)
    have hz2 : z ∈ nextL l y := hz
    rw [h.stop] at hz2
    have e2 : z = m := h.ok.rise.unique hz2 hm e1
    subst e2
    unfold newsB at hn
    rw [verLess_of_le h3] at hn
    cases hn
  rw [this]; rfl
end Go.Proofs.Pw

namespace Go.Proofs.Pw
open Go.Lib hiding intOf
def hasK (e : En) (p : Str) : Bool :=
  if p = e.md.1 then decide ([46] ∈ e.packs) else hasPrefix p (e.md.1 ++ [47]) && (!decide (trimPrefix p (e.md.1 ++ [47]) = [46]) && decide (trimPrefix p (e.md.1 ++ [47]) ∈ e.packs))
theorem prefix_of {p a : Str} : hasPrefix p (a ++ [47]) = true ↔ ∃ r, p = a ++ 47 :: r := by
  unfold hasPrefix
  rw [List.isPrefixOf_iff_prefix]
  constructor
  · rintro ⟨r, h⟩
    exact ⟨r, by rw [← h]; simp⟩
  · rintro ⟨r, rfl⟩
    exact ⟨r, by simp⟩
theorem hasK_head {e : En} {p : Str} (h : hasK e p = true) : p = e.md.1 ∨ ∃ r, p = e.md.1 ++ 47 :: r := by
  unfold hasK at h
  by_cases h1 : p = e.md.1
  · exact .inl h1
  · rw [if_neg h1, Bool.and_eq_true] at h
    exact .inr (prefix_of.1 h.1)
def entOf (l : List En) (m : Md) : En := enAt l (findE l m).toNat
theorem entOf_md {l : List En} {m : Md} (h : ∃ e ∈ l, e.md = m) : (entOf l m).md = m ∧ entOf l m ∈ l := by
  have h1 : ¬ findE l m < 0 := fun h2 => by
    obtain ⟨e, he, h3⟩ := h
    exact findE_lt.1 h2 e he h3
  obtain ⟨k, e1, e2, e3⟩ := findE_nat h1
  unfold entOf
  rw [e1]
  exact ⟨e3, enAt_mem e2⟩
def selHas (l : List En) (p : Str) (m : Md) : Bool := hasK (entOf l m) p
def allErr (l : List En) (sel : List Md) : Nat × Int := orE (idxErr l) (rootsErr l sel)
theorem cut_count (c : UInt8) : ∀ (s acc : Str), (cutAt c acc s).length = s.count c + 1
  | [], acc => by simp [cutAt]
  | b :: r, acc => by
    rw [cutAt]
    split
    · rename_i h
      rw [List.length_cons, cut_count c r, h]
      simp
    · rename_i h
      rw [cut_count c r, List.count_cons_of_ne h]
theorem split_count (c : UInt8) (s : Str) : (split s [c]).length = s.count c + 1 := by rw [split_eq, cut_count]
theorem pathErr_count {s : Str} (h : pathErr s = 0) : s.count 47 ≤ 4 := by
  have h1 := split_count 47 s
  unfold pathErr at h
  simp only at h
  split at h
  · cases h
  · split at h
    · cases h
    · rename_i h2
      have : ¬ 5 < (split s [47]).length := fun h3 => h2 (.inl h3)
      omega
theorem ahead_of {p a b : Str} (ha : p = a ∨ ∃ r, p = a ++ 47 :: r) (hb : p = b ∨ ∃ r, p = b ++ 47 :: r) (h : compareBytes a b < 0) : ∃ r, b = a ++ 47 :: r := by
  have key0 : ∀ (x r : Str), 0 < compareBytes (x ++ 47 :: r) x := fun x r => by
    induction x with
    | nil => simp [compareBytes]
    | cons c x ih =>
      rw [List.cons_append]
      unfold compareBytes
      simpa using ih
  have key : ∀ {x y r : Str}, y = x ++ 47 :: r → 0 < compareBytes y x := fun {x y r} e => by
    rw [e]
    exact key0 x r
  have anti := fun x y => compareBytes_ord.anti x y
  rcases ha with rfl | ⟨r, rfl⟩
  · rcases hb with rfl | ⟨r, rfl⟩
    · rw [compareBytes_ord.self] at h; exact absurd h (by decide)
    · have := key (rfl : b ++ 47 :: r = b ++ 47 :: r)
      omega
  · rcases hb with hb | ⟨s, hb⟩
    · exact ⟨r, hb.symm⟩
    · rcases Nat.lt_trichotomy a.length b.length with h1 | h1 | h1
      · have e : b = (a ++ 47 :: r).take b.length := by rw [hb]; simp
        rw [List.take_append, List.take_of_length_le (by omega)] at e
        obtain ⟨n, hn⟩ : ∃ n, b.length - a.length = n + 1 := ⟨b.length - a.length - 1, by omega⟩
        rw [hn, List.take_succ_cons] at e
        exact ⟨_, e⟩
      · have e : b = (a ++ 47 :: r).take b.length := by rw [hb]; simp
        rw [← h1, List.take_left] at e
        rw [e, compareBytes_ord.self] at h
        exact absurd h (by decide)
      · have e : a = (b ++ 47 :: s).take a.length := by rw [← hb]; simp
        rw [List.take_append, List.take_of_length_le (by omega)] at e
        obtain ⟨n, hn⟩ : ∃ n, a.length - b.length = n + 1 := ⟨a.length - b.length - 1, by omega⟩
        rw [hn, List.take_succ_cons] at e
        have := key e
        have := anti a b
        omega
theorem pair_len {f : Md → Nat} {n : Nat} : ∀ {l : List Md}, (∀ x ∈ l, f x < n) → (l.Pairwise fun a b => f a < f b) → l.length ≤ n := by
  intro l
  induction l using snoc_ind generalizing n with
  | h0 => intro _ _; exact Nat.zero_le _
  | h1 l a ih =>
    intro h1 h2
    rw [List.pairwise_append] at h2
    have h3 := ih (n := f a) (fun x hx => h2.2.2 x hx a (by simp)) h2.1
    have h4 := h1 a (by simp)
    rw [List.length_append]
    simp
    omega
end Go.Proofs.Pw

namespace Go.Proofs.Pw
open Go.Lib hiding intOf
theorem split_not_nil (s : Str) (c : UInt8) : split s [c] ≠ [] := by
  rw [split_eq]
  have : ∀ (l acc : Str), cutAt c acc l ≠ [] := by
    intro l
    induction l with
    | nil => intro acc; simp [cutAt]
    | cons b l ih =>
      intro acc
      unfold cutAt
      split
      · simp
      · exact ih _
  exact this s []
end Go.Proofs.Pw

namespace Go.Proofs.Pw
open Go.Lib hiding intOf
def mtL (m : Md) : Str := mdText m ++ [10]
def mtLs (l : List Md) : Str := l.flatMap mtL
def pkL (p : Str) : Str := 47 :: p ++ [10]
def pkLs (l : List Str) : Str := l.flatMap pkL
theorem mtLs_snoc (l : List Md) (m : Md) : mtLs (l ++ [m]) = mtLs l ++ mtL m := by
  unfold mtLs; rw [List.flatMap_append]; simp
theorem pkLs_snoc (l : List Str) (m : Str) : pkLs (l ++ [m]) = pkLs l ++ pkL m := by
  unfold pkLs; rw [List.flatMap_append]; simp
def sumTxt (e : En) : Str := mtL e.md ++ mtLs e.reqs ++ pkLs e.packs ++ (if e.back then [45] else [])
def sumOf (e : En) : Nat := crcF (sumTxt e)
theorem sumOf_32 (e : En) : sumOf e < 4294967296 := crcF_32 _
theorem mdText_len (m : Md) : (mdText m).length ≤ m.1.length + m.2.length + 1 := by
  unfold mdText modText
  split
  · simp; omega
  · simp
theorem mtLs_len (c : Nat) : ∀ l : List Md, (∀ m ∈ l, m.1.length ≤ c ∧ m.2.length ≤ c) → (mtLs l).length ≤ l.length * (2 * c + 2)
  | [], _ => Nat.zero_le _
  | m :: r, h => by
    have ih := mtLs_len c r (fun x hx => h x (by simp [hx]))
    have h1 := h m (by simp)
    have h2 := mdText_len m
    have e : (mtLs (m :: r)).length = (mdText m).length + 1 + (mtLs r).length := by
      show (mtL m ++ mtLs r).length = _
      rw [List.length_append]; unfold mtL; simp
    rw [e, List.length_cons, Nat.add_mul, Nat.one_mul]
    omega
theorem pkLs_len (c : Nat) : ∀ l : List Str, (∀ m ∈ l, m.length ≤ c) → (pkLs l).length ≤ l.length * (c + 2)
  | [], _ => Nat.zero_le _
  | m :: r, h => by
    have ih := pkLs_len c r (fun x hx => h x (by simp [hx]))
    have h1 := h m (by simp)
    have e : (pkLs (m :: r)).length = m.length + 2 + (pkLs r).length := by
      show (pkL m ++ pkLs r).length = _
      rw [List.length_append]; unfold pkL; simp
    rw [e, List.length_cons, Nat.add_mul, Nat.one_mul]
    omega
abbrev Ln := Md × Nat
def noLn : Ln := (([], []), 0)
def lnAt (l : List Ln) (i : Nat) : Ln := l.getD i noLn
theorem lnAt_get {l : List Ln} {i : Nat} (h : i < l.length) : l[i]? = some (lnAt l i) := by
  unfold lnAt
  rw [List.getD_eq_getElem?_getD, List.getElem?_eq_getElem h]; rfl
def sumsL (l : List En) (S : List Md) : List Ln := if (allErr l S).1 = 0 then S.map fun m => (m, sumOf (entOf l m)) else []
def mdsOf (l : List Ln) : List Md := l.map (·.1)
theorem mdsOf_at {l : List Ln} {i : Nat} : mdAt (mdsOf l) i = (lnAt l i).1 := by
  unfold mdAt lnAt mdsOf
  rw [List.getD_eq_getElem?_getD, List.getD_eq_getElem?_getD, List.getElem?_map]
  cases l[i]? with
  | none => rfl
  | some x => rfl
def linesErr (l : List Ln) : Nat × Int := firstE (excE (mdsOf l)) l.length
def lnTxt (x : Ln) : Str := x.1.1 ++ [32] ++ x.1.2 ++ [32] ++ decDigits x.2 ++ [10]
def lnsTxt (l : List Ln) : Str := l.flatMap lnTxt
theorem lnsTxt_snoc (l : List Ln) (x : Ln) : lnsTxt (l ++ [x]) = lnsTxt l ++ lnTxt x := by
  unfold lnsTxt; rw [List.flatMap_append]; simp
def linesTxt (l : List Ln) : Str := if (linesErr l).1 = 0 then lnsTxt l else []
def sumW (w : Str) : Bool := areDigits w && decide (w.length ≤ 10) && !(decide (1 < w.length) && decide (w.head? = some 48))
def lineE (s : Str) : Nat :=
  let w := split s [32]
  if w.length ≠ 3 ∨ sumW (w.getD 2 []) = false then 1
  else if 4294967295 < decVal (w.getD 2 []) then 2 else modErr (w.getD 0 []) (w.getD 1 [])
def lineLn (s : Str) : Ln := (((split s [32]).getD 0 [], (split s [32]).getD 1 []), decVal ((split s [32]).getD 2 []))
theorem lineE_form {s : Str} (h : (split s [32]).length ≠ 3) : lineE s = 1 := by
  unfold lineE; simp only; rw [if_pos (.inl h)]
theorem lineE_three {s a b c : Str} (h : split s [32] = [a, b, c]) : lineE s = (if sumW c = false then 1 else if 4294967295 < decVal c then 2 else modErr a b) ∧ lineLn s = ((a, b), decVal c) := by
  constructor
  · unfold lineE
    simp only [h]
    by_cases hc : sumW c = false
    · rw [if_pos hc, if_pos (.inr hc)]
    · rw [if_neg hc, if_neg (by rintro (h1 | h1); exact h1 rfl; exact hc h1)]
      rfl
  · unfold lineLn; simp only [h]; rfl
def readX (out : List Ln) (i : Nat) : List Str → List Ln × Nat × Int
  | [] => (out, 0, -1)
  | [t] => if t ≠ [] then ([], 1, (i : Int)) else (out, 0, -1)
  | t :: u :: r =>
    if lineE t ≠ 0 then ([], lineE t, (i : Int))
    else if 0 < i ∧ modAhead (lnAt out (i - 1)).1 (lineLn t).1 = false then ([], 8, (i : Int))
    else readX (out ++ [lineLn t]) (i + 1) (u :: r)
def readLs (s : Str) : List Ln × Nat × Int := readX [] 0 (split s [10])
theorem readX_cons {out : List Ln} {i : Nat} {t : Str} {r : List Str} (h : r ≠ []) : readX out i (t :: r) = if lineE t ≠ 0 then ([], lineE t, (i : Int)) else if 0 < i ∧ modAhead (lnAt out (i - 1)).1 (lineLn t).1 = false then ([], 8, (i : Int)) else readX (out ++ [lineLn t]) (i + 1) r := by
  cases r with
  | nil => exact absurd rfl h
  | cons y r => rw [readX]
theorem split_atC {c : UInt8} {a b : Str} (ha : c ∉ a) : split (a ++ c :: b) [c] = a :: split b [c] := by
  rw [split_hit (i := a.length) (by simp) (index_byte_at ha), List.take_left]
  rw [show a.length + ([c] : Str).length = (a ++ [c]).length by simp, show a ++ c :: b = (a ++ [c]) ++ b by simp, List.drop_left]
theorem split_end {c : UInt8} {s : Str} (h : c ∉ s) : split s [c] = [s] := split_none (index_no (s := s) (sub := [c]) (by simp) (by intro d hd; simp at hd; subst hd; exact h))
theorem readX_cut {out : List Ln} {i : Nat} {s : Str} (hs : s ≠ []) : readX out i (split s [10]) = if (cut s [10]).2.2 = false then ([], 1, (i : Int)) else if lineE (cut s [10]).1 ≠ 0 then ([], lineE (cut s [10]).1, (i : Int)) else if 0 < i ∧ modAhead (lnAt out (i - 1)).1 (lineLn (cut s [10]).1).1 = false then ([], 8, (i : Int)) else readX (out ++ [lineLn (cut s [10]).1]) (i + 1) (split (cut s [10]).2.1 [10]) := by
  by_cases hm : (10 : UInt8) ∈ s
  · obtain ⟨a, b, rfl, ha⟩ := mem_at hm
    rw [cut_at ha, split_atC ha, readX_cons (split_not_nil _ _)]
    simp
  · rw [cut_no hm, split_end hm]
    simp [readX, hs]
theorem readX_end {out : List Ln} {i : Nat} : readX out i (split [] [10]) = (out, 0, -1) := by
  rw [split_end (by simp)]
  simp [readX]
def isLn (m : Md) (x : Ln) : Bool := decide (x.1 = m)
def findL (h : List Ln) (m : Md) : Int := findI (isLn m) h
def verE (l : List En) (S : List Md) (h : List Ln) (i : Nat) : Nat :=
  if findL h (mdAt S i) < 0 then 5 else if (lnAt h (findL h (mdAt S i)).toNat).2 ≠ sumOf (entOf l (mdAt S i)) then 10 else 0
def verifyErr (l : List En) (S : List Md) (h : List Ln) : Nat × Int := orE (allErr l S) (firstE (verE l S h) S.length)
theorem findL_at {h : List Ln} {m : Md} {k : Nat} (e : findL h m = k) : k < h.length ∧ (lnAt h k).1 = m := by
  obtain ⟨x, hx, hp⟩ := findI_spec e
  have hl := (List.getElem?_eq_some_iff.1 hx).1
  rw [lnAt_get hl] at hx
  exact ⟨hl, by rw [Option.some.inj hx]; exact of_decide_eq_true hp⟩
theorem findL_nat {h : List Ln} {m : Md} (e : ¬ findL h m < 0) : ∃ k : Nat, findL h m = k ∧ k < h.length ∧ (lnAt h k).1 = m :=
  have h0 : findL h m = ((findL h m).toNat : Int) := by omega
  ⟨(findL h m).toNat, h0, findL_at h0⟩
end Go.Proofs.Pw
