/- Mp: walks and plain laws, joined: Mod2 VerCmp OrdMath ModAhead Patch File File2 Mem2 File3 Ent FindOf Marks FileFind IdxFind IdxReqs IdxEnt RefA RefB RefC RefV RefV2 RefP. Conditions: at each theorem. -/
import Derived.Test.YtnkcobdgaldkfaaGreatDoorMpa
import Derived.WalkKit
import Derived.Deep.QuietTactic
import Derived.BigQuiet
import Derived.Shelf.SlSortCmp.QuietGrown
import Derived.Shelf.Abstract
import Derived.Deep.Upon
import Derived.Stop.IfaceNil
import Derived.Deep.OwnRows
import Derived.Laws.AppendOwn
import Derived.LoopTactic
import Derived.OwnWalk
import Derived.Laws.IdiomStrings
import Derived.Lib.AppendIntMem
import Derived.Deep.CutRange
import Derived.Deep.CutBlock
import Derived.Lib.IndexLaws

/- The walks of package mod, part 3: Split, Check, Text, Read. -/
namespace Go.Proofs.Pw
open Go.RowKit
open Go.Lib hiding intOf

theorem modSplit_bad {s : Str} (h : pathErr s ≠ 0) : modSplit s = ([], 0) := by unfold modSplit; rw [if_pos h]
theorem modSplit_no {s : Str} (h : pathErr s = 0) (hl : lastIndex s [47] < 0) : modSplit s = (s, 0) := by unfold modSplit; rw [if_neg (by rw [h]; simp)]; simp only; rw [if_pos hl]
theorem modSplit_at {s : Str} (h : pathErr s = 0) {k : Nat} (hl : lastIndex s [47] = k) : modSplit s = if isSuf (s.drop (k + 1)) then (s.take k, sufNum (s.drop (k + 1))) else (s, 0) := by
  unfold modSplit; rw [if_neg (by rw [h]; simp)]; simp only; rw [if_neg (by omega), hl]; rfl

theorem lastOcc_lt (s sub : Str) : ∀ n, lastOcc s sub n < n := by
  intro n
  induction n with
  | zero => unfold lastOcc; omega
  | succ n ih => unfold lastOcc; split <;> omega
theorem lastIndex_lt (s : Str) (c : UInt8) : lastIndex s [c] < s.length := by
  unfold lastIndex
  split
  · rename_i h
    have := lastOcc_lt s [c] (s.length - [c].length + 1)
    simp only [List.length_cons, List.length_nil] at h this ⊢
    omega
  · omega

/-- mod.Split -/
theorem modSplit_calls (ks : List Nat) (A : Nat → Addr) (h4 : 4 ∈ ks) (s : ByteArray) (w : World) (hE : EnvP ks A w) (hs : s.size ≤ 1000000000) :
    Calls Tryz.prog 135 #[.string s] w fun e w' => e = .returned (.tuple #[.string ⟨(modSplit s.data.toList).1.toArray⟩, .int .i64 ((modSplit s.data.toList).2 : Nat)]) ∧ Below w.heap.size w w' := by
  by_cases hp : pathErr s.data.toList = 0
  · have hlt := lastIndex_lt s.data.toList 47
    have hL := Tryz.strings_LastIndex s ⟨#[47]⟩ (by omega)
    rw [show (⟨#[47]⟩ : ByteArray).data.toList = [47] from rfl] at hL
    by_cases hl : lastIndex s.data.toList [47] < 0
    · rw [modSplit_no hp hl]
      generalize lastIndex s.data.toList [47] = i at hl hL
      have HL := Lib.hid hL
      have HP := Lib.hid hp
      clear hlt hp hL
      go_enter Tryz.func135, Tryz.ntmps135
      go_wp2_with fail
      refine (path_calls ks A h4 s w hE hs).mono ?_
      rintro e w1 ⟨rfl, hb1⟩
      rw [HP.out, errV_zero]
      go_wp2_with fail
      refine (HL.out w1).mono ?_
      rintro e w2 ⟨rfl, rfl⟩
      go_wp2_with fail
      go_ret2
      exact ⟨rfl, hb1⟩
    · obtain ⟨k, hk⟩ : ∃ k : Nat, lastIndex s.data.toList [47] = k := ⟨(lastIndex s.data.toList [47]).toNat, by omega⟩
      have hm := modSplit_at hp hk
      have hks : k < s.size := by rw [size_eq]; omega
      rw [hk] at hL
      generalize modSplit s.data.toList = R at hm ⊢
      have HM := Lib.hid hm
      have HL := Lib.hid hL
      have HP := Lib.hid hp
      clear hlt hp hL hl hk hm
      go_enter Tryz.func135, Tryz.ntmps135
      go_wp2_with fail
      refine (path_calls ks A h4 s w hE hs).mono ?_
      rintro e w1 ⟨rfl, hb1⟩
      rw [HP.out, errV_zero]
      go_wp2_with fail
      refine (HL.out w1).mono ?_
      rintro e w2 ⟨rfl, rfl⟩
      have hsz : (s.extract (k + 1) s.size).size ≤ 4000000000 := by simp; omega
      have hE1 := hE.below hb1
      go_wp2_with fail
      refine (suffixWell_calls ks A _ _ hE1 hsz).mono ?_
      rintro e w3 ⟨⟨q, rfl, hq⟩, hb3⟩
      have hdr : (s.extract (k + 1) s.size).data.toList = s.data.toList.drop (k + 1) := extract_to_end s (k + 1)
      rw [hdr] at hq ⊢
      have hb13 := below_step hb1 hb3
      cases hi : isSuf (s.data.toList.drop (k + 1)) with
      | true =>
        have HQ := Lib.hid (hq hi)
        have HF : Hid (R = (s.data.toList.take k, sufNum (s.data.toList.drop (k + 1)))) := Lib.hid (by rw [HM.out, if_pos hi])
        clear hq hi hdr
        go_wp2_with fail
        go_ret2
        rw [HF.out, HQ.out]
        refine ⟨?_, hb13⟩
        have : s.extract 0 k = ⟨(s.data.toList.take k).toArray⟩ := by
          apply ByteArray.ext
          apply Array.ext'
          simp
        rw [this]
        rfl
      | false =>
        have HF : Hid (R = (s.data.toList, 0)) := Lib.hid (by rw [HM.out, if_neg (by rw [hi]; decide)])
        clear hq hi hdr
        go_wp2_with fail
        go_ret2
        rw [HF.out]
        exact ⟨rfl, hb13⟩
  · rw [modSplit_bad hp]
    have HP := Lib.hid hp
    clear hp
    go_enter Tryz.func135, Tryz.ntmps135
    go_wp2_with fail
    refine (path_calls ks A h4 s w hE hs).mono ?_
    rintro e w1 ⟨rfl, hb1⟩
    rw [errV_pos A HP.out]
    go_wp2_with fail
    go_ret2
    exact ⟨rfl, hb1⟩

theorem modErr_path {p v : Str} (h : pathErr p ≠ 0) : modErr p v = pathErr p := by unfold modErr; rw [if_pos h]
theorem modErr_ver {p v : Str} (h : pathErr p = 0) (h2 : verErr v ≠ 0) : modErr p v = verErr v := by unfold modErr; rw [if_neg (by rw [h]; simp), if_pos h2]
theorem modErr_major {p v : Str} (h : pathErr p = 0) (h2 : verErr v = 0) : modErr p v = if ((modSplit p).2 = 0 ∧ 1 < verNum v 0) ∨ (0 < (modSplit p).2 ∧ verNum v 0 ≠ (modSplit p).2) then 4 else 0 := by
  unfold modErr; rw [if_neg (by rw [h]; simp), if_neg (by rw [h2]; simp)]

/-- a box of two cells -/
structure Box2 (w : World) (b : Nat) (v0 v1 : Value) : Prop where
  c0 : w.cell? ⟨b, 0, none⟩ = some v0
  c1 : w.cell? ⟨b, 1, none⟩ = some v1
  fr : ∀ j, w.frozen? ⟨b, j, none⟩ = false
theorem Box2.below {w w' : World} {b : Nat} {v0 v1 : Value} (h : Box2 w b v0 v1) (hb : Below w.heap.size w w') : Box2 w' b v0 v1 :=
  ⟨Below.cell_some hb h.c0, Below.cell_some hb h.c1, fun j => (hb.frozen (p := ⟨b, j, none⟩) (show b < w.heap.size from lt_of_cell h.c0)).trans (h.fr j)⟩
theorem box2_alloc (w : World) (v0 v1 : Value) (t : TypeId) : Box2 (w.alloc (.cells #[v0, v1] t)) w.heap.size v0 v1 :=
  ⟨by simp, by simp, fun j => by simp⟩

set_option maxHeartbeats 1000000 in
/-- mod.Check -/
theorem modCheck_calls (ks : List Nat) (A : Nat → Addr) (h4 : 4 ∈ ks) (p v : ByteArray) (w : World) (hE : EnvP ks A w) (hp : p.size ≤ 1000000000) (hv : v.size ≤ 1000000000) :
    Calls Tryz.prog 96 #[.agg #[.string p, .string v]] w fun e w' => e = .returned (errV A (modErr p.data.toList v.data.toList)) ∧ Below w.heap.size w w' := by
  have hbA := below_alloc w (.cells #[.string p, .string v] 38)
  have hzA := box2_alloc w (.string p) (.string v) 38
  have hEA := hE.below hbA
  by_cases h1 : pathErr p.data.toList = 0
  · have H1 := Lib.hid h1
    by_cases h2 : verErr v.data.toList = 0
    · have hm := modErr_major h1 h2
      have H2 := Lib.hid h2
      have hmc : ((modSplit p.data.toList).2 = 0 ∧ 1 < verNum v.data.toList 0) ∨ ((modSplit p.data.toList).2 = 0 ∧ ¬ 1 < verNum v.data.toList 0) ∨ (0 < (modSplit p.data.toList).2 ∧ verNum v.data.toList 0 ≠ (modSplit p.data.toList).2) ∨ (0 < (modSplit p.data.toList).2 ∧ verNum v.data.toList 0 = (modSplit p.data.toList).2) := by omega
      generalize modErr p.data.toList v.data.toList = R at hm ⊢
      have HM := Lib.hid hm
      have HMC := Lib.hid hmc
      clear h1 h2 hm hmc
      go_enter Tryz.func96, Tryz.ntmps96
      go_wp2_with fail
      refine (path_calls ks A h4 p _ hEA hp).mono ?_
      rintro e w1 ⟨rfl, hb1⟩
      rw [H1.out, errV_zero]
      have hz1 := hzA.below hb1
      have c0 := hz1.c0
      have c1 := hz1.c1
      have hE1 := hEA.below hb1
      have hb01 := below_step hbA hb1
      go_wp2_with fail
      refine (verSplit_calls ks A v w1 hE1 hv).mono ?_
      rintro e w2 ⟨hb2, vv, rfl, a, n, cap, L, rfl, _, _, _, _⟩
      have hz2 := hz1.below hb2
      have hE2 := hE1.below hb2
      have hb02 := below_step hb01 hb2
      clear c0 c1
      have c0 := hz2.c0
      have c1 := hz2.c1
      rw [H2.out, errV_zero]
      have hbB := below_alloc w2 (.cells #[.int .i64 (verNum v.data.toList 0 : Nat), .int .i64 (verNum v.data.toList 1 : Nat), .int .i64 (verNum v.data.toList 2 : Nat), .slice a n cap] 143)
      have d0 := (hz2.below hbB).c0
      have d1 := (hz2.below hbB).c1
      have hE3 := hE2.below hbB
      have hb03 := below_step hb02 hbB
      have hz3 := box4_alloc w2 (.int .i64 (verNum v.data.toList 0 : Nat)) (.int .i64 (verNum v.data.toList 1 : Nat)) (.int .i64 (verNum v.data.toList 2 : Nat)) (.slice a n cap) 143
      go_wp2_with fail
      refine (modSplit_calls ks A h4 p _ hE3 hp).mono ?_
      rintro e w4 ⟨rfl, hb4⟩
      have z0 := (hz3.below hb4).c0
      have hb04 := below_step hb03 hb4
      have g4 := (hE3.below hb4).errs.var 4 h4
      simp only [errG] at g4
      clear c0 c1 d0 d1 hz3 hz2 hz1 hb1 hb2 hb01 hb02 hb03 hbB hE1 hE2 hE3 hb4
      generalize verNum v.data.toList 0 = mj at z0 HM HMC ⊢
      generalize (modSplit p.data.toList).2 = q at HM HMC ⊢
      rcases HMC.out with ⟨rfl, h⟩ | ⟨rfl, h⟩ | ⟨h, h'⟩ | ⟨h, rfl⟩
      · have HF : Hid (R = 4) := Lib.hid (by rw [HM.out, if_pos (.inl ⟨rfl, h⟩)])
        have hi : (1 : Int) < (mj : Int) := by omega
        have hi2 : decide ((1 : Int) < (mj : Int)) = true := decide_eq_true hi
        clear HM HMC h
        go_wp2_with fail
        go_ret
        rw [HF.out]
        exact ⟨rfl, hb04⟩
      · have HF : Hid (R = 0) := Lib.hid (by rw [HM.out, if_neg (by omega)])
        have hi : ¬ (1 : Int) < (mj : Int) := by omega
        clear HM HMC h
        go_wp2_with fail
        go_ret
        rw [HF.out]
        exact ⟨rfl, hb04⟩
      · have HF : Hid (R = 4) := Lib.hid (by rw [HM.out, if_pos (.inr ⟨h, h'⟩)])
        have hi : (0 : Int) < (q : Int) := by omega
        have hi0 : ((q : Int) == 0) = false := beq_eq_false_iff_ne.2 (by omega)
        have hi1 : ((mj : Int) == (q : Int)) = false := beq_eq_false_iff_ne.2 (by omega)
        clear HM HMC h h'
        go_wp2_with fail
        go_ret
        rw [HF.out]
        exact ⟨rfl, hb04⟩
      · have HF : Hid (R = 0) := Lib.hid (by rw [HM.out, if_neg (by omega)])
        have hi : (0 : Int) < (mj : Int) := by omega
        have hi0 : ((mj : Int) == 0) = false := beq_eq_false_iff_ne.2 (by omega)
        clear HM HMC h
        go_wp2_with fail
        go_ret
        rw [HF.out]
        exact ⟨rfl, hb04⟩
    · rw [modErr_ver h1 h2, errV_pos A h2]
      have H2 := Lib.hid h2
      clear h1 h2
      go_enter Tryz.func96, Tryz.ntmps96
      go_wp2_with fail
      refine (path_calls ks A h4 p _ hEA hp).mono ?_
      rintro e w1 ⟨rfl, hb1⟩
      rw [H1.out, errV_zero]
      have hz1 := hzA.below hb1
      have c0 := hz1.c0
      have c1 := hz1.c1
      have hE1 := hEA.below hb1
      have hb01 := below_step hbA hb1
      go_wp2_with fail
      refine (verSplit_calls ks A v w1 hE1 hv).mono ?_
      rintro e w2 ⟨hb2, vv, rfl, a, n, cap, L, rfl, _, _, _, _⟩
      have hb02 := below_step hb01 hb2
      rw [errV_pos A H2.out]
      go_wp2_with fail
      go_ret
      exact ⟨rfl, hb02.alloc hb02.size _⟩
  · rw [modErr_path h1, errV_pos A h1]
    have HP := Lib.hid h1
    clear h1
    go_enter Tryz.func96, Tryz.ntmps96
    go_wp2_with fail
    refine (path_calls ks A h4 p _ hEA hp).mono ?_
    rintro e w1 ⟨rfl, hb1⟩
    rw [errV_pos A HP.out]
    go_wp2_with fail
    go_ret
    exact ⟨rfl, below_step hbA hb1⟩


theorem modRead_form {s : Str} (h : (split s [64]).length ≠ 2) : modRead s = ([], [], 1) := by unfold modRead; simp only; rw [if_pos h]
theorem modRead_two {s a b : Str} (h : split s [64] = [a, b]) : modRead s = if modErr a b ≠ 0 then ([], [], modErr a b) else (a, b, 0) := by
  unfold modRead; rw [h]; rfl
theorem lstF_two (L : Nat → ByteArray) : lstF 2 L = [(L 0).data.toList, (L 1).data.toList] := rfl

end Go.Proofs.Pw

/- The walks of package ver, part 4: comparePart, Compare, Less. -/
namespace Go.Proofs.Pw
open Go.RowKit
open Go.Lib hiding intOf

def orN (n : Nat) (V : Nat → Int) : Int := (List.range n).foldl (fun r j => orI r (V j)) 0
theorem orN_succ (n V) : orN (n + 1) V = orI (orN n V) (V n) := by simp [orN, List.range_succ]
theorem orI_left {a : Int} (h : a ≠ 0) (b : Int) : orI a b = a := if_neg h
theorem orI_zero (b : Int) : orI 0 b = b := if_pos rfl
theorem orN_hit (V : Nat → Int) (k : Nat) (h0 : ∀ j, j < k → V j = 0) (hk : V k ≠ 0) : ∀ n, k < n → orN n V = V k := by
  have hz : ∀ m, m ≤ k → orN m V = 0 := by
    intro m
    induction m with
    | zero => intro _; rfl
    | succ m ih => intro hm; rw [orN_succ, ih (by omega), orI_zero, h0 m (by omega)]
  intro n
  induction n with
  | zero => intro h; omega
  | succ n ih =>
    intro h
    rw [orN_succ]
    by_cases e : n = k
    · subst e; rw [hz n (Nat.le_refl _), orI_zero]
    · rw [ih (by omega), orI_left hk]
theorem orN_none (V : Nat → Int) : ∀ n, (∀ j, j < n → V j = 0) → orN n V = 0 := by
  intro n
  induction n with
  | zero => intro _; rfl
  | succ n ih => intro h; rw [orN_succ, ih (fun j hj => h j (by omega)), orI_zero, h n (by omega)]

theorem cmpOr_calls (b n : Nat) (V : Nat → Int) (w : World) (hn : n ≤ 100) (hc : ∀ j, j < n → w.cell? ⟨b, j, none⟩ = some (.int .i64 (V j))) :
    Calls Tryz.prog 153 #[.slice (some ⟨b, 0, none⟩) n n] w fun e w' => e = .returned (.int .i64 (orN n V)) ∧ Below w.heap.size w w' := by
  have HC := Lib.hid hc
  clear hc
  go_enter Tryz.func153, Tryz.ntmps153
  go_wp2_with fail
  go_loopw [8] (fun i wr => ∃ k : Nat, k ≤ n ∧ i = .int .i64 k ∧ Below w.heap.size w wr ∧ Hid (∀ j, j < k → V j = 0)) (fun i _ => n - (intOf i).toNat)
  case atStart => exact ⟨0, by omega, rfl, Below.refl _ _, Lib.hid (fun j hj => absurd hj (Nat.not_lt_zero _))⟩
  case round =>
    obtain ⟨k, hk, rfl, hbl, HA⟩ := hrel
    by_cases hlt : k < n
    · have hck := Below.cell_some hbl (HC.out k hlt)
      by_cases hv : V k = 0
      · have HV := Lib.hid hv
        rw [hv] at hck
        clear hv
        go_wp2_with fail
        go_roundw
        case rel =>
          refine ⟨k + 1, by omega, by go_num, hbl, Lib.hid (fun j hj => ?_)⟩
          by_cases e : j = k
          · subst e; exact HV.out
          · exact HA.out j (by omega)
        case measure => simp [intOf]; omega
      · have HV := Lib.hid hv
        have hv2 : (V k == 0) = false := beq_eq_false_iff_ne.2 hv
        have hres := Lib.hid (orN_hit V k HA.out hv n hlt)
        generalize V k = v at hck hv2 hres
        clear hv HV
        go_wp2_with fail
        go_ret
        rw [hres.out]
        exact ⟨rfl, hbl⟩
    · obtain rfl : k = n := by omega
      go_wp2_with fail
      go_ret
      rw [orN_none V k HA.out]
      exact ⟨rfl, hbl⟩

set_option maxHeartbeats 400000 in
/-- ver.comparePart -/
theorem cmpPart_calls (a b : ByteArray) (w : World) (ha : a.size ≤ 1000000000) (hb : b.size ≤ 1000000000) :
    Calls Tryz.prog 155 #[.string a, .string b] w fun e w' => e = .returned (.int .i64 (cmpPart a.data.toList b.data.toList)) ∧ Below w.heap.size w w' := by
  have hm : cmpPart a.data.toList b.data.toList = if areDigits a.data.toList && areDigits b.data.toList then orI ((a.size : Int) - b.size) (compareBytes a.data.toList b.data.toList) else if areDigits a.data.toList then -1 else if areDigits b.data.toList then 1 else compareBytes a.data.toList b.data.toList := by
    rw [size_eq, size_eq]; rfl
  generalize cmpPart a.data.toList b.data.toList = R at hm ⊢
  generalize hx : areDigits a.data.toList = x at hm
  generalize hy : areDigits b.data.toList = y at hm
  have HX := Lib.hid hx
  have HY := Lib.hid hy
  have hS := Tryz.strings_Compare a b
  generalize compareBytes a.data.toList b.data.toList = c at hm hS
  have HS := Lib.hid hS
  have HM := Lib.hid hm
  clear hx hy hm hS
  go_enter Tryz.func155, Tryz.ntmps155
  go_wp2_with fail
  refine (digits_calls a w (Nat.le_trans ha (by decide))).mono ?_
  rintro e w1 ⟨rfl, hb1⟩
  go_wp2_with fail
  refine (digits_calls b w1 (Nat.le_trans hb (by decide))).mono ?_
  rintro e w2 ⟨rfl, hb2⟩
  rw [HX.out, HY.out]
  have hb02 := below_step hb1 hb2
  cases x <;> cases y
  case false.false =>
    go_wp2_with fail
    refine (HS.out w2).mono ?_
    rintro e w3 ⟨rfl, rfl⟩
    go_wp2_with fail
    go_ret
    rw [HM.out]
    exact ⟨rfl, hb02⟩
  case false.true =>
    go_wp2_with fail
    go_ret
    rw [HM.out]
    exact ⟨rfl, hb02⟩
  case true.false =>
    go_wp2_with fail
    go_ret
    rw [HM.out]
    exact ⟨rfl, hb02⟩
  case true.true =>
    go_wp2_with fail
    refine (HS.out w2).mono ?_
    rintro e w3 ⟨rfl, rfl⟩
    go_wp2_with fail
    refine (cmpOr_calls _ 2 (fun j => if j = 0 then (a.size : Int) - b.size else c) _ (by decide) ?_).mono ?_
    · intro j hj
      obtain rfl | rfl : j = 0 ∨ j = 1 := by omega
      all_goals simp
    rintro e w4 ⟨rfl, hb4⟩
    have ho : orN 2 (fun j => if j = 0 then (a.size : Int) - b.size else c) = orI ((a.size : Int) - b.size) c := by
      rw [orN_succ, orN_succ]
      show orI (orI 0 _) _ = _
      rw [orI_zero]
      rfl
    rw [ho]
    have hb05 := below_step hb02 (below_step (below_alloc _ _) hb4)
    clear ho hb4
    go_wp2_with fail
    go_ret
    rw [HM.out]
    exact ⟨rfl, hb05⟩

theorem enters_cmpPart : ∀ args w, (callFunc 155 args).run Tryz.prog w = .ok (.enter 155 args) w := Go.Proofs.enters_of Tryz.func155 (by kernel_rfl) rfl

theorem cmpList_drop (n m : Nat) (L M : Nat → ByteArray) (k : Nat) (h1 : k < n) (h2 : k < m) : cmpList ((lstF n L).drop k) ((lstF m M).drop k) = orI (cmpPart (L k).data.toList (M k).data.toList) (cmpList ((lstF n L).drop (k + 1)) ((lstF m M).drop (k + 1))) := by
  have e : ∀ (n : Nat) (L : Nat → ByteArray), k < n → (lstF n L).drop k = (L k).data.toList :: (lstF n L).drop (k + 1) := fun n L h => by
    rw [List.drop_eq_getElem_cons (by rw [lstF_length]; exact h)]
    congr 1
    exact Option.some.inj ((List.getElem?_eq_getElem _).symm.trans (lstF_get n L k h))
  rw [e n L h1, e m M h2, cmpList]

set_option maxHeartbeats 400000 in
/-- slices.CompareFunc with comparePart -/
theorem cmpFunc_calls (a1 a2 : Option Addr) (n c1 m c2 : Nat) (L M : Nat → ByteArray) (w : World) (hn : n ≤ 1000000001) (hm : m ≤ 1000000001)
    (h1 : ∀ j, j < n → ∃ b o, a1 = some ⟨b, o, none⟩ ∧ w.cell? ⟨b, o + j, none⟩ = some (.string (L j))) (h2 : ∀ j, j < m → ∃ b o, a2 = some ⟨b, o, none⟩ ∧ w.cell? ⟨b, o + j, none⟩ = some (.string (M j)))
    (hL : ∀ j, j < n → (L j).size ≤ 1000000000) (hM : ∀ j, j < m → (M j).size ≤ 1000000000) :
    Calls Tryz.prog 154 #[.slice a1 n c1, .slice a2 m c2, .func (.func 155) #[] #[]] w fun e w' => e = .returned (.int .i64 (cmpList (lstF n L) (lstF m M))) ∧ Below w.heap.size w w' := by
  have H1 := Lib.hid h1
  have H2 := Lib.hid h2
  have HL := Lib.hid hL
  have HM := Lib.hid hM
  clear h1 h2 hL hM
  go_enter Tryz.func154, Tryz.ntmps154
  go_wp2_with fail
  go_loopw [13] (fun i wr => ∃ k : Nat, k ≤ n ∧ k ≤ m ∧ i = .int .i64 k ∧ Below w.heap.size w wr ∧ Hid (cmpList (lstF n L) (lstF m M) = cmpList ((lstF n L).drop k) ((lstF m M).drop k))) (fun i _ => n - (intOf i).toNat)
  case atStart => exact ⟨0, by omega, by omega, rfl, Below.refl _ _, Lib.hid rfl⟩
  case round =>
    obtain ⟨k, hk, hkm, rfl, hbl, HA⟩ := hrel
    by_cases hlt : k < n
    · obtain ⟨b1, o1, rfl, d1⟩ := H1.out k hlt
      replace d1 := Below.cell_some hbl d1
      by_cases hlm : k < m
      · obtain ⟨b2, o2, rfl, d2⟩ := H2.out k hlm
        replace d2 := Below.cell_some hbl d2
        have hcall := cmpPart_calls (L k) (M k) wr (HL.out k hlt) (HM.out k hlm)
        have hst := cmpList_drop n m L M k hlt hlm
        generalize cmpPart (L k).data.toList (M k).data.toList = c at hcall hst
        by_cases hc : c = 0
        · rw [hc, orI_zero] at hst
          subst hc
          have HS := Lib.hid (HA.out.trans hst)
          clear hst
          go_wp2_with fail
          refine hcall.mono ?_
          rintro e w' ⟨rfl, hb2⟩
          go_wp2_with fail
          go_roundw
          case rel => exact ⟨k + 1, by omega, by omega, by go_num, below_step hbl hb2, HS⟩
          case measure => simp [intOf]; omega
        · rw [orI_left hc] at hst
          have HS := Lib.hid (HA.out.trans hst)
          have hc2 : (c == 0) = false := beq_eq_false_iff_ne.2 hc
          clear hst hc
          go_wp2_with fail
          refine hcall.mono ?_
          rintro e w' ⟨rfl, hb2⟩
          go_wp2_with fail
          go_ret
          rw [HS.out]
          exact ⟨rfl, below_step hbl hb2⟩
      · obtain rfl : k = m := by omega
        have HS : Hid (cmpList (lstF n L) (lstF k M) = 1) := by
          refine Lib.hid (HA.out.trans ?_)
          rw [List.drop_of_length_le (l := lstF k M) (by rw [lstF_length]; exact Nat.le_refl _), List.drop_eq_getElem_cons (by rw [lstF_length]; exact hlt)]
          rfl
        go_wp2_with fail
        go_ret
        rw [HS.out]
        exact ⟨rfl, hbl⟩
    · obtain rfl : k = n := by omega
      by_cases hlm : k < m
      · have HS : Hid (cmpList (lstF k L) (lstF m M) = -1) := by
          refine Lib.hid (HA.out.trans ?_)
          rw [List.drop_of_length_le (l := lstF k L) (by rw [lstF_length]; exact Nat.le_refl _), List.drop_eq_getElem_cons (by rw [lstF_length]; exact hlm)]
          rfl
        go_wp2_with fail
        go_ret
        rw [HS.out]
        exact ⟨rfl, hbl⟩
      · obtain rfl : k = m := by omega
        have HS : Hid (cmpList (lstF k L) (lstF k M) = 0) := by
          refine Lib.hid (HA.out.trans ?_)
          rw [List.drop_of_length_le (l := lstF k L) (by rw [lstF_length]; exact Nat.le_refl _), List.drop_of_length_le (l := lstF k M) (by rw [lstF_length]; exact Nat.le_refl _)]
          rfl
        go_wp2_with fail
        go_ret
        rw [HS.out]
        exact ⟨rfl, hbl⟩

theorem verNum_le (s : Str) (i : Nat) : verNum s i ≤ 999999 := by
  unfold verNum
  split
  · exact (numberOf_le _).1
  · exact Nat.zero_le _

theorem verPre_small (s : Str) : (verPre s).length ≤ 5 ∧ ∀ w ∈ verPre s, w.length ≤ 8 ∧ partErr w = 0 := by
  unfold verPre
  by_cases h : verErr s = 0
  · rw [if_pos h]
    obtain ⟨_, _, _, h4, h5⟩ := (verErr_zero s).1 h
    exact ⟨h5, fun w hw => ⟨(partErr_zero (h4 w hw)).2.1, h4 w hw⟩⟩
  · rw [if_neg h]
    exact ⟨by decide, fun w hw => by cases hw⟩

set_option maxHeartbeats 1000000 in
theorem verCompare_calls (ks : List Nat) (A : Nat → Addr) (a b : ByteArray) (w : World) (hE : EnvP ks A w) (ha : a.size ≤ 1000000000) (hb : b.size ≤ 1000000000) :
    Calls Tryz.prog 105 #[.string a, .string b] w fun e w' => e = .returned (.int .i64 (verCmp a.data.toList b.data.toList)) ∧ Below w.heap.size w w' := by
  have la0 := verNum_le a.data.toList 0
  have la1 := verNum_le a.data.toList 1
  have la2 := verNum_le a.data.toList 2
  have lb0 := verNum_le b.data.toList 0
  have lb1 := verNum_le b.data.toList 1
  have lb2 := verNum_le b.data.toList 2
  have hm : verCmp a.data.toList b.data.toList = (let n := orI ((verNum a.data.toList 0 : Int) - verNum b.data.toList 0) (orI ((verNum a.data.toList 1 : Int) - verNum b.data.toList 1) ((verNum a.data.toList 2 : Int) - verNum b.data.toList 2)); if n = 0 ∧ decide ((verPre a.data.toList).length = 0) ≠ decide ((verPre b.data.toList).length = 0) then ((verPre b.data.toList).length : Int) - (verPre a.data.toList).length else orI n (cmpList (verPre a.data.toList) (verPre b.data.toList))) := rfl
  generalize verCmp a.data.toList b.data.toList = R at hm ⊢
  have HM := Lib.hid hm
  clear hm
  go_enter Tryz.func105, Tryz.ntmps105
  go_wp2_with fail
  refine (verSplit_calls ks A a w hE ha).mono ?_
  rintro e w1 ⟨hb1, va, rfl, a1, n1, cap1, L1, rfl, HL1, hn1, hn1', hc1⟩
  go_wp2_with fail
  have hbA := below_alloc w1 (.cells #[.int .i64 (verNum a.data.toList 0 : Nat), .int .i64 (verNum a.data.toList 1 : Nat), .int .i64 (verNum a.data.toList 2 : Nat), .slice a1 n1 cap1] 143)
  have hzA := box4_alloc w1 (.int .i64 (verNum a.data.toList 0 : Nat)) (.int .i64 (verNum a.data.toList 1 : Nat)) (.int .i64 (verNum a.data.toList 2 : Nat)) (.slice a1 n1 cap1) 143
  have hb1A := below_step hb1 hbA
  refine (verSplit_calls ks A b _ (hE.below hb1A) hb).mono ?_
  rintro e w2 ⟨hb2, vb, rfl, a2, n2, cap2, L2, rfl, HL2, hn2, hn2', hc2⟩
  have hbB := below_alloc w2 (.cells #[.int .i64 (verNum b.data.toList 0 : Nat), .int .i64 (verNum b.data.toList 1 : Nat), .int .i64 (verNum b.data.toList 2 : Nat), .slice a2 n2 cap2] 143)
  have hzB := box4_alloc w2 (.int .i64 (verNum b.data.toList 0 : Nat)) (.int .i64 (verNum b.data.toList 1 : Nat)) (.int .i64 (verNum b.data.toList 2 : Nat)) (.slice a2 n2 cap2) 143
  have hzA2 := (hzA.below hb2).below hbB
  have hb2B := below_step (below_step hb1A hb2) hbB
  obtain ⟨p0, p1, p2, p3, _⟩ := hzA2
  obtain ⟨q0, q1, q2, q3, _⟩ := hzB
  have hs1 := verPre_small a.data.toList
  have hs2 := verPre_small b.data.toList
  rw [HL1, lstF_length] at hs1
  rw [HL2, lstF_length] at hs2
  have hL1 : ∀ j, j < n1 → (L1 j).size ≤ 1000000000 := fun j hj => by
    have := (hs1.2 _ (List.mem_of_getElem? (lstF_get n1 L1 j hj))).1
    rw [size_eq]; omega
  have hL2 : ∀ j, j < n2 → (L2 j).size ≤ 1000000000 := fun j hj => by
    have := (hs2.2 _ (List.mem_of_getElem? (lstF_get n2 L2 j hj))).1
    rw [size_eq]; omega
  have hm1 := hs1.1
  have hm2 := hs2.1
  have hcf := fun (W : World) (h : Below w1.heap.size w1 W) (h' : Below w2.heap.size w2 W) => cmpFunc_calls a1 a2 n1 cap1 n2 cap2 L1 L2 W (by omega) (by omega)
    (fun j hj => let ⟨b, o, e, h2⟩ := hc1 j hj; ⟨b, o, e, Below.cell_some h h2⟩) (fun j hj => let ⟨b, o, e, h2⟩ := hc2 j hj; ⟨b, o, e, Below.cell_some h' h2⟩) hL1 hL2
  have HCF := Lib.hid hcf
  have HM2 : Hid (R = if orI ((verNum a.data.toList 0 : Int) - verNum b.data.toList 0) (orI ((verNum a.data.toList 1 : Int) - verNum b.data.toList 1) ((verNum a.data.toList 2 : Int) - verNum b.data.toList 2)) = 0 ∧ decide (n1 = 0) ≠ decide (n2 = 0) then (n2 : Int) - n1 else orI (orI ((verNum a.data.toList 0 : Int) - verNum b.data.toList 0) (orI ((verNum a.data.toList 1 : Int) - verNum b.data.toList 1) ((verNum a.data.toList 2 : Int) - verNum b.data.toList 2))) (cmpList (lstF n1 L1) (lstF n2 L2))) := Lib.hid (by
    rw [HM.out]
    show (if _ ∧ _ then _ else _) = _
    rw [HL1, HL2, lstF_length, lstF_length])
  clear hs1 hs2 hcf HM HL1 HL2 hL1 hL2 hc1 hc2 hzA hb1A
  generalize cmpList (lstF n1 L1) (lstF n2 L2) = cl at HCF HM2
  have hb12 : Below w1.heap.size w1 w2 := below_step hbA hb2
  have hpz : w1.heap.size < w2.heap.size := lt_of_cell (show w2.cell? ⟨w1.heap.size, 0, none⟩ = some _ from (box4_alloc w1 (.int .i64 (verNum a.data.toList 0 : Nat)) (.int .i64 (verNum a.data.toList 1 : Nat)) (.int .i64 (verNum a.data.toList 2 : Nat)) (.slice a1 n1 cap1) 143 |>.below hb2).c0)
  generalize verNum a.data.toList 0 = x0 at *
  generalize verNum a.data.toList 1 = x1 at *
  generalize verNum a.data.toList 2 = x2 at *
  generalize verNum b.data.toList 0 = y0 at *
  generalize verNum b.data.toList 1 = y1 at *
  generalize verNum b.data.toList 2 = y2 at *
  have hmn : ∀ n, n = orI ((x0 : Int) - y0) (orI ((x1 : Int) - y1) ((x2 : Int) - y2)) → -1000000 ≤ n ∧ n ≤ 1000000 := fun n e => by
    rw [e]; unfold orI; split <;> (try split) <;> omega
  go_wp2_with fail
  refine (cmpOr_calls (w2.heap.size + 1) 3 (fun j => if j = 0 then (x0 : Int) - y0 else if j = 1 then (x1 : Int) - y1 else (x2 : Int) - y2) _ (by decide) ?_).mono ?_
  · intro j hj
    obtain rfl | rfl | rfl : j = 0 ∨ j = 1 ∨ j = 2 := by omega
    all_goals simp
  rintro e w4 ⟨rfl, hb4⟩
  have ho : orN 3 (fun j => if j = 0 then (x0 : Int) - y0 else if j = 1 then (x1 : Int) - y1 else (x2 : Int) - y2) = orI ((x0 : Int) - y0) (orI ((x1 : Int) - y1) ((x2 : Int) - y2)) := by
    rw [orN_succ, orN_succ, orN_succ]
    show orI (orI (orI 0 _) _) _ = _
    rw [orI_zero]
    simp only [↓reduceIte]
    unfold orI
    by_cases h1 : (x0 : Int) - y0 = 0
    · simp [h1]
    · simp [h1]
  rw [ho]
  have hN := hmn _ rfl
  clear ho hmn
  generalize orI ((x0 : Int) - y0) (orI ((x1 : Int) - y1) ((x2 : Int) - y2)) = N at hN HM2 ⊢
  have hbC := below_step (below_alloc _ _) hb4
  have p3' := Below.cell_some hbC p3
  have q3' := Below.cell_some hbC q3
  have hbW := below_step hb2B hbC
  have hb14 : Below w1.heap.size w1 w4 := below_step (below_step hb12 hbB) hbC
  have hb24 : Below w2.heap.size w2 w4 := below_step hbB hbC
  clear p0 p1 p2 p3 q0 q1 q2 q3 la0 la1 la2 lb0 lb1 lb2 hb4 hbC hb2B hb12 hbB hb1 hb2 hbA hpz
  have go_on : Hid (R = orI N cl) → Hid (∀ W, Below w1.heap.size w1 W → Below w2.heap.size w2 W → Calls Tryz.prog 154 #[.slice a1 n1 cap1, .slice a2 n2 cap2, .func (.func 155) #[] #[]] W fun e w' => e = .returned (.int .i64 cl) ∧ Below W.heap.size W w') := fun _ => HCF
  by_cases h0 : N = 0
  · subst h0
    by_cases h1 : n1 = 0
    · subst h1
      by_cases h2 : n2 = 0
      · subst h2
        have HR : Hid (R = orI 0 cl) := Lib.hid (by rw [HM2.out, if_neg (by simp)])
        clear go_on
        go_wp2_with fail
        refine (HCF.out _ hb14 hb24).mono ?_
        rintro e w5 ⟨rfl, hb5⟩
        go_wp2_with fail
        refine (cmpOr_calls _ 2 (fun j => if j = 0 then 0 else cl) _ (by decide) ?_).mono ?_
        · intro j hj
          obtain rfl | rfl : j = 0 ∨ j = 1 := by omega
          all_goals simp
        rintro e w6 ⟨rfl, hb6⟩
        have ho : orN 2 (fun j => if j = 0 then 0 else cl) = orI 0 cl := by
          rw [orN_succ, orN_succ]
          show orI (orI 0 _) _ = _
          rw [orI_zero]
          rfl
        rw [ho]
        have hbE := below_step hbW (below_step hb5 (below_step (below_alloc _ _) hb6))
        clear ho hb6 hb5
        go_wp2_with fail
        go_ret
        rw [HR.out]
        exact ⟨rfl, hbE⟩
      · have HR : Hid (R = (n2 : Int) - (0 : Nat)) := Lib.hid (by rw [HM2.out, if_pos ⟨rfl, by simp [h2]⟩])
        have h2' : ((n2 : Int) == 0) = false := beq_eq_false_iff_ne.2 (by omega)
        clear h2
        go_wp2_with fail
        go_ret
        rw [HR.out]
        exact ⟨by simp, hbW⟩
    · by_cases h2 : n2 = 0
      · subst h2
        have HR : Hid (R = ((0 : Nat) : Int) - n1) := Lib.hid (by rw [HM2.out, if_pos ⟨rfl, by simp [h1]⟩])
        have h1' : ((n1 : Int) == 0) = false := beq_eq_false_iff_ne.2 (by omega)
        clear h1
        go_wp2_with fail
        go_ret
        rw [HR.out]
        exact ⟨by simp, hbW⟩
      · have HR : Hid (R = orI 0 cl) := Lib.hid (by rw [HM2.out, if_neg (by simp [h1, h2])])
        have h1' : ((n1 : Int) == 0) = false := beq_eq_false_iff_ne.2 (by omega)
        have h2' : ((n2 : Int) == 0) = false := beq_eq_false_iff_ne.2 (by omega)
        clear go_on h1 h2
        go_wp2_with fail
        refine (HCF.out _ hb14 hb24).mono ?_
        rintro e w5 ⟨rfl, hb5⟩
        go_wp2_with fail
        refine (cmpOr_calls _ 2 (fun j => if j = 0 then 0 else cl) _ (by decide) ?_).mono ?_
        · intro j hj
          obtain rfl | rfl : j = 0 ∨ j = 1 := by omega
          all_goals simp
        rintro e w6 ⟨rfl, hb6⟩
        have ho : orN 2 (fun j => if j = 0 then 0 else cl) = orI 0 cl := by
          rw [orN_succ, orN_succ]
          show orI (orI 0 _) _ = _
          rw [orI_zero]
          rfl
        rw [ho]
        have hbE := below_step hbW (below_step hb5 (below_step (below_alloc _ _) hb6))
        clear ho hb6 hb5
        go_wp2_with fail
        go_ret
        rw [HR.out]
        exact ⟨rfl, hbE⟩
  · have HR : Hid (R = orI N cl) := Lib.hid (by rw [HM2.out, if_neg (fun h => h0 h.1)])
    have h0' : (N == 0) = false := beq_eq_false_iff_ne.2 h0
    clear h0 go_on
    go_wp2_with fail
    refine (HCF.out _ hb14 hb24).mono ?_
    rintro e w5 ⟨rfl, hb5⟩
    go_wp2_with fail
    refine (cmpOr_calls _ 2 (fun j => if j = 0 then N else cl) _ (by decide) ?_).mono ?_
    · intro j hj
      obtain rfl | rfl : j = 0 ∨ j = 1 := by omega
      all_goals simp
    rintro e w6 ⟨rfl, hb6⟩
    have ho : orN 2 (fun j => if j = 0 then N else cl) = orI N cl := by
      rw [orN_succ, orN_succ]
      show orI (orI 0 _) _ = _
      rw [orI_zero]
      rfl
    rw [ho]
    have hbE := below_step hbW (below_step hb5 (below_step (below_alloc _ _) hb6))
    clear ho hb6 hb5
    go_wp2_with fail
    go_ret
    rw [HR.out]
    exact ⟨rfl, hbE⟩

/-- ver.Less -/
theorem verLess_calls (ks : List Nat) (A : Nat → Addr) (a b : ByteArray) (w : World) (hE : EnvP ks A w) (ha : a.size ≤ 1000000000) (hb : b.size ≤ 1000000000) :
    Calls Tryz.prog 82 #[.string a, .string b] w fun e w' => e = .returned (.bool (verLess a.data.toList b.data.toList)) ∧ Below w.heap.size w w' := by
  have hm : verLess a.data.toList b.data.toList = decide (verErr a.data.toList = 0 ∧ verErr b.data.toList = 0 ∧ verCmp a.data.toList b.data.toList < 0) := rfl
  generalize verLess a.data.toList b.data.toList = R at hm ⊢
  have HM := Lib.hid hm
  clear hm
  by_cases h1 : verErr a.data.toList = 0
  · by_cases h2 : verErr b.data.toList = 0
    · have HR : Hid (R = decide (verCmp a.data.toList b.data.toList < 0)) := Lib.hid (by rw [HM.out]; simp [h1, h2])
      have H1 := Lib.hid h1
      have H2 := Lib.hid h2
      have hcall := fun W hW => verCompare_calls ks A a b W hW ha hb
      generalize verCmp a.data.toList b.data.toList = c at hcall HR
      have HC := Lib.hid hcall
      clear h1 h2 hcall
      go_enter Tryz.func82, Tryz.ntmps82
      go_wp2_with fail
      refine (verCheck_calls ks A a w hE ha).mono ?_
      rintro e w1 ⟨rfl, hb1⟩
      rw [H1.out, errV_zero]
      have hE1 := hE.below hb1
      go_wp2_with fail
      refine (verCheck_calls ks A b w1 hE1 hb).mono ?_
      rintro e w2 ⟨rfl, hb2⟩
      rw [H2.out, errV_zero]
      have hE2 := hE1.below hb2
      go_wp2_with fail
      refine (HC.out w2 hE2).mono ?_
      rintro e w3 ⟨rfl, hb3⟩
      have hb13 := below_step (below_step hb1 hb2) hb3
      go_wp2_with fail
      go_ret
      rw [HR.out]
      exact ⟨rfl, hb13⟩
    · have HR : Hid (R = false) := Lib.hid (by rw [HM.out]; simp [h2])
      have H1 := Lib.hid h1
      have H2 := Lib.hid h2
      clear h1 h2
      go_enter Tryz.func82, Tryz.ntmps82
      go_wp2_with fail
      refine (verCheck_calls ks A a w hE ha).mono ?_
      rintro e w1 ⟨rfl, hb1⟩
      rw [H1.out, errV_zero]
      have hE1 := hE.below hb1
      go_wp2_with fail
      refine (verCheck_calls ks A b w1 hE1 hb).mono ?_
      rintro e w2 ⟨rfl, hb2⟩
      rw [errV_pos A H2.out]
      have hb12 := below_step hb1 hb2
      go_wp2_with fail
      go_ret
      rw [HR.out]
      exact ⟨rfl, hb12⟩
  · have HR : Hid (R = false) := Lib.hid (by rw [HM.out]; simp [h1])
    have H1 := Lib.hid h1
    clear h1
    go_enter Tryz.func82, Tryz.ntmps82
    go_wp2_with fail
    refine (verCheck_calls ks A a w hE ha).mono ?_
    rintro e w1 ⟨rfl, hb1⟩
    rw [errV_pos A H1.out]
    go_wp2_with fail
    go_ret
    rw [HR.out]
    exact ⟨rfl, hb1⟩
end Go.Proofs.Pw

/- The model's order of strings is that of their bytes. -/
namespace Go.Proofs.Pw
open Go.RowKit
open Go.Lib hiding intOf

theorem bytesLess_iff : ∀ a b : Str, Op.bytesLess a b = decide (compareBytes a b < 0)
  | [], [] => by simp [Op.bytesLess, compareBytes]
  | [], _ :: _ => by simp [Op.bytesLess, compareBytes]
  | _ :: _, [] => by simp [Op.bytesLess, compareBytes]
  | a :: r, b :: t => by
    rw [Op.bytesLess, compareBytes, bytesLess_iff r t]
    by_cases h : a < b
    · simp [h]
    · by_cases h2 : b < a
      · have : ¬ a = b := fun e => by subst e; exact h h2
        simp [h, h2, this]
      · have : a = b := by
          rw [UInt8.lt_iff_toNat_lt] at h h2
          exact UInt8.toNat_inj.1 (by omega)
        subst this
        simp
end Go.Proofs.Pw

/- mod.Ahead. Conditions: texts of at most 1000000000 bytes. -/
namespace Go.Proofs.Pw
open Go.RowKit
open Go.Lib hiding intOf

theorem ahead_eq (p v q u : ByteArray) : modAhead (p.data.toList, v.data.toList) (q.data.toList, u.data.toList) = (Op.bytesLess p.toList q.toList || (p.toList == q.toList && verLess v.data.toList u.data.toList)) := by
  rw [toList_data, toList_data, bytesLess_iff]
  unfold modAhead
  congr 2
  rw [Bool.eq_iff_iff]
  simp

set_option maxHeartbeats 1000000 in
theorem modAhead_calls (ks : List Nat) (A : Nat → Addr) (p v q u : ByteArray) (w : World) (hE : EnvP ks A w) (hv : v.size ≤ 1000000000) (hu : u.size ≤ 1000000000) :
    Calls Tryz.prog 156 #[.agg #[.string p, .string v], .agg #[.string q, .string u]] w fun e w' => e = .returned (.bool (modAhead (p.data.toList, v.data.toList) (q.data.toList, u.data.toList))) ∧ Below w.heap.size w w' := by
  have hm := ahead_eq p v q u
  have hl := fun W hW => verLess_calls ks A v u W hW hv hu
  have hb1 := below_alloc w (.cells #[.string p, .string v] 38)
  have hB := below_step hb1 (below_alloc _ (.cells #[.string q, .string u] 38))
  replace hE := hE.below hB
  generalize modAhead (p.data.toList, v.data.toList) (q.data.toList, u.data.toList) = R at hm ⊢
  generalize verLess v.data.toList u.data.toList = X at hl hm
  replace hm := Lib.hid hm
  replace hl := Lib.hid hl
  clear hb1
  cases h1 : Op.bytesLess p.toList q.toList with
  | true =>
    have HF : Hid (R = true) := Lib.hid (by rw [hm.out, h1]; rfl)
    go_enter Tryz.func156, Tryz.ntmps156
    go_wp2_with fail
    go_ret
    rw [HF.out]
    exact ⟨rfl, hB⟩
  | false =>
    cases h2 : (p.toList == q.toList) with
    | true =>
      have HF : Hid (R = X) := Lib.hid (by rw [hm.out, h1, h2]; simp)
      have h3 : p.toList = q.toList := beq_iff_eq.1 h2
      have h4 : p = q := by rw [toList_data, toList_data] at h3; exact bytes_eq.1 h3
      subst h4
      clear h2 h3
      go_enter Tryz.func156, Tryz.ntmps156
      go_wp2_with fail
      refine (hl.out _ hE).mono ?_
      rintro e w1 ⟨rfl, hb⟩
      replace hB := below_step hB hb
      clear hb
      go_wp2_with fail
      go_ret
      rw [HF.out]
      exact ⟨rfl, hB⟩
    | false =>
      have HF : Hid (R = false) := Lib.hid (by rw [hm.out, h1, h2]; rfl)
      have h3 : p.toList ≠ q.toList := beq_eq_false_iff_ne.1 h2
      have h4 : p ≠ q := fun e => h3 (by rw [e])
      go_enter Tryz.func156, Tryz.ntmps156
      go_wp2_with fail
      go_ret
      rw [HF.out]
      exact ⟨rfl, hB⟩

end Go.Proofs.Pw

/- A region that draws its order, whose operations only read and whose callees may lay blocks of their own: walked once, in the order of the text, over the class 'Below'. -/
namespace Go.Proofs.Pw
open Go.RowKit

/-- w with blocks behind it, at another place of its tape -/
def patch (w : World) (d : Nat) (os : Array Obj) : World := { w with heap := w.heap ++ os, drawn := d }
structure PatchBy where
  d : Nat
  os : Array Obj
  deriving Inhabited

theorem below_patch (w : World) (d : Nat) (os : Array Obj) : Below w.heap.size w (patch w d os) :=
  ⟨rfl, rfl, rfl, by simp [patch], fun k hk => by simp [patch, Array.getElem?_append, hk]⟩
theorem patch_of_below {w w' : World} (h : Below w.heap.size w w') : ∃ p : PatchBy, w' = patch w p.d p.os := by
  refine ⟨⟨w'.drawn, w'.heap.extract w.heap.size w'.heap.size⟩, ?_⟩
  have hh : w'.heap = w.heap ++ w'.heap.extract w.heap.size w'.heap.size := by
    have hs := h.size
    apply Array.ext_getElem?
    intro i
    rw [Array.getElem?_append]
    split
    · rename_i hi; exact h.block i hi
    · rename_i hi
      rw [Array.getElem?_extract]
      split
      · congr 1; omega
      · rename_i hj
        rw [Array.getElem?_eq_none]
        omega
  obtain ⟨heap, tape, drawn, os, output⟩ := w'
  have h1 := h.os
  have h2 := h.tape
  have h3 := h.output
  simp only at h1 h2 h3 hh
  subst h1 h2 h3
  show World.mk heap _ _ _ _ = World.mk (w.heap ++ _) _ _ _ _
  congr 1
theorem cell_patch {w : World} {a : Addr} {v : Value} (h : w.cell? a = some v) (d : Nat) (os : Array Obj) : (patch w d os).cell? a = some v :=
  Below.cell_some (below_patch w d os) h
theorem Calls.patch_of {P : Program} {f : FuncId} {args : Array Value} {w : World} {d : Nat} {os : Array Obj} {v : Value}
    (h : Calls P f args (patch w d os) fun e w' => e = .returned v ∧ Below (patch w d os).heap.size (patch w d os) w') : Calls P f args (patch w d os) fun e w'' => e = .returned v ∧ ∃ p : PatchBy, w'' = patch w p.d p.os :=
  h.mono fun _ _ ⟨he, hb⟩ => ⟨he, patch_of_below (below_step (below_patch w d os) hb)⟩
theorem wp_region_quiet_patch {P : Program} {id : Nat} {Q : Exit → Act → World → Prop} {a : Act} {w : World} {l : List Oper} (hm : P.follows .mixedOrders = true) (hB : Region.lexB .any l.toArray = true)
    (h : wpQuiet P l.toArray (fun w' => ∃ p : PatchBy, w' = patch w p.d p.os) (fun a' => ∀ w', (∃ p : PatchBy, w' = patch w p.d p.os) → Q .normal a' w') l a) : (Code.region id l.toArray true).wp P Q a w :=
  wp_region_quiet (C := fun w' => ∃ p : PatchBy, w' = patch w p.d p.os) hm hB ⟨⟨w.drawn + 1, #[]⟩, by simp [patch]⟩ (by simpa using h)
end Go.Proofs.Pw

/- file.each, file.Check. Conditions: texts of at most 1000000 bytes, lists of at most 1000000. -/
namespace Go.Proofs.Pw
open Go.RowKit
open Go.Lib hiding intOf

/-- an error with its place: none; bare (place -1); a fault in a box -/
def FaultAt (A : Nat → Addr) (w : World) (v : Value) (r : Nat × Int) : Prop :=
  (r.1 = 0 ∧ r.2 = -1 ∧ v = .nilIface) ∨ (r.1 ≠ 0 ∧ r.2 = -1 ∧ v = errV A r.1) ∨
  (r.1 ≠ 0 ∧ ∃ b : Nat, v = .iface 102 (.pointer (some ⟨b, 0, none⟩)) ∧ w.cell? ⟨b, 0, none⟩ = some (.int .i64 r.2) ∧ w.cell? ⟨b, 1, none⟩ = some (errV A r.1))
theorem FaultAt.below {A : Nat → Addr} {w w' : World} {v : Value} {r : Nat × Int} (h : FaultAt A w v r) (hb : Below w.heap.size w w') : FaultAt A w' v r := by
  rcases h with h | h | ⟨h, b, h1, h2, h3⟩
  · exact .inl h
  · exact .inr (.inl h)
  · exact .inr (.inr ⟨h, b, h1, Below.cell_some hb h2, Below.cell_some hb h3⟩)

structure Box3 (w : World) (b : Nat) (v0 v1 v2 : Value) : Prop where
  c0 : w.cell? ⟨b, 0, none⟩ = some v0
  c1 : w.cell? ⟨b, 1, none⟩ = some v1
  c2 : w.cell? ⟨b, 2, none⟩ = some v2
theorem Box3.below {w w' : World} {b : Nat} {v0 v1 v2 : Value} (h : Box3 w b v0 v1 v2) (hb : Below w.heap.size w w') : Box3 w' b v0 v1 v2 :=
  ⟨Below.cell_some hb h.c0, Below.cell_some hb h.c1, Below.cell_some hb h.c2⟩
theorem box3_alloc (w : World) (v0 v1 v2 : Value) (t : TypeId) : Box3 (w.alloc (.cells #[v0, v1, v2] t)) w.heap.size v0 v1 v2 := ⟨by simp, by simp, by simp⟩

/-- a test of a place, by a function value -/
def EachT (g : Nat) (lb : Array Value) (A : Nat → Addr) (e : Nat → Nat) (n base : Nat) (w : World) : Prop :=
  ∀ W, Below base w W → ∀ i : Nat, i < n → Calls Tryz.prog g (#[.int .i64 i] ++ lb) W fun e' w'' => e' = .returned (errV A (e i)) ∧ Below W.heap.size W w''


theorem wrap_nat (k : Nat) (h : k ≤ 1000000000) : IntKind.i64.wrap (k : Int) = (k : Int) := by
  simp [IntKind.wrap, IntKind.bits, IntKind.signed]; omega

theorem leq_eq (x y : ByteArray) : (Op.bytesLess x.toList y.toList || x.toList == y.toList) = decide (compareBytes x.data.toList y.data.toList ≤ 0) := by
  rw [toList_data, toList_data, bytesLess_iff]
  generalize x.data.toList = a
  generalize y.data.toList = b
  by_cases h : compareBytes a b < 0
  · rw [decide_eq_true h, decide_eq_true (by omega)]; rfl
  · rw [decide_eq_false h, Bool.false_or]
    by_cases e : a = b
    · subst e
      rw [compareBytes_ord.self]; simp
    · rw [beq_eq_false_iff_ne.2 e]
      have : compareBytes a b ≠ 0 := fun h0 => e (compareBytes_zero h0)
      rw [decide_eq_false (by omega)]



/-! ### is a module in a list -/
theorem bytes_pair {p v q u : ByteArray} : ((p.data.toList, v.data.toList) : Md) = (q.data.toList, u.data.toList) ↔ p = q ∧ v = u :=
  ⟨fun e => ⟨bytes_eq.1 (Prod.ext_iff.1 e).1, bytes_eq.1 (Prod.ext_iff.1 e).2⟩, fun e => by rw [e.1, e.2]⟩


end Go.Proofs.Pw

/- file.Check. Conditions: texts of at most 1000000 bytes, lists of at most 1000000. -/
namespace Go.Proofs.Pw
open Go.RowKit
open Go.Lib hiding intOf

/-- which sentinels package file asks for -/
def FileKs (ks : List Nat) : Prop := 3 ∈ ks ∧ 4 ∈ ks ∧ 5 ∈ ks ∧ 7 ∈ ks ∧ 8 ∈ ks ∧ 9 ∈ ks
/-- a list of modules whose texts are short -/
def Short (l : List Md) : Prop := l.length ≤ 1000000 ∧ ∀ m ∈ l, m.1.length ≤ 1000000 ∧ m.2.length ≤ 1000000
theorem short_F {n : Nat} {P V : Nat → ByteArray} (h : Short (mdF n P V)) : n ≤ 1000000 ∧ ∀ j, j < n → (P j).size ≤ 1000000 ∧ (V j).size ≤ 1000000 := by
  refine ⟨by have := h.1; rwa [mdF_length] at this, fun j hj => ?_⟩
  have := h.2 _ (List.mem_of_getElem? (mdF_get n P V j hj))
  rw [size_eq, size_eq]
  exact this


end Go.Proofs.Pw

/- R.SameMods; LongMods of the statements. -/
namespace Go.Proofs.Pw
open Go.RowKit
open Go.Lib hiding intOf

theorem mdF_ext {n : Nat} {P V Q U : Nat → ByteArray} : mdF n P V = mdF n Q U ↔ ∀ j, j < n → P j = Q j ∧ V j = U j := by
  simp [mdF, ByteArray.ext_iff]

set_option maxRecDepth 100000 in
theorem sameMods_calls (v u : Value) (l m : List Md) (w : World) (h : ModsAt w v l) (g : ModsAt w u m) :
    Calls Tryz.prog 17 #[v, u] w fun e w' => e = .returned (.bool (decide (l = m))) ∧ Below w.heap.size w w' := by
  obtain ⟨a, n, cap, P, V, rfl, rfl, hn, hcap, hc⟩ := h
  obtain ⟨a', n', cap', Q, U, rfl, rfl, hn', hcap', hc'⟩ := g
  have hg := Tryz.md_guard
  have hq := md_neq
  by_cases hnn : n = n'
  · subst hnn
    replace hc := Lib.hid hc
    replace hc' := Lib.hid hc'
    go_enter Tryz.func17, Tryz.ntmps17
    go_wp2_with fail
    go_loopw [5] (fun i wr => ∃ k : Nat, k ≤ n ∧ i = .int .i64 k ∧ Below w.heap.size w wr ∧ Hid (∀ j, j < k → P j = Q j ∧ V j = U j)) (fun i _ => n - (intOf i).toNat)
    case atStart => exact ⟨0, by omega, rfl, Below.refl _ _, Lib.hid (fun j hj => absurd hj (Nat.not_lt_zero _))⟩
    case round =>
      obtain ⟨k, hk, rfl, hb, HA⟩ := hrel
      by_cases hlt : k < n
      · obtain ⟨b1, o1, rfl, d1, d2⟩ := hc.out k hlt
        obtain ⟨b2, o2, rfl, d3, d4⟩ := hc'.out k hlt
        replace d1 := Below.cell_some hb d1
        replace d2 := Below.cell_some hb d2
        replace d3 := Below.cell_some hb d3
        replace d4 := Below.cell_some hb d4
        by_cases he : P k = Q k ∧ V k = U k
        · have HE := Lib.hid he
          have hd := decide_eq_true he
          clear he
          go_wp2_with fail
          go_region
          all_goals
            go_wp2_with fail
            go_roundw
            case rel =>
              refine ⟨k + 1, by omega, by go_num, hb.drew, Lib.hid (fun j hj => ?_)⟩
              by_cases e : j = k
              · subst e; exact HE.out
              · exact HA.out j (by omega)
            case measure => simp [intOf]; omega
        · have HF : Hid (decide (mdF n P V = mdF n Q U) = false) := Lib.hid (decide_eq_false (fun e => he (mdF_ext.1 e k hlt)))
          have hd := decide_eq_false he
          clear he
          go_wp2_with fail
          go_region
          all_goals
            go_wp2_with fail
            go_ret
            rw [HF.out]
            exact ⟨rfl, hb.drew⟩
      · obtain rfl : k = n := by omega
        have HF : Hid (decide (mdF k P V = mdF k Q U) = true) := Lib.hid (decide_eq_true (mdF_ext.2 HA.out))
        go_wp2_with fail
        go_ret
        rw [HF.out]
        exact ⟨rfl, hb⟩
  · have HF : Hid (decide (mdF n P V = mdF n' Q U) = false) := Lib.hid (decide_eq_false (fun e => hnn (by have := congrArg List.length e; rwa [mdF_length, mdF_length] at this)))
    have hnn2 : ((n : Int) == (n' : Int)) = false := beq_eq_false_iff_ne.2 (by omega)
    clear hc hc' hnn hg hq
    go_enter Tryz.func17, Tryz.ntmps17
    go_wp2_with fail
    go_ret
    rw [HF.out]
    exact ⟨rfl, Below.refl _ _⟩

/-- LongMods: is one too long, or are they too many? -/
def longMods (l : List Md) (most : Nat) : Bool := decide (most < l.length) || l.any fun m => decide (70 < m.1.length) || decide (60 < m.2.length)
/-- as the statement says it -/
def longI (l : List Md) (most : Nat) : Int := if longMods l most then 1 else 0
theorem longI_yes {l : List Md} {most : Nat} (h : longMods l most = true) : longI l most = 1 := by unfold longI; rw [h]; rfl
theorem longI_no {l : List Md} {most : Nat} (h : longMods l most = false) : longI l most = 0 := by unfold longI; rw [h]; rfl
set_option maxRecDepth 100000 in
theorem longMods_calls (v : Value) (l : List Md) (most : Nat) (w : World) (h : ModsAt w v l) :
    Calls Tryz.prog 13 #[v, .int .i64 (most : Nat)] w fun e w' => e = .returned (.int .i64 (longI l most)) ∧ w = w' := by
  obtain ⟨a, n, cap, P, V, rfl, rfl, hn, hcap, hc⟩ := h
  replace hc := Lib.hid hc
  by_cases hm : most < n
  · have hm' : (most : Int) < (n : Int) := by omega
    have HF : Hid (longI (mdF n P V) most = 1) := Lib.hid (longI_yes (by unfold longMods; rw [mdF_length, decide_eq_true hm]; rfl))
    clear hm
    go_enter Tryz.func13, Tryz.ntmps13
    go_wp2_with fail
    go_ret
    rw [HF.out]
    exact ⟨rfl, rfl⟩
  · have hm' : ¬ (most : Int) < (n : Int) := by omega
    have HL : Hid (longMods (mdF n P V) most = (mdF n P V).any fun m => decide (70 < m.1.length) || decide (60 < m.2.length)) := Lib.hid (by unfold longMods; rw [mdF_length, decide_eq_false hm, Bool.false_or])
    clear hm
    go_enter Tryz.func13, Tryz.ntmps13
    go_wp2_with fail
    go_loop [5] (fun i => ∃ k : Nat, k ≤ n ∧ i = .int .i64 k ∧ Hid (((mdF n P V).take k).any (fun m => decide (70 < m.1.length) || decide (60 < m.2.length)) = false)) (fun i => n - (intOf i).toNat)
    case atStart => exact ⟨0, Nat.zero_le _, rfl, Lib.hid rfl⟩
    case round =>
      obtain ⟨k, hk, rfl, HA⟩ := hrel
      by_cases hlt : k < n
      · obtain ⟨b, o, rfl, d1, d2⟩ := hc.out k hlt
        have HT := Lib.hid (mdF_take_succ n P V k hlt)
        have hbad : 70 < (P k).size ∨ 60 < (V k).size → longMods (mdF n P V) most = true := fun h => by
          rw [HL.out, List.any_eq_true]
          refine ⟨_, List.mem_of_getElem? (mdF_get n P V k hlt), ?_⟩
          rw [size_eq, size_eq] at h
          simpa using h
        replace hbad := Lib.hid hbad
        by_cases h1 : 70 < (P k).size
        · have h1' : (70 : Int) < ((P k).size : Int) := by omega
          go_wp2_with fail
          go_ret
          rw [longI_yes (hbad.out (.inl h1))]
          exact ⟨rfl, rfl⟩
        · have h1' : ¬ (70 : Int) < ((P k).size : Int) := by omega
          by_cases h2 : 60 < (V k).size
          · have h2' : (60 : Int) < ((V k).size : Int) := by omega
            go_wp2_with fail
            go_ret
            rw [longI_yes (hbad.out (.inr h2))]
            exact ⟨rfl, rfl⟩
          · have h2' : ¬ (60 : Int) < ((V k).size : Int) := by omega
            have HN : Hid (((mdF n P V).take (k + 1)).any (fun m => decide (70 < m.1.length) || decide (60 < m.2.length)) = false) := Lib.hid (by
              rw [HT.out, List.any_append, HA.out]
              rw [size_eq] at h1 h2
              simp only [List.any_cons, List.any_nil, Bool.or_false, Bool.false_or, Bool.or_eq_false_iff, decide_eq_false_iff_not]
              exact ⟨h1, h2⟩)
            go_wp2_with fail
            go_round
            case rel => exact ⟨k + 1, by omega, by go_num, HN⟩
            case measure => simp [intOf]; omega
      · obtain rfl : k = n := by omega
        have HF : Hid (longI (mdF k P V) most = 0) := Lib.hid (longI_no (by rw [HL.out, ← HA.out, mdF_take_all]))
        go_wp2_with fail
        go_ret
        rw [HF.out]
        exact ⟨rfl, rfl⟩
end Go.Proofs.Pw

/- mod.Bare; the statements' own copies; are two files the same. -/
namespace Go.Proofs.Pw
open Go.RowKit
open Go.Lib hiding intOf

theorem asF_nil (w : World) : (Instr.typeAssert .nilIface 29 102 true).run Tryz.prog w = .ok (.tuple #[.pointer none, .bool false]) w := by
  have z := Tryz.zeroValue102 w
  simp [Instr.typeAssert, run_underlying Tryz.underlying102, z]
theorem asF_other (v : Value) (w : World) : (Instr.typeAssert (.iface 271 v) 29 102 true).run Tryz.prog w = .ok (.tuple #[.pointer none, .bool false]) w := by
  have z := Tryz.zeroValue102 w
  simp [Instr.typeAssert, run_underlying Tryz.underlying102, z]
theorem asF_same (v : Value) (w : World) : (Instr.typeAssert (.iface 102 v) 29 102 true).run Tryz.prog w = .ok (.tuple #[v, .bool true]) w := by
  simp [Instr.typeAssert, run_underlying Tryz.underlying102]

/-! ### rows of modules of one's own -/
def mdVs (l : List (ByteArray × ByteArray)) : List Value := l.flatMap fun m => [.string m.1, .string m.2]
def mdTs (l : List (ByteArray × ByteArray)) : List Md := l.map fun m => (m.1.data.toList, m.2.data.toList)
theorem mdVs_length (l) : (mdVs l).length = l.length * 2 := by
  induction l with
  | nil => rfl
  | cons a r ih =>
    show (([.string a.1, .string a.2] : List Value) ++ mdVs r).length = _
    rw [List.length_append, ih]; simp; omega
theorem mdTs_length (l) : (mdTs l).length = l.length := List.length_map ..
theorem mdVs_append (a b) : mdVs (a ++ b) = mdVs a ++ mdVs b := List.flatMap_append ..
theorem mdVs_one {l} : ∀ u ∈ mdVs l, u.oneCell' = true := by
  intro u hu
  simp only [mdVs, List.mem_flatMap] at hu
  obtain ⟨m, _, hu⟩ := hu
  simp at hu
  rcases hu with rfl | rfl <;> rfl
theorem mdVs_get : ∀ {l : List (ByteArray × ByteArray)} {j : Nat} {m : ByteArray × ByteArray}, l[j]? = some m → (mdVs l)[j * 2]? = some (.string m.1) ∧ (mdVs l)[j * 2 + 1]? = some (.string m.2)
  | [], j, m, h => by simp at h
  | a :: r, 0, m, h => by
    simp at h; subst h
    exact ⟨rfl, rfl⟩
  | a :: r, j + 1, m, h => by
    have := mdVs_get (l := r) (j := j) (m := m) (by simpa using h)
    have e : mdVs (a :: r) = .string a.1 :: .string a.2 :: mdVs r := rfl
    rw [e, show (j + 1) * 2 = j * 2 + 1 + 1 by omega, List.getElem?_cons_succ, List.getElem?_cons_succ, List.getElem?_cons_succ, List.getElem?_cons_succ]
    exact this
theorem modsAt_own {w : World} {base e : Nat} {v : Value} {l : List (ByteArray × ByteArray)} (h : w.ownsRow base e 2 v l.length (mdVs l)) : ModsAt w v (mdTs l) := by
  rcases h.2 with ⟨rfl, h0⟩ | ⟨g, cap, cur, rfl, hb, hg, hn, hm, hs, ht⟩
  · have : l = [] := List.eq_nil_of_length_eq_zero h0
    subst this
    exact ModsAt.nil w
  · refine ⟨_, l.length, cap, fun j => (l.getD j (ByteArray.empty, ByteArray.empty)).1, fun j => (l.getD j (ByteArray.empty, ByteArray.empty)).2, rfl, ?_, hn, by unfold maxLen at hm; exact hm, fun j hj => ⟨g, 0, rfl, ?_⟩⟩
    · apply List.ext_getElem?
      intro i
      by_cases hi : i < l.length
      · rw [mdF_get _ _ _ i hi]
        simp [mdTs, List.getD_eq_getElem?_getD, List.getElem?_eq_getElem hi]
      · rw [List.getElem?_eq_none (by rw [mdTs_length]; omega), List.getElem?_eq_none (by rw [mdF_length]; omega)]
    · have hget := mdVs_get (l := l) (j := j) (m := l.getD j (ByteArray.empty, ByteArray.empty)) (by rw [List.getD_eq_getElem?_getD, List.getElem?_eq_getElem hj]; rfl)
      rw [← ht] at hget
      rw [List.getElem?_take, if_pos (by omega), List.getElem?_take, if_pos (by omega)] at hget
      rw [Nat.zero_add]
      exact ⟨by rw [cell_of_row w g _ cur e (0, 0) hg]; simpa using hget.1, by rw [cell_of_row w g _ cur e (0, 0) hg]; simpa using hget.2⟩
/-- what lies in a slice of modules, as a list -/
def mdL (n : Nat) (P V : Nat → ByteArray) : List (ByteArray × ByteArray) := (List.range n).map fun j => (P j, V j)
theorem mdL_length (n P V) : (mdL n P V).length = n := by simp [mdL]
theorem mdL_ts (n P V) : mdTs (mdL n P V) = mdF n P V := by simp [mdL, mdTs, mdF]
theorem Tryz.infoMod : (Tryz.prog.info? 38).map (fun i => (i.zero, i.size, i.bytes)) = some (some (.agg #[.string ⟨#[]⟩, .string ⟨#[]⟩]), 2, 32) := by kernel_rfl

/-- the cells of a slice of modules, from one of its places on -/
theorem mods_cells {w : World} {b o n : Nat} {P V : Nat → ByteArray} (hc : ∀ j, j < n → w.cell? ⟨b, o + j * 2, none⟩ = some (.string (P j)) ∧ w.cell? ⟨b, o + j * 2 + 1, none⟩ = some (.string (V j))) :
    ∀ j u, (mdVs (mdL n P V))[j]? = some u → w.cell? ((⟨b, o, none⟩ : Addr).add j) = some u := by
  intro j u hu
  have hj : j < n * 2 := by
    have := (List.getElem?_eq_some_iff.1 hu).1
    rwa [mdVs_length, mdL_length] at this
  have hk : j / 2 < n := by omega
  have hg := mdVs_get (l := mdL n P V) (j := j / 2) (m := (P (j / 2), V (j / 2))) (by simp [mdL, hk])
  rw [show (⟨b, o, none⟩ : Addr).add j = ⟨b, o + j, none⟩ from by unfold Addr.add; split <;> simp_all]
  rcases Nat.mod_two_eq_zero_or_one j with h | h
  · rw [show j = j / 2 * 2 by omega] at hu ⊢
    rw [hg.1] at hu
    cases hu
    exact (hc _ hk).1
  · rw [show j = j / 2 * 2 + 1 by omega] at hu ⊢
    rw [hg.2] at hu
    cases hu
    rw [← Nat.add_assoc]
    exact (hc _ hk).2

set_option maxHeartbeats 1000000 in
/-- OwnMods -/
theorem ownMods_calls (v : Value) (l : List Md) (w : World) (h : ModsAt w v l) (hl : l.length ≤ 1000000) :
    Calls Tryz.prog 16 #[v] w fun e w' => (∃ v', e = .returned v' ∧ ModsAt w' v' l ∧ ∃ L, l = mdTs L ∧ w'.ownsRow w.heap.size 38 2 v' L.length (mdVs L)) ∧ Below w.heap.size w w' := by
  obtain ⟨i0, hi, hz0, hz1, hz2⟩ := info_parts Tryz.infoMod
  obtain ⟨a, n, cap, P, V, rfl, rfl, hnc, hcap, hc⟩ := h
  rw [mdF_length] at hl
  cases a with
  | none =>
    have hn0 : n = 0 := by
      rcases Nat.eq_zero_or_pos n with h | h
      · exact h
      · obtain ⟨b, o, e, _⟩ := hc 0 h
        cases e
    subst hn0
    clear hc
    have happ := fun W ty => run_append_nothing (P := Tryz.prog) W 23 23 ty 38 i0 Tryz.underlying23 hi none 0 0 (Nat.le_refl _) (.slice none 0 cap) (Src.ofNil W Tryz.underlying23 cap)
    go_enter Tryz.func16, Tryz.ntmps16
    go_wp2_with fail
    go_ret
    exact ⟨⟨_, rfl, ModsAt.nil w, [], rfl, World.ownsRow_nil _ _ _ _⟩, Below.refl _ _⟩
  | some a =>
    have hc2 : ∃ news, news.length = n * 2 ∧ (∀ j u, news[j]? = some u → w.cell? (a.add j) = some u) ∧ news = mdVs (mdL n P V) := by
      refine ⟨_, by rw [mdVs_length, mdL_length], ?_, rfl⟩
      rcases Nat.eq_zero_or_pos n with h | h
      · subst h
        intro j u hu
        simp [mdL, mdVs] at hu
      · obtain ⟨b, o, e, _⟩ := hc 0 h
        injection e with e
        subst e
        exact mods_cells (fun j hj => by
          obtain ⟨b', o', e, h1, h2⟩ := hc j hj
          injection e with e
          injection e with e1 e2 _
          subst e1 e2
          exact ⟨h1, h2⟩)
    obtain ⟨news, hn1, hn2, hn3⟩ := hc2
    have HN := Lib.hid hn3
    clear hc hn3
    go_enter Tryz.func16, Tryz.ntmps16
    go_wp2_with (at_builtin; refine wpList_append_own _ rfl _ _ 23 rfl w.heap.size 38 i0 (.agg #[.string ⟨#[]⟩, .string ⟨#[]⟩]) 2 32 Tryz.underlying23 hi hz0 hz1 hz2 rfl (by decide) _ _ _ rfl (World.ownsRow_nil _ _ _ _) a n cap news rfl hn1 hn2 (by rw [HN.out]; exact mdVs_one) (by unfold maxLen; omega) (by omega) (Nat.le_refl _) ?_; intro v' w1 hown1 hgrow1 _)
    go_ret
    have ho : w1.ownsRow w.heap.size 38 2 v' (mdL n P V).length (mdVs (mdL n P V)) := by
      rw [mdL_length, ← HN.out]
      simpa using hown1
    refine ⟨⟨v', rfl, by rw [← mdL_ts]; exact modsAt_own ho, mdL n P V, (mdL_ts n P V).symm, ho⟩, (Below.refl _ _).grown hgrow1 (Nat.le_refl _) (fun k h => by cases h)⟩

/-! ### a box of three cells that is stored to -/
structure Box3f (w : World) (b : Nat) (v0 v1 v2 : Value) : Prop where
  c0 : w.cell? ⟨b, 0, none⟩ = some v0
  c1 : w.cell? ⟨b, 1, none⟩ = some v1
  c2 : w.cell? ⟨b, 2, none⟩ = some v2
  fz : ∀ i, w.frozen? ⟨b, i, none⟩ = false
theorem Box3f.below {w w' : World} {b : Nat} {v0 v1 v2 : Value} (h : Box3f w b v0 v1 v2) (hb : Below w.heap.size w w') : Box3f w' b v0 v1 v2 :=
  ⟨Below.cell_some hb h.c0, Below.cell_some hb h.c1, Below.cell_some hb h.c2, fun i => (hb.frozen (p := ⟨b, i, none⟩) (show b < w.heap.size from lt_of_cell h.c0)).trans (h.fz i)⟩
theorem box3f_alloc (w : World) (v0 v1 v2 : Value) (t : TypeId) : Box3f (w.alloc (.cells #[v0, v1, v2] t)) w.heap.size v0 v1 v2 := ⟨by simp, by simp, by simp, fun i => by simp⟩
theorem set_same {w : World} {b k : Nat} {u : Value} (v : Value) (h : w.cell? ⟨b, k, none⟩ = some u) : (w.setCell ⟨b, k, none⟩ v).cell? ⟨b, k, none⟩ = some v := World.cell?_setCell_same _ _ _ h
theorem set_off {w : World} {b k j : Nat} (v : Value) (h : j ≠ k) : (w.setCell ⟨b, k, none⟩ v).cell? ⟨b, j, none⟩ = w.cell? ⟨b, j, none⟩ := World.cell?_setCell_other _ _ _ _ (by intro e; injection e with _ e _; exact h e.symm)
theorem set_blk {w : World} {b c k j : Nat} (v : Value) (h : c ≠ b) : (w.setCell ⟨b, k, none⟩ v).cell? ⟨c, j, none⟩ = w.cell? ⟨c, j, none⟩ := World.cell?_setCell_other _ _ _ _ (by intro e; injection e with e _ _; exact h e.symm)
theorem Box3f.set1 {w : World} {b : Nat} {v0 v1 v2 : Value} (h : Box3f w b v0 v1 v2) (v : Value) : Box3f (w.setCell ⟨b, 1, none⟩ v) b v0 v v2 :=
  ⟨by rw [set_off v (by decide)]; exact h.c0, set_same v h.c1, by rw [set_off v (by decide)]; exact h.c2, fun i => by simp [h.fz i]⟩
theorem Box3f.set2 {w : World} {b : Nat} {v0 v1 v2 : Value} (h : Box3f w b v0 v1 v2) (v : Value) : Box3f (w.setCell ⟨b, 2, none⟩ v) b v0 v1 v :=
  ⟨by rw [set_off v (by decide)]; exact h.c0, by rw [set_off v (by decide)]; exact h.c1, set_same v h.c2, fun i => by simp [h.fz i]⟩
theorem Box3f.other {w : World} {b c k : Nat} {v0 v1 v2 : Value} (h : Box3f w b v0 v1 v2) (hc : b ≠ c) (v : Value) : Box3f (w.setCell ⟨c, k, none⟩ v) b v0 v1 v2 :=
  ⟨by rw [set_blk v hc]; exact h.c0, by rw [set_blk v hc]; exact h.c1, by rw [set_blk v hc]; exact h.c2, fun i => by simp [h.fz i]⟩
/-- a slice of modules stays where another block is stored to -/
theorem ModsAt.other {w : World} {v : Value} {l : List Md} {c k : Nat} (h : ModsAt w v l) (hc : ∀ q n m, v = .slice (some q) n m → q.block ≠ c) (u : Value) : ModsAt (w.setCell ⟨c, k, none⟩ u) v l := by
  obtain ⟨a, n, cap, P, V, rfl, h2, h3, h4, h5⟩ := h
  refine ⟨a, n, cap, P, V, rfl, h2, h3, h4, fun j hj => ?_⟩
  obtain ⟨b, o, rfl, e1, e2⟩ := h5 j hj
  have hb : b ≠ c := hc _ _ _ rfl
  exact ⟨b, o, rfl, by rw [set_blk u hb]; exact e1, by rw [set_blk u hb]; exact e2⟩


theorem own_ge {w : World} {base e k n : Nat} {v : Value} {xs : List Value} (h : w.ownsRow base e k v n xs) : ∀ q n m, v = .slice (some q) n m → base ≤ q.block := by
  rintro q n m rfl
  exact (h.lt q.block rfl).1

end Go.Proofs.Pw

/- Slices of entries in memory. -/
namespace Go.Proofs.Pw
open Go.RowKit
open Go.Lib hiding intOf

/-- an entry's five cells -/
structure EntC (w : World) (b o : Nat) (p v : ByteArray) (rv kv : Value) (bk : Bool) : Prop where
  c0 : w.cell? ⟨b, o, none⟩ = some (.string p)
  c1 : w.cell? ⟨b, o + 1, none⟩ = some (.string v)
  c2 : w.cell? ⟨b, o + 2, none⟩ = some rv
  c3 : w.cell? ⟨b, o + 3, none⟩ = some kv
  c4 : w.cell? ⟨b, o + 4, none⟩ = some (.bool bk)
theorem EntC.below {w w' : World} {b o : Nat} {p v : ByteArray} {rv kv : Value} {bk : Bool} (h : EntC w b o p v rv kv bk) (hb : Below w.heap.size w w') : EntC w' b o p v rv kv bk :=
  ⟨Below.cell_some hb h.c0, Below.cell_some hb h.c1, Below.cell_some hb h.c2, Below.cell_some hb h.c3, Below.cell_some hb h.c4⟩

/-- a slice of entries, its parts by name -/
structure EntsIn (w : World) (a : Option Addr) (n cap : Nat) (P V : Nat → ByteArray) (R : Nat → List Md) (K : Nat → List Str) (B : Nat → Bool) (Rv Kv : Nat → Value) : Prop where
  le : n ≤ cap
  cap : cap ≤ 9223372036854775807
  at_ : ∀ j, j < n → ∃ b o, a = some ⟨b, o, none⟩ ∧ EntC w b (o + j * 5) (P j) (V j) (Rv j) (Kv j) (B j)
  reqs : ∀ j, j < n → ModsAt w (Rv j) (R j)
  packs : ∀ j, j < n → StrsAt w (Kv j) (K j)
theorem EntsIn.below {w w' : World} {a n cap P V R K B Rv Kv} (h : EntsIn w a n cap P V R K B Rv Kv) (hb : Below w.heap.size w w') : EntsIn w' a n cap P V R K B Rv Kv :=
  ⟨h.le, h.cap, fun j hj => let ⟨b, o, e, c⟩ := h.at_ j hj; ⟨b, o, e, c.below hb⟩, fun j hj => (h.reqs j hj).below hb, fun j hj => (h.packs j hj).below hb⟩
/-- a slice of entries -/
def EntsAt (w : World) (v : Value) (l : List En) : Prop :=
  ∃ a n cap P V R K B Rv Kv, v = .slice a n cap ∧ l = enF n P V R K B ∧ EntsIn w a n cap P V R K B Rv Kv
theorem EntsAt.below {w w' : World} {v : Value} {l : List En} (h : EntsAt w v l) (hb : Below w.heap.size w w') : EntsAt w' v l := by
  obtain ⟨a, n, cap, P, V, R, K, B, Rv, Kv, h1, h2, h3⟩ := h
  exact ⟨a, n, cap, P, V, R, K, B, Rv, Kv, h1, h2, h3.below hb⟩
theorem EntsAt.nil (w : World) : EntsAt w (.slice none 0 0) [] :=
  ⟨none, 0, 0, fun _ => ByteArray.empty, fun _ => ByteArray.empty, fun _ => [], fun _ => [], fun _ => false, fun _ => .slice none 0 0, fun _ => .slice none 0 0, rfl, rfl, Nat.le_refl _, by decide, fun j hj => absurd hj (Nat.not_lt_zero _), fun j hj => absurd hj (Nat.not_lt_zero _), fun j hj => absurd hj (Nat.not_lt_zero _)⟩
/-- an index whose texts are short -/
structure ShortI (l : List En) : Prop where
  len : l.length ≤ 1000000
  mds : ∀ e ∈ l, e.md.1.length ≤ 1000000 ∧ e.md.2.length ≤ 1000000
  reqs : ∀ e ∈ l, Short e.reqs
  packs : ∀ e ∈ l, e.packs.length ≤ 1000000 ∧ ∀ s ∈ e.packs, s.length ≤ 1000000
/-- the same, by places -/
theorem ShortI.at_ {n : Nat} {P V : Nat → ByteArray} {R : Nat → List Md} {K : Nat → List Str} {B : Nat → Bool} (h : ShortI (enF n P V R K B)) {j : Nat} (hj : j < n) :
    n ≤ 1000000 ∧ (P j).size ≤ 1000000 ∧ (V j).size ≤ 1000000 ∧ Short (R j) ∧ (K j).length ≤ 1000000 ∧ ∀ s ∈ K j, s.length ≤ 1000000 := by
  have hm := List.mem_of_getElem? (enF_get n P V R K B j hj)
  have h1 := h.len
  rw [enF_length] at h1
  refine ⟨h1, ?_, ?_, h.reqs _ hm, (h.packs _ hm).1, (h.packs _ hm).2⟩
  · rw [size_eq]; exact (h.mds _ hm).1
  · rw [size_eq]; exact (h.mds _ hm).2
end Go.Proofs.Pw

/- R.FindOf: the place of a module in an index. -/
namespace Go.Proofs.Pw
open Go.RowKit
open Go.Lib hiding intOf

set_option maxHeartbeats 1000000 in
set_option maxRecDepth 100000 in
theorem findOf_in (a : Option Addr) (n cap : Nat) (P V : Nat → ByteArray) (R : Nat → List Md) (K : Nat → List Str) (B : Nat → Bool) (Rv Kv : Nat → Value) (p v : ByteArray) (w : World) (h : EntsIn w a n cap P V R K B Rv Kv) (hl : n ≤ 1000000) :
    Calls Tryz.prog 19 #[.slice a n cap, .agg #[.string p, .string v]] w fun e w' => e = .returned (.int .i64 (findE (enF n P V R K B) (p.data.toList, v.data.toList))) ∧ Below w.heap.size w w' := by
  have hB := below_alloc w (.cells #[.string p, .string v] 38)
  obtain ⟨z0, z1, _⟩ := box2_alloc w (.string p) (.string v) 38
  have H := Lib.hid (h.below hB)
  have hg := Tryz.md_guard
  clear h
  go_enter Tryz.func19, Tryz.ntmps19
  go_wp2_with fail
  generalize hw1 : w.alloc (.cells #[.string p, .string v] 38) = w1 at *
  clear hw1
  go_loopw [5] (fun i wr => ∃ k : Nat, k ≤ n ∧ i = .int .i64 k ∧ Below w1.heap.size w1 wr ∧ Hid (∀ j, j < k → ((P j).data.toList, (V j).data.toList) ≠ (p.data.toList, v.data.toList))) (fun i _ => n - (intOf i).toNat)
  case atStart => exact ⟨0, Nat.zero_le _, rfl, Below.refl _ _, Lib.hid (fun j hj => absurd hj (Nat.not_lt_zero _))⟩
  case round =>
    obtain ⟨k, hk, rfl, hBk, HA⟩ := hrel
    have hBw := below_step hB hBk
    by_cases hlt : k < n
    · have hkn : (k : Int) < (n : Int) := by omega
      obtain ⟨b1, o1, ea, hcell⟩ := H.out.at_ k hlt
      have c0 := Below.cell_some hBk hcell.c0
      have c1 := Below.cell_some hBk hcell.c1
      have y0 := Below.cell_some hBk z0
      have y1 := Below.cell_some hBk z1
      subst ea
      have he := md_eql (P k) (V k) p v
      by_cases hm : ((P k).data.toList, (V k).data.toList) = (p.data.toList, v.data.toList)
      · have hd : decide (P k = p ∧ V k = v) = true := decide_eq_true (bytes_pair.1 hm)
        simp only [hd] at he
        have HF : Hid (findE (enF n P V R K B) (p.data.toList, v.data.toList) = k) := Lib.hid (findI_hit (enF_get n P V R K B k hlt) (decide_eq_true hm) (fun j y hj hy => by
          rw [enF_get n P V R K B j (by omega)] at hy
          cases hy
          exact decide_eq_false (HA.out j hj)))
        clear hm hcell hd
        go_wp2_with fail
        have kqc0 := fun d os => cell_patch (d := d) (os := os) c0
        have kqc1 := fun d os => cell_patch (d := d) (os := os) c1
        have kqy0 := fun d os => cell_patch (d := d) (os := os) y0
        have kqy1 := fun d os => cell_patch (d := d) (os := os) y1
        refine wp_region_quiet_patch (by kernel_rfl) (by kernel_rfl) ?_
        repeat (go_big_quiet_step (fail))
        refine wpQuiet_nil ?_
        intro _ hw'
        obtain ⟨⟨dq, osq⟩, hw''⟩ := hw'
        subst hw''
        clear kqc0 kqc1 kqy0 kqy1
        have hb := below_patch wr dq osq
        replace hBw := below_step hBw hb
        clear hb
        generalize patch wr dq osq = wq1 at hBw ⊢
        go_wp2_with fail
        go_ret
        rw [HF.out]
        exact ⟨rfl, hBw⟩
      · have hd : decide (P k = p ∧ V k = v) = false := decide_eq_false (fun h => hm (bytes_pair.2 h))
        simp only [hd] at he
        have HN : Hid (∀ j, j < k + 1 → ((P j).data.toList, (V j).data.toList) ≠ (p.data.toList, v.data.toList)) := Lib.hid (fun j hj => by
          by_cases e : j = k
          · subst e; exact hm
          · exact HA.out j (by omega))
        clear hm hcell hd
        go_wp2_with fail
        have kqc0 := fun d os => cell_patch (d := d) (os := os) c0
        have kqc1 := fun d os => cell_patch (d := d) (os := os) c1
        have kqy0 := fun d os => cell_patch (d := d) (os := os) y0
        have kqy1 := fun d os => cell_patch (d := d) (os := os) y1
        refine wp_region_quiet_patch (by kernel_rfl) (by kernel_rfl) ?_
        repeat (go_big_quiet_step (fail))
        refine wpQuiet_nil ?_
        intro _ hw'
        obtain ⟨⟨dq, osq⟩, hw''⟩ := hw'
        subst hw''
        clear kqc0 kqc1 kqy0 kqy1
        have hb := below_patch wr dq osq
        replace hBk := below_step hBk hb
        clear hb
        generalize patch wr dq osq = wq1 at hBk ⊢
        go_wp2_with fail
        go_roundw
        case rel => exact ⟨k + 1, by omega, by go_num, hBk, HN⟩
        case measure => simp [intOf]; omega
    · obtain rfl : n = k := by omega
      have HF : Hid (findE (enF n P V R K B) (p.data.toList, v.data.toList) = -1) := Lib.hid (findI_none (fun j y hy => by
        have hj : j < n := by have := (List.getElem?_eq_some_iff.1 hy).1; rwa [enF_length] at this
        rw [enF_get n P V R K B j hj] at hy
        cases hy
        exact decide_eq_false (HA.out j hj)))
      go_wp2_with fail
      go_ret
      rw [HF.out]
      exact ⟨rfl, hBw⟩
end Go.Proofs.Pw

/- B.marks: which entries are reached. Conditions: an index and roots that are right. -/
namespace Go.Proofs.Pw
open Go.RowKit
open Go.Lib hiding intOf

theorem Tryz.infoBool : (Tryz.prog.info? 4).map (fun i => (i.zero, i.size, i.bytes)) = some (some (.bool false), 1, 1) := by kernel_rfl
/-- a row of marks -/
def MarkRow (w : World) (g n : Nat) (M : Nat → Bool) : Prop := w.rowIs g 4 n (fun j => .bool (M j))
theorem MarkRow.below {w w' : World} {g n : Nat} {M : Nat → Bool} (h : MarkRow w g n M) (hb : Below w.heap.size w w') : MarkRow w' g n M :=
  World.rowIs.of_block h (hb.block g (World.rowIs.lt h))
theorem MarkRow.set {w : World} {g n : Nat} {M : Nat → Bool} (h : MarkRow w g n M) (k : Nat) : MarkRow (w.setCell ⟨g, k, none⟩ (.bool true)) g n (setM M k) :=
  (World.rowIs.set h k (.bool true)).congr fun j _ => by unfold setM; split <;> rfl
theorem MarkRow.cell {w : World} {g n : Nat} {M : Nat → Bool} (h : MarkRow w g n M) {k : Nat} (hk : k < n) : w.cell? ⟨g, k, none⟩ = some (.bool (M k)) := World.rowIs.cell h hk
theorem MarkRow.fz {w : World} {g n : Nat} {M : Nat → Bool} (h : MarkRow w g n M) (k : Nat) : w.frozen? ⟨g, k, none⟩ = false := World.rowIs.frozen h k
noncomputable def leftW (W : World) (g n : Nat) : Nat := (List.range n).countP fun j => @decide (W.cell? ⟨g, j, none⟩ = some (.bool false)) (Classical.propDecidable _)
theorem leftW_row {W : World} {g n : Nat} {M : Nat → Bool} (h : MarkRow W g n M) : leftW W g n = leftM n M := by
  unfold leftW leftM
  refine List.countP_congr fun j hj => ?_
  rw [h.cell (List.mem_range.1 hj)]
  cases M j <;> simp
def bitOf : Value → Nat
  | .bool true => 1
  | _ => 0

set_option maxHeartbeats 8000000 in
set_option maxRecDepth 100000 in
theorem marks_in (a : Option Addr) (n cap : Nat) (P V : Nat → ByteArray) (R : Nat → List Md) (K : Nat → List Str) (B : Nat → Bool) (Rv Kv : Nat → Value) (rv : Value) (roots : List Md) (w : World) (h : EntsIn w a n cap P V R K B Rv Kv) (hr : ModsAt w rv roots) (hG : RightG (enF n P V R K B) roots) (hs : ShortI (enF n P V R K B)) (hl2 : roots.length ≤ 1000000) :
    Calls Tryz.prog 71 #[.slice a n cap, rv] w fun e w' => (∃ M, e = .returned (.slice (some ⟨w.heap.size, 0, none⟩) n n) ∧ MarkRow w' w.heap.size n M ∧ ∀ j, j < n → (M j = true ↔ Reached (enF n P V R K B) roots (enAt (enF n P V R K B) j).md)) ∧ Below w.heap.size w w' := by
  obtain ⟨a2, m, cap2, Q, U, rfl, rfl, hmc, hcap2, hc2⟩ := hr
  rw [mdF_length] at hl2
  have hn : n ≤ 100 := by have := hG.idx.len; rwa [enF_length] at this
  have hmk := run_make_row' (P := Tryz.prog) 34 4 (.bool false) 1 Tryz.underlying34 Tryz.infoBool rfl .i64 .i64 n (by omega) (by omega)
  have hB := below_alloc w (.cells (madeCells #[.bool false] n) 4)
  have hrow : MarkRow (w.alloc (.cells (madeCells #[.bool false] n) 4)) w.heap.size n (fun _ => false) := World.rowIs_made w (.bool false) n 4
  have hfo := fun (p v : ByteArray) (W : World) (hb : Below w.heap.size w W) => findOf_in a n cap P V R K B Rv Kv p v W (h.below hb) (by omega)
  have H := Lib.hid h
  have HSH := Lib.hid hs
  obtain ⟨l, hl⟩ : ∃ l, enF n P V R K B = l := ⟨_, rfl⟩
  have HEN : Hid (∀ j, j < n → enAt l j = ⟨((P j).data.toList, (V j).data.toList), R j, K j, B j⟩) := Lib.hid (fun j hj => by rw [← hl]; exact enAt_enF hj)
  have HLEN : Hid (l.length = n) := Lib.hid (by rw [← hl, enF_length])
  simp only [hl] at hfo hG ⊢
  have HG := Lib.hid hG
  have HSL : Hid (∀ j, j < n → (R j).length ≤ 1000000) := Lib.hid (fun j hj => (HSH.out.at_ hj).2.2.2.1.1)
  replace hc2 := Lib.hid hc2
  replace hfo := Lib.hid hfo
  clear h hs hG hl
  go_enter Tryz.func71, Tryz.ntmps71
  go_wp2_with fail
  clear hmk
  generalize w.alloc (.cells (madeCells #[.bool false] n) 4) = w1 at *
  go_loopw [6] (fun x wr => ∃ (k : Nat) (M : Nat → Bool), k ≤ m ∧ x = .int .i64 k ∧ Hid (MarkRow wr w.heap.size n M) ∧ Below w.heap.size w wr ∧ Hid (SoundM l (mdF m Q U) M) ∧ Hid (∀ j, j < k → M (findE l ((Q j).data.toList, (U j).data.toList)).toNat = true)) (fun x _ => m - (intOf x).toNat)
  case atStart => exact ⟨0, _, Nat.zero_le _, rfl, Lib.hid hrow, hB, Lib.hid (fun j _ h => by cases h), Lib.hid (fun j hj => absurd hj (Nat.not_lt_zero _))⟩
  case round =>
    obtain ⟨k, M, hk, rfl, HRow, hBk, HS, HA⟩ := hrel
    by_cases hlt : k < m
    · have hkn : (k : Int) < (m : Int) := by omega
      obtain ⟨b1, o1, ea, c0, c1⟩ := hc2.out k hlt
      replace c0 := Below.cell_some hBk c0
      replace c1 := Below.cell_some hBk c1
      subst ea
      have hf := hfo.out (Q k) (U k) wr hBk
      have hmem : ((Q k).data.toList, (U k).data.toList) ∈ mdF m Q U := List.mem_of_getElem? (mdF_get m Q U k hlt)
      obtain ⟨e0, he0, he1⟩ := HG.out.at_ _ hmem
      have hat := HG.out.idx.at_ he0 he1
      rw [HLEN.out] at hat
      have HS' : Hid (SoundM l (mdF m Q U) (setM M (findE l ((Q k).data.toList, (U k).data.toList)).toNat)) := Lib.hid (soundM_root HG.out HS.out hmem)
      have HA' : Hid (∀ j, j < k + 1 → setM M (findE l ((Q k).data.toList, (U k).data.toList)).toNat (findE l ((Q j).data.toList, (U j).data.toList)).toNat = true) := Lib.hid (fun j hj => by
        by_cases e : j = k
        · subst e; exact setM_same _ _
        · exact setM_of _ (HA.out j (by omega)))
      obtain ⟨hat1, hat2, _⟩ := hat
      rw [hat2] at hf
      generalize (findE l ((Q k).data.toList, (U k).data.toList)).toNat = x at *
      have hxn : (x : Int) < (n : Int) := by omega
      replace hf := Lib.hid hf
      clear hat2 hmem he0 he1
      go_wp2_with fail
      refine hf.out.mono ?_
      rintro e w2 ⟨rfl, hb⟩
      have HRow2 := Lib.hid (HRow.out.below hb)
      have d0 := HRow2.out.cell hat1
      have df := HRow2.out.fz x
      replace hBk := below_step hBk hb
      have HRow3 := Lib.hid (HRow2.out.set x)
      have hB3 := hBk.setCell (p := ⟨w.heap.size, x, none⟩) (Nat.le_refl _) (.bool true)
      clear hb hf c0 c1
      go_wp2_with fail
      go_roundw
      case rel => exact ⟨k + 1, _, by omega, by go_num, HRow3, hB3, HS', HA'⟩
      case measure => simp [intOf]; omega
    · have HRT : Hid (∀ r ∈ mdF m Q U, M (findE l r).toNat = true) := Lib.hid (fun r hr => by
        obtain ⟨j, hj⟩ := List.getElem?_of_mem hr
        have hjl := (List.getElem?_eq_some_iff.1 hj).1
        rw [mdF_length] at hjl
        rw [mdF_get m Q U j hjl] at hj
        rw [← Option.some.inj hj]
        exact HA.out j (by omega))
      have hnk : ¬ (k : Int) < (m : Int) := by omega
      clear hlt hk HA
      go_wp2_with fail
      clear hnk
      generalize wr = wl at *
      go_loopw [7] (fun x wr => ∃ (b : Bool) (M : Nat → Bool), x = .bool b ∧ Hid (MarkRow wr w.heap.size n M) ∧ Below w.heap.size w wr ∧ Hid (SoundM l (mdF m Q U) M) ∧ Hid (∀ r ∈ mdF m Q U, M (findE l r).toNat = true) ∧ Hid (b = false → ∀ i, i < n → ClosedM l M i)) (fun x W => 2 * leftW W w.heap.size n + bitOf x)
      case atStart => exact ⟨true, M, rfl, HRow, hBk, HS, HRT, Lib.hid (fun h => by cases h)⟩
      case round =>
        clear HRow hBk HS HRT
        obtain ⟨b0, M0, rfl, HRow, hBk, HS, HRT, HC⟩ := hrel
        have HMS : Hid (leftW wr w.heap.size n = leftM n M0) := Lib.hid (leftW_row HRow.out)
        cases b0 with
        | false =>
          have HD : Hid (∀ j, j < n → (M0 j = true ↔ Reached l (mdF m Q U) (enAt l j).md)) := Lib.hid (fun j hj => marks_done HG.out HS.out HRT.out (fun i hi => HC.out rfl i (by rw [← HLEN.out]; exact hi)) (by rw [HLEN.out]; exact hj))
          clear HC HMS
          go_wp2_with fail
          go_ret
          exact ⟨⟨M0, rfl, HRow.out, HD.out⟩, hBk⟩
        | true =>
          clear HC
          go_wp2_with fail
          generalize hwo : wr = wo at *
          go_loopw [7, 8] (fun y x wr => ∃ (q : Nat) (b : Bool) (M : Nat → Bool), q ≤ n ∧ x = .int .i64 q ∧ y = .bool b ∧ Hid (MarkRow wr w.heap.size n M) ∧ Below w.heap.size w wr ∧ Hid (SoundM l (mdF m Q U) M) ∧ Hid (∀ j, M0 j = true → M j = true) ∧ Hid (b = true → leftM n M < leftM n M0) ∧ Hid (b = false → M = M0 ∧ ∀ i, i < q → ClosedM l M i)) (fun _ x _ => n - (intOf x).toNat)
          case atStart => exact ⟨0, false, M0, Nat.zero_le _, rfl, rfl, HRow, hBk, HS, Lib.hid (fun _ h => h), Lib.hid (fun h => by cases h), Lib.hid (fun _ => ⟨rfl, fun i hi => absurd hi (Nat.not_lt_zero _)⟩)⟩
          case round =>
            clear HRow hBk HS
            obtain ⟨q, b1, M1, hq, rfl, rfl, HRow, hBk, HS, HM, HLT, HC⟩ := hrel
            by_cases hlt : q < n
            · have hkn : (q : Int) < (n : Int) := by omega
              obtain ⟨b2, o2, ea, hcell⟩ := H.out.at_ q hlt
              obtain ⟨a1, n1, c1, P1, V1, e1, e2, _, _, hc1⟩ := H.out.reqs q hlt
              have hlen : n1 ≤ 1000000 := by
                have := HSL.out q hlt
                rw [e2, mdF_length] at this
                exact this
              have HQ : Hid ((enAt l q).reqs = mdF n1 P1 V1) := Lib.hid (by rw [HEN.out q hlt, e2])
              rw [e1] at hcell
              have d2 := hcell.c2
              subst ea
              replace hc1 := Lib.hid hc1
              clear e1 e2 hcell
              go_wp2_with fail
              generalize hwp : wr = wp at *
              clear hwp
              go_loopw [7, 9] (fun y x wr => ∃ (p : Nat) (b : Bool) (M : Nat → Bool), p ≤ n1 ∧ x = .int .i64 p ∧ y = .bool b ∧ Hid (MarkRow wr w.heap.size n M) ∧ Below w.heap.size w wr ∧ Hid (SoundM l (mdF m Q U) M) ∧ Hid (∀ j, M0 j = true → M j = true) ∧ Hid (b = true → leftM n M < leftM n M0) ∧ Hid (b = false → M = M0 ∧ (∀ i, i < q → ClosedM l M i) ∧ ∀ j, j < p → M (findE l ((P1 j).data.toList, (V1 j).data.toList)).toNat = true)) (fun _ x _ => n1 - (intOf x).toNat)
              case atStart => exact ⟨0, b1, M1, Nat.zero_le _, rfl, rfl, HRow, hBk, HS, HM, HLT, Lib.hid (fun h => ⟨(HC.out h).1, (HC.out h).2, fun j hj => absurd hj (Nat.not_lt_zero _)⟩)⟩
              case round =>
                clear HRow hBk HS HM HLT HC
                obtain ⟨p, b3, M3, hp, rfl, rfl, HRow, hBk, HS, HM, HLT, HC⟩ := hrel
                have x2 := Below.cell_some hBk d2
                have g0 := HRow.out.cell hlt
                cases hMq : M3 q with
                | false =>
                  rw [hMq] at g0
                  have HC' : Hid (b3 = false → M3 = M0 ∧ ∀ i, i < q + 1 → ClosedM l M3 i) := Lib.hid (fun h => ⟨(HC.out h).1, fun i hi => by
                    by_cases e : i = q
                    · subst e; intro h'; rw [hMq] at h'; cases h'
                    · exact (HC.out h).2.1 i (by omega)⟩)
                  clear hMq x2 HC
                  go_wp2_with fail
                  go_roundw
                  case rel => exact ⟨q + 1, b3, M3, by omega, by go_num, rfl, HRow, hBk, HS, HM, HLT, HC'⟩
                  case measure => simp [intOf]; omega
                | true =>
                  rw [hMq] at g0
                  by_cases hlp : p < n1
                  · have hpn : (p : Int) < (n1 : Int) := by omega
                    obtain ⟨b4, o4, e3, y0, y1⟩ := hc1.out p hlp
                    subst e3
                    replace y0 := Below.cell_some hBk y0
                    replace y1 := Below.cell_some hBk y1
                    have hf := hfo.out (P1 p) (V1 p) wr hBk
                    have hmem : ((P1 p).data.toList, (V1 p).data.toList) ∈ (enAt l q).reqs := by rw [HQ.out]; exact List.mem_of_getElem? (mdF_get n1 P1 V1 p hlp)
                    obtain ⟨e0, he0, he1⟩ := HG.out.idx.all _ (enAt_mem (by rw [HLEN.out]; exact hlt)) _ hmem
                    have hat := HG.out.idx.at_ he0 he1
                    rw [HLEN.out] at hat
                    obtain ⟨hat1, hat2, _⟩ := hat
                    have HS' := Lib.hid (soundM_req HG.out HS.out (by rw [HLEN.out]; exact hlt) hMq hmem)
                    rw [hat2] at hf
                    obtain ⟨x, hx⟩ : ∃ x, (findE l ((P1 p).data.toList, (V1 p).data.toList)).toNat = x := ⟨_, rfl⟩
                    rw [hx] at hat1 hf HS'
                    have hxn : (x : Int) < (n : Int) := by omega
                    cases hMx : M3 x with
                    | true =>
                      have g1 := HRow.out.cell hat1
                      rw [hMx] at g1
                      have HC' : Hid (b3 = false → M3 = M0 ∧ (∀ i, i < q → ClosedM l M3 i) ∧ ∀ j, j < p + 1 → M3 (findE l ((P1 j).data.toList, (V1 j).data.toList)).toNat = true) := Lib.hid (fun h => ⟨(HC.out h).1, (HC.out h).2.1, fun j hj => by
                        by_cases e : j = p
                        · subst e; rw [hx]; exact hMx
                        · exact (HC.out h).2.2 j (by omega)⟩)
                      replace hf := Lib.hid hf
                      clear hMq hMx hx hat2 hmem he0 he1 HC HS'
                      go_wp2_with fail
                      refine hf.out.mono ?_
                      rintro e w2 ⟨rfl, hb⟩
                      have HRow2 := Lib.hid (HRow.out.below hb)
                      replace g1 := Below.cell_some hb g1
                      replace hBk := below_step hBk hb
                      clear hb hf y0 y1 x2 g0
                      go_wp2_with fail
                      go_roundw
                      case rel => exact ⟨p + 1, b3, M3, by omega, by go_num, rfl, HRow2, hBk, HS, HM, HLT, HC'⟩
                      case measure => simp [intOf]; omega
                    | false =>
                      have g1 := HRow.out.cell hat1
                      rw [hMx] at g1
                      have HM' : Hid (∀ j, M0 j = true → setM M3 x j = true) := Lib.hid (fun j hj => setM_of x (HM.out j hj))
                      have HLT' : Hid (leftM n (setM M3 x) < leftM n M0) := Lib.hid (by
                        have h1 := leftM_set hat1 hMx
                        have h2 := leftM_le (n := n) HM.out
                        omega)
                      replace hf := Lib.hid hf
                      clear hMq hMx hx hat2 hmem he0 he1 HC HLT
                      go_wp2_with fail
                      refine hf.out.mono ?_
                      rintro e w2 ⟨rfl, hb⟩
                      have HRow2 := Lib.hid (HRow.out.below hb)
                      replace g1 := Below.cell_some hb g1
                      have df := HRow2.out.fz x
                      replace hBk := below_step hBk hb
                      have HRow3 := Lib.hid (HRow2.out.set x)
                      have hB3 := hBk.setCell (p := ⟨w.heap.size, x, none⟩) (Nat.le_refl _) (.bool true)
                      clear hb hf y0 y1 x2 g0
                      go_wp2_with fail
                      go_roundw
                      case rel => exact ⟨p + 1, true, _, by omega, by go_num, rfl, HRow3, hB3, HS', HM', Lib.hid (fun _ => HLT'.out), Lib.hid (fun h => by cases h)⟩
                      case measure => simp [intOf]; omega
                  · have HC' : Hid (b3 = false → M3 = M0 ∧ ∀ i, i < q + 1 → ClosedM l M3 i) := Lib.hid (fun h => ⟨(HC.out h).1, fun i hi => by
                      by_cases e : i = q
                      · subst e
                        intro _ r hr
                        rw [HQ.out] at hr
                        obtain ⟨j, hj⟩ := List.getElem?_of_mem hr
                        have hjl := (List.getElem?_eq_some_iff.1 hj).1
                        rw [mdF_length] at hjl
                        rw [mdF_get n1 P1 V1 j hjl] at hj
                        rw [← Option.some.inj hj]
                        exact (HC.out h).2.2 j (by omega)
                      · exact (HC.out h).2.1 i (by omega)⟩)
                    have hnp : ¬ (p : Int) < (n1 : Int) := by omega
                    clear hMq HC hlp hp
                    go_wp2_with fail
                    go_roundw
                    case rel => exact ⟨q + 1, b3, M3, by omega, by go_num, rfl, HRow, hBk, HS, HM, HLT, HC'⟩
                    case measure => simp [intOf]; omega
            · have HRT' : Hid (∀ r ∈ mdF m Q U, M1 (findE l r).toNat = true) := Lib.hid (fun r hr => HM.out _ (HRT.out r hr))
              have HC' : Hid (b1 = false → ∀ i, i < n → ClosedM l M1 i) := Lib.hid (fun h i hi => (HC.out h).2 i (by omega))
              have HMS2 : Hid (2 * leftW wr w.heap.size n + bitOf (.bool b1) < 2 * leftW wo w.heap.size n + bitOf (.bool true)) := Lib.hid (by
                rw [HMS.out, leftW_row HRow.out]
                cases b1 with
                | true => have := HLT.out rfl; omega
                | false =>
                  have := leftM_le (n := n) HM.out
                  show 2 * leftM n M1 + 0 < 2 * leftM n M0 + 1
                  omega)
              have hnq : ¬ (q : Int) < (n : Int) := by omega
              clear hlt hq HC HLT
              go_wp2_with fail
              go_roundw
              case rel => exact ⟨b1, M1, rfl, HRow, hBk, HS, HRT', HC'⟩
              case measure =>
                have := HMS2.out
                rw [← hwo] at this
                simpa [bitOf] using this
end Go.Proofs.Pw

/- slices.IndexFunc at modules; mod.Find. -/
namespace Go.Proofs.Pw
open Go.RowKit
open Go.Lib hiding intOf

/-- a test of modules by a function value, in whatever world that stands over w from block base on -/
def TestsM (g : Nat) (lb : Array Value) (p : Md → Bool) (n : Nat) (P V : Nat → ByteArray) (base : Nat) (w : World) : Prop :=
  ∀ W, Below base w W → ∀ j, j < n → Calls Tryz.prog g (#[.agg #[.string (P j), .string (V j)]] ++ lb) W fun e w'' => e = .returned (.bool (p ((P j).data.toList, (V j).data.toList))) ∧ Below W.heap.size W w''

set_option maxHeartbeats 1000000 in
set_option maxRecDepth 100000 in
theorem indexFuncM_calls (g : Nat) (lb : Array Value) (eg : ∀ args w, (callFunc g args).run Tryz.prog w = .ok (.enter g args) w) (p : Md → Bool) (a : Option Addr) (n cap base : Nat) (P V : Nat → ByteArray) (w : World) (hn : n ≤ 1000000) (hbase : base ≤ w.heap.size)
    (hc : ∀ j, j < n → ∃ b o, a = some ⟨b, o, none⟩ ∧ w.cell? ⟨b, o + j * 2, none⟩ = some (.string (P j)) ∧ w.cell? ⟨b, o + j * 2 + 1, none⟩ = some (.string (V j))) (hT : TestsM g lb p n P V base w) :
    Calls Tryz.prog 109 #[.slice a n cap, .func (.func g) #[] lb] w fun e w' => e = .returned (.int .i64 (findI p (mdF n P V))) ∧ Below w.heap.size w w' := by
  replace hc := Lib.hid hc
  replace hT := Lib.hid hT
  go_enter Tryz.func109, Tryz.ntmps109
  go_wp2_with fail
  go_loopw [8] (fun i wr => ∃ k : Nat, k ≤ n ∧ i = .int .i64 k ∧ Below w.heap.size w wr ∧ Hid (∀ j, j < k → p ((P j).data.toList, (V j).data.toList) = false)) (fun i _ => n - (intOf i).toNat)
  case atStart => exact ⟨0, by omega, rfl, Below.refl _ _, Lib.hid (fun j hj => absurd hj (Nat.not_lt_zero _))⟩
  case round =>
    obtain ⟨k, hk, rfl, hb, HA⟩ := hrel
    by_cases hlt : k < n
    · obtain ⟨b1, o1, rfl, c1, c2⟩ := hc.out k hlt
      replace c1 := Below.cell_some hb c1
      replace c2 := Below.cell_some hb c2
      have hcall := hT.out wr (hb.mono hbase) k hlt
      have hget := mdF_get n P V k hlt
      cases hq : p ((P k).data.toList, (V k).data.toList) with
      | true =>
        have HR : Hid (findI p (mdF n P V) = k) := Lib.hid (findI_hit hget hq (fun j y hj hy => by
          rw [mdF_get n P V j (by omega)] at hy
          cases hy
          exact HA.out j hj))
        rw [hq] at hcall
        clear hq hget
        go_wp2_with (go_at_fn g; refine hcall.mono ?_; rintro e w' ⟨rfl, hb2⟩)
        go_ret
        rw [HR.out]
        exact ⟨rfl, below_step hb hb2⟩
      | false =>
        have HN : Hid (∀ j, j < k + 1 → p ((P j).data.toList, (V j).data.toList) = false) := Lib.hid (fun j hj => by
          by_cases e : j = k
          · subst e; exact hq
          · exact HA.out j (by omega))
        rw [hq] at hcall
        clear hq hget
        go_wp2_with (go_at_fn g; refine hcall.mono ?_; rintro e w' ⟨rfl, hb2⟩)
        go_roundw
        case rel => exact ⟨k + 1, by omega, by go_num, below_step hb hb2, HN⟩
        case measure => simp [intOf]; omega
    · obtain rfl : k = n := by omega
      have HR : Hid (findI p (mdF k P V) = -1) := Lib.hid (findI_none (fun j y hy => by
        have hj : j < k := by have := (List.getElem?_eq_some_iff.1 hy).1; rwa [mdF_length] at this
        rw [mdF_get k P V j hj] at hy
        cases hy
        exact HA.out j hj))
      go_wp2_with fail
      go_ret
      rw [HR.out]
      exact ⟨rfl, hb⟩

theorem Tryz.enters_find1 : ∀ args w, (callFunc 159 args).run Tryz.prog w = .ok (.enter 159 args) w := Go.Proofs.enters_of Tryz.func159 (by kernel_rfl) rfl
theorem find1_calls (p v s : ByteArray) (b : Nat) (w : World) (hc : w.cell? ⟨b, 0, none⟩ = some (.string s)) :
    Calls Tryz.prog 159 #[.agg #[.string p, .string v], .pointer (some ⟨b, 0, none⟩)] w fun e w' => e = .returned (.bool (decide (p.data.toList = s.data.toList))) ∧ Below w.heap.size w w' := by
  have hb := below_alloc w (.cells #[.string p, .string v] 38)
  have c0 := Below.cell_some hb hc
  have HD : Hid (decide (p.data.toList = s.data.toList) = (p.toList == s.toList)) := Lib.hid (by
    rw [toList_data, toList_data, Bool.eq_iff_iff, decide_eq_true_iff, beq_iff_eq])
  go_enter Tryz.func159, Tryz.ntmps159
  go_wp2_with fail
  go_ret
  rw [HD.out]
  exact ⟨rfl, hb⟩

theorem modFind_calls (v : Value) (l : List Md) (s : ByteArray) (w : World) (h : ModsAt w v l) (hl : l.length ≤ 1000000) :
    Calls Tryz.prog 108 #[v, .string s] w fun e w' => e = .returned (.int .i64 (findI (fun m : Md => decide (m.1 = s.data.toList)) l)) ∧ Below w.heap.size w w' := by
  obtain ⟨a, n, cap, P, V, rfl, rfl, hnc, hcap, hc⟩ := h
  rw [mdF_length] at hl
  have hb := below_alloc w (.cells #[.string s] 9)
  have hcs : (w.alloc (.cells #[.string s] 9)).cell? ⟨w.heap.size, 0, none⟩ = some (.string s) := by simp
  have hi := indexFuncM_calls 159 #[.pointer (some ⟨w.heap.size, 0, none⟩)] Tryz.enters_find1 (fun m : Md => decide (m.1 = s.data.toList)) a n cap (w.alloc (.cells #[.string s] 9)).heap.size P V (w.alloc (.cells #[.string s] 9)) hl (Nat.le_refl _)
    (fun j hj => let ⟨b, o, e, h1, h2⟩ := hc j hj; ⟨b, o, e, Below.cell_some hb h1, Below.cell_some hb h2⟩)
    (fun W hW j hj => find1_calls (P j) (V j) s w.heap.size W (Below.cell_some hW hcs))
  generalize findI (fun m : Md => decide (m.1 = s.data.toList)) (mdF n P V) = x at hi ⊢
  replace hi := Lib.hid hi
  clear hc hcs
  go_enter Tryz.func108, Tryz.ntmps108
  go_wp2_with fail
  refine hi.out.mono ?_
  rintro e w1 ⟨rfl, hb1⟩
  go_wp2_with fail
  go_ret
  exact ⟨rfl, below_step hb hb1⟩
end Go.Proofs.Pw

/- slices.IndexFunc at entries and modules; index.Find. -/
namespace Go.Proofs.Pw
open Go.RowKit
open Go.Lib hiding intOf

/-- slices that stand as values of slice form -/
theorem EntsIn.forms {w : World} {a n cap P V R K B Rv Kv} (h : EntsIn w a n cap P V R K B Rv Kv) {j : Nat} (hj : j < n) : ∃ a1 n1 c1 a2 n2 c2, Rv j = .slice a1 n1 c1 ∧ Kv j = .slice a2 n2 c2 := by
  obtain ⟨a1, n1, c1, _, _, e1, _⟩ := h.reqs j hj
  obtain ⟨a2, n2, c2, _, e2, _⟩ := h.packs j hj
  exact ⟨_, _, _, _, _, _, e1, e2⟩

/-- a test of entries by a function value, in whatever world that stands over w from block base on -/
def TestsE (g : Nat) (lb : Array Value) (p : Nat → Bool) (n : Nat) (P V : Nat → ByteArray) (Rv Kv : Nat → Value) (B : Nat → Bool) (base : Nat) (w : World) : Prop :=
  ∀ W, Below base w W → ∀ j, j < n → Calls Tryz.prog g (#[.agg #[.string (P j), .string (V j), Rv j, Kv j, .bool (B j)]] ++ lb) W fun e w'' => e = .returned (.bool (p j)) ∧ Below W.heap.size W w''

set_option maxHeartbeats 1000000 in
set_option maxRecDepth 100000 in
theorem indexFuncE_calls (g : Nat) (lb : Array Value) (eg : ∀ args w, (callFunc g args).run Tryz.prog w = .ok (.enter g args) w) (p : Nat → Bool) (q : En → Bool) (a : Option Addr) (n cap base : Nat) (P V : Nat → ByteArray) (R : Nat → List Md) (K : Nat → List Str) (B : Nat → Bool) (Rv Kv : Nat → Value) (w : World) (hn : n ≤ 1000000) (hbase : base ≤ w.heap.size)
    (hc : EntsIn w a n cap P V R K B Rv Kv) (hq : ∀ j, j < n → q (enAt (enF n P V R K B) j) = p j) (hT : TestsE g lb p n P V Rv Kv B base w) :
    Calls Tryz.prog 110 #[.slice a n cap, .func (.func g) #[] lb] w fun e w' => e = .returned (.int .i64 (findI q (enF n P V R K B))) ∧ Below w.heap.size w w' := by
  replace hc := Lib.hid hc
  replace hT := Lib.hid hT
  replace hq := Lib.hid hq
  go_enter Tryz.func110, Tryz.ntmps110
  go_wp2_with fail
  go_loopw [8] (fun i wr => ∃ k : Nat, k ≤ n ∧ i = .int .i64 k ∧ Below w.heap.size w wr ∧ Hid (∀ j, j < k → p j = false)) (fun i _ => n - (intOf i).toNat)
  case atStart => exact ⟨0, by omega, rfl, Below.refl _ _, Lib.hid (fun j hj => absurd hj (Nat.not_lt_zero _))⟩
  case round =>
    obtain ⟨k, hk, rfl, hb, HA⟩ := hrel
    by_cases hlt : k < n
    · obtain ⟨b1, o1, rfl, hcell⟩ := hc.out.at_ k hlt
      obtain ⟨c0, c1, c2, c3, c4⟩ := hcell.below hb
      have hcall := hT.out wr (hb.mono hbase) k hlt
      have hget := enF_get n P V R K B k hlt
      obtain ⟨a1, n1, s1, a2, n2, s2, e1, e2⟩ := hc.out.forms hlt
      rw [e1] at c2
      rw [e2] at c3
      rw [e1, e2] at hcall
      clear hcell
      cases hp : p k with
      | true =>
        have HR : Hid (findI q (enF n P V R K B) = k) := Lib.hid (findI_hit hget (by have := hq.out k hlt; rw [enAt_enF hlt] at this; rw [this, hp]) (fun j y hj hy => by
          rw [enF_get n P V R K B j (by omega)] at hy
          have h1 := hq.out j (by omega)
          rw [enAt_enF (by omega)] at h1
          cases hy
          rw [h1]; exact HA.out j hj))
        rw [hp] at hcall
        clear hp hget e1 e2
        go_wp2_with (go_at_fn g; refine hcall.mono ?_; rintro e w' ⟨rfl, hb2⟩)
        go_ret
        rw [HR.out]
        exact ⟨rfl, below_step hb hb2⟩
      | false =>
        have HN : Hid (∀ j, j < k + 1 → p j = false) := Lib.hid (fun j hj => by
          by_cases e : j = k
          · subst e; exact hp
          · exact HA.out j (by omega))
        rw [hp] at hcall
        clear hp hget e1 e2
        go_wp2_with (go_at_fn g; refine hcall.mono ?_; rintro e w' ⟨rfl, hb2⟩)
        go_roundw
        case rel => exact ⟨k + 1, by omega, by go_num, below_step hb hb2, HN⟩
        case measure => simp [intOf]; omega
    · obtain rfl : k = n := by omega
      have HR : Hid (findI q (enF k P V R K B) = -1) := Lib.hid (findI_none (fun j y hy => by
        have hj : j < k := by have := (List.getElem?_eq_some_iff.1 hy).1; rwa [enF_length] at this
        have h1 := hq.out j hj
        rw [enAt_enF hj] at h1
        rw [enF_get k P V R K B j hj] at hy
        cases hy
        rw [h1]; exact HA.out j hj))
      go_wp2_with fail
      go_ret
      rw [HR.out]
      exact ⟨rfl, hb⟩

theorem Tryz.enters_ifind1 : ∀ args w, (callFunc 111 args).run Tryz.prog w = .ok (.enter 111 args) w := Go.Proofs.enters_of Tryz.func111 (by kernel_rfl) rfl
theorem idxFind1_calls (p v s u : ByteArray) (a1 a2 : Option Addr) (n1 c1 n2 c2 : Nat) (bk : Bool) (b : Nat) (w : World) (h0 : w.cell? ⟨b, 0, none⟩ = some (.string s)) (h1 : w.cell? ⟨b, 1, none⟩ = some (.string u)) :
    Calls Tryz.prog 111 #[.agg #[.string p, .string v, .slice a1 n1 c1, .slice a2 n2 c2, .bool bk], .pointer (some ⟨b, 0, none⟩)] w fun e w' => e = .returned (.bool (decide (p = s ∧ v = u))) ∧ Below w.heap.size w w' := by
  have hb := below_alloc w (.cells #[.string p, .string v, .slice a1 n1 c1, .slice a2 n2 c2, .bool bk] 43)
  have d0 := Below.cell_some hb h0
  have d1 := Below.cell_some hb h1
  have hg := Tryz.md_guard
  have hq := md_eql p v s u
  generalize decide (p = s ∧ v = u) = X at hq ⊢
  go_enter Tryz.func111, Tryz.ntmps111
  go_wp2_with fail
  go_ret
  exact ⟨rfl, hb⟩

theorem idxFind_in (a : Option Addr) (n cap : Nat) (P V : Nat → ByteArray) (R : Nat → List Md) (K : Nat → List Str) (B : Nat → Bool) (Rv Kv : Nat → Value) (p v : ByteArray) (w : World) (h : EntsIn w a n cap P V R K B Rv Kv) (hl : n ≤ 1000000) :
    Calls Tryz.prog 62 #[.slice a n cap, .agg #[.string p, .string v]] w fun e w' => e = .returned (.int .i64 (findE (enF n P V R K B) (p.data.toList, v.data.toList))) ∧ Below w.heap.size w w' := by
  have hb := below_alloc w (.cells #[.string p, .string v] 38)
  have hz := box2_alloc w (.string p) (.string v) 38
  have hi := indexFuncE_calls 111 #[.pointer (some ⟨w.heap.size, 0, none⟩)] Tryz.enters_ifind1 (fun j => decide (P j = p ∧ V j = v)) (isMd (p.data.toList, v.data.toList)) a n cap (w.alloc (.cells #[.string p, .string v] 38)).heap.size P V R K B Rv Kv (w.alloc (.cells #[.string p, .string v] 38)) hl (Nat.le_refl _) (h.below hb)
    (fun j hj => by
      rw [enAt_enF hj]
      unfold isMd
      rw [Bool.eq_iff_iff, decide_eq_true_iff, decide_eq_true_iff]
      exact bytes_pair)
    (fun W hW j hj => by
      obtain ⟨a1, n1, s1, a2, n2, s2, e1, e2⟩ := h.forms hj
      rw [e1, e2]
      exact idxFind1_calls (P j) (V j) p v a1 a2 n1 s1 n2 s2 (B j) w.heap.size W (Below.cell_some hW hz.c0) (Below.cell_some hW hz.c1))
  show Calls _ _ _ _ fun e w' => e = .returned (.int .i64 (findI (isMd (p.data.toList, v.data.toList)) (enF n P V R K B))) ∧ Below w.heap.size w w'
  generalize findI (isMd (p.data.toList, v.data.toList)) (enF n P V R K B) = x at hi ⊢
  replace hi := Lib.hid hi
  clear hz h
  go_enter Tryz.func62, Tryz.ntmps62
  go_wp2_with fail
  refine hi.out.mono ?_
  rintro e w1 ⟨rfl, hb1⟩
  go_wp2_with fail
  go_ret
  exact ⟨rfl, below_step hb hb1⟩
theorem idxFind_calls (v : Value) (l : List En) (p q : ByteArray) (w : World) (h : EntsAt w v l) (hl : l.length ≤ 1000000) :
    Calls Tryz.prog 62 #[v, .agg #[.string p, .string q]] w fun e w' => e = .returned (.int .i64 (findE l (p.data.toList, q.data.toList))) ∧ Below w.heap.size w w' := by
  obtain ⟨a, n, cap, P, V, R, K, B, Rv, Kv, rfl, rfl, hin⟩ := h
  rw [enF_length] at hl
  exact idxFind_in a n cap P V R K B Rv Kv p q w hin hl
end Go.Proofs.Pw

/- index.reqs, index.packs. Conditions: texts of at most 1000000 bytes, lists of at most 1000000. -/
namespace Go.Proofs.Pw
open Go.RowKit
open Go.Lib hiding intOf

def reqsE (p : Str) (R : List Md) : Nat := if 20 < R.length then 7 else (firstE (reqE p R) R.length).1
def packsE (K : List Str) : Nat := if 10 < K.length then 7 else if K.all packOk then (firstE (packE K) K.length).1 else 1


/-- the errors that an index's check names -/
def IdxKs (ks : List Nat) : Prop := 3 ∈ ks ∧ 4 ∈ ks ∧ 5 ∈ ks ∧ 7 ∈ ks ∧ 8 ∈ ks

set_option maxHeartbeats 4000000 in
set_option maxRecDepth 100000 in
theorem idxReqs_calls (ks : List Nat) (A : Nat → Addr) (hks : IdxKs ks) (p v : ByteArray) (rv : Value) (a2 : Option Addr) (n2 s2 : Nat) (bk : Bool) (R : List Md) (w : World) (hE : EnvP ks A w) (hr : ModsAt w rv R) (hs : Short R) :
    Calls Tryz.prog 157 #[.agg #[.string p, .string v, rv, .slice a2 n2 s2, .bool bk]] w fun e w' => e = .returned (errV A (reqsE p.data.toList R)) ∧ Below w.heap.size w w' := by
  obtain ⟨a, n, cap, P, V, rfl, rfl, hnc, hcap, hc⟩ := hr
  have hP : Hid (∀ j, j < n → (P j).size ≤ 1000000 ∧ (V j).size ≤ 1000000) := Lib.hid (fun j hj => by
    have := hs.2 _ (List.mem_of_getElem? (mdF_get n P V j hj))
    rw [size_eq, size_eq]; exact this)
  have hn : n ≤ 1000000 := by have := hs.1; rw [mdF_length] at this; exact this
  have hB := below_alloc w (.cells #[.string p, .string v, .slice a n cap, .slice a2 n2 s2, .bool bk] 43)
  have z0 : (w.alloc (.cells #[.string p, .string v, .slice a n cap, .slice a2 n2 s2, .bool bk] 43)).cell? ⟨w.heap.size, 0, none⟩ = some (.string p) := by simp
  have z1 : (w.alloc (.cells #[.string p, .string v, .slice a n cap, .slice a2 n2 s2, .bool bk] 43)).cell? ⟨w.heap.size, 2, none⟩ = some (.slice a n cap) := by simp
  replace hc : ∀ j, j < n → ∃ b o, a = some ⟨b, o, none⟩ ∧ (w.alloc (.cells #[.string p, .string v, .slice a n cap, .slice a2 n2 s2, .bool bk] 43)).cell? ⟨b, o + j * 2, none⟩ = some (.string (P j)) ∧ (w.alloc (.cells #[.string p, .string v, .slice a n cap, .slice a2 n2 s2, .bool bk] 43)).cell? ⟨b, o + j * 2 + 1, none⟩ = some (.string (V j)) := fun j hj =>
    let ⟨b, o, e, h1, h2⟩ := hc j hj; ⟨b, o, e, Below.cell_some hB h1, Below.cell_some hB h2⟩
  replace hE := hE.below hB
  replace hc := Lib.hid hc
  clear hs
  by_cases h20 : 20 < n
  · have h20' : (20 : Int) < (n : Int) := by omega
    have HF : Hid (reqsE p.data.toList (mdF n P V) = 7) := Lib.hid (by unfold reqsE; rw [if_pos (by rw [mdF_length]; exact h20)])
    have g7 := hE.errs.var 7 hks.2.2.2.1
    simp only [errG] at g7
    go_enter Tryz.func157, Tryz.ntmps157
    go_wp2_with fail
    go_ret
    rw [HF.out]
    exact ⟨rfl, hB⟩
  · have h20' : ¬ (20 : Int) < (n : Int) := by omega
    go_enter Tryz.func157, Tryz.ntmps157
    go_wp2_with fail
    generalize hw1 : w.alloc (.cells #[.string p, .string v, .slice a n cap, .slice a2 n2 s2, .bool bk] 43) = w1 at *
    clear hw1
    go_loopw [14] (fun i wr => ∃ k : Nat, k ≤ n ∧ i = .int .i64 k ∧ Below w1.heap.size w1 wr ∧ Hid (∀ j, j < k → reqE p.data.toList (mdF n P V) j = 0)) (fun i _ => n - (intOf i).toNat)
    case atStart => exact ⟨0, Nat.zero_le _, rfl, Below.refl _ _, Lib.hid (fun j hj => absurd hj (Nat.not_lt_zero _))⟩
    case round =>
      obtain ⟨k, hk, rfl, hb, HA⟩ := hrel
      by_cases hlt : k < n
      · have hkn0 : (k : Int) < (n : Int) := by omega
        obtain ⟨b1, o1, rfl, c1, c2⟩ := hc.out k hlt
        have hba := below_alloc wr (.cells #[.string (P k), .string (V k)] 38)
        have hBr := below_step (below_step hB hb) hba
        have hB1 := below_step hb hba
        have hE2 := (hE.below hb).below hba
        have d0 := Below.cell_some hB1 z0
        have d1 := Below.cell_some hB1 z1
        obtain ⟨y0, y1, _⟩ := box2_alloc wr (.string (P k)) (.string (V k)) 38
        replace c1 := Below.cell_some hb c1
        replace c2 := Below.cell_some hb c2
        have hck := fun W hW => modCheck_calls ks A hks.2.1 (P k) (V k) W hW (by have := (hP.out k hlt).1; omega) (by have := (hP.out k hlt).2; omega)
        have hR : reqE p.data.toList (mdF n P V) k = if modErr (P k).data.toList (V k).data.toList ≠ 0 then modErr (P k).data.toList (V k).data.toList else if (P k).data.toList = p.data.toList then 3 else if 0 < k ∧ compareBytes (P k).data.toList (mdAt (mdF n P V) (k - 1)).1 ≤ 0 then 8 else 0 := by
          unfold reqE
          rw [mdAt_mdF hlt]; rfl
        by_cases h0 : modErr (P k).data.toList (V k).data.toList = 0
        · rw [if_neg (by simp [h0])] at hR
          rw [h0, errV_zero] at hck
          by_cases hp : (P k).data.toList = p.data.toList
          · rw [if_pos hp] at hR
            have hpb := bytes_eq.1 hp
            have HF : Hid (reqsE p.data.toList (mdF n P V) = 3) := Lib.hid (by
              unfold reqsE
              rw [if_neg (by rw [mdF_length]; exact h20), mdF_length, firstE_hit (by rw [hR]; decide) HA.out hlt, hR])
            replace hck := Lib.hid hck
            have hp1 : ((P k).toList == p.toList) = true := by rw [hpb]; simp
            clear hpb h0 hp hR z0 z1 hb hba
            go_wp2_with fail
            refine (hck.out _ hE2).mono ?_
            rintro e w2 ⟨rfl, hb⟩
            have hB := below_step hBr hb
            replace hE2 := hE2.below hb
            replace d0 := Below.cell_some hb d0
            replace y0 := Below.cell_some hb y0
            have g3 := hE2.errs.var 3 hks.1
            simp only [errG] at g3
            go_wp2_with fail
            go_ret
            rw [HF.out]
            exact ⟨rfl, hB⟩
          · rw [if_neg hp] at hR
            have hp1 : ((P k).toList == p.toList) = false := by rw [toList_data, toList_data]; exact beq_eq_false_iff_ne.2 hp
            have hp2 : (P k).toList ≠ p.toList := by rw [toList_data, toList_data]; exact hp
            have hp3 : P k ≠ p := fun e => hp (by rw [e])
            by_cases hi0 : k = 0
            · subst hi0
              rw [if_neg (by omega)] at hR
              have HN : Hid (∀ j, j < 0 + 1 → reqE p.data.toList (mdF n P V) j = 0) := Lib.hid (fun j hj => by
                obtain rfl : j = 0 := by omega
                exact hR)
              replace hck := Lib.hid hck
              simp only [Nat.zero_mul, Nat.add_zero] at c1 c2
              clear h0 hp hR z0 z1 hb hba
              go_wp2_with fail
              refine (hck.out _ hE2).mono ?_
              rintro e w2 ⟨rfl, hb⟩
              replace hB1 := below_step hB1 hb
              replace d0 := Below.cell_some hb d0
              replace d1 := Below.cell_some hb d1
              replace y0 := Below.cell_some hb y0
              clear hb
              go_wp2_with fail
              have kqy0 := fun d os => cell_patch (d := d) (os := os) y0
              have kqd1 := fun d os => cell_patch (d := d) (os := os) d1
              refine wp_region_quiet_patch (by kernel_rfl) (by kernel_rfl) ?_
              repeat (go_big_quiet_step (fail))
              refine wpQuiet_nil ?_
              intro _ hw'
              obtain ⟨⟨dq, osq⟩, hw''⟩ := hw'
              subst hw''
              clear kqy0 kqd1
              have hb := below_patch w2 dq osq
              replace hB1 := below_step hB1 hb
              clear hb
              generalize patch w2 dq osq = w3 at hB1 ⊢
              clear y0 d0 d1
              go_wp2_with fail
              go_roundw
              case rel => exact ⟨1, by omega, by go_num, hB1, HN⟩
              case measure => simp [intOf]; omega
            · obtain ⟨m, rfl⟩ : ∃ m, k = m + 1 := ⟨k - 1, by omega⟩
              rw [Nat.add_sub_cancel, mdAt_mdF (show m < n by omega)] at hR
              have hle := leq_eq (P (m + 1)) (P m)
              have hk0 : (0 : Int) < ((m + 1 : Nat) : Int) := by omega
              have hk1 : ((m + 1 : Nat) : Int) - 1 = (m : Int) := by omega
              have hkw := wrap_nat m (by omega)
              have hkn : m < n := by omega
              have hkn2 : (m : Int) < (n : Int) := by omega
              obtain ⟨b2, o2, e1, c3, _⟩ := hc.out m (by omega)
              injection e1 with e1
              injection e1 with e1 e2
              subst e1 e2
              have d3 := Below.cell_some hB1 c3
              clear c3
              by_cases hc0 : compareBytes (P (m + 1)).data.toList (P m).data.toList ≤ 0
              · rw [if_pos ⟨Nat.succ_pos m, hc0⟩] at hR
                rw [decide_eq_true hc0] at hle
                have HF : Hid (reqsE p.data.toList (mdF n P V) = 8) := Lib.hid (by
                  unfold reqsE
                  rw [if_neg (by rw [mdF_length]; exact h20), mdF_length, firstE_hit (by rw [hR]; decide) HA.out hlt, hR])
                replace hck := Lib.hid hck
                clear h0 hp hR z0 z1 hb hba hc0
                go_wp2_with fail
                refine (hck.out _ hE2).mono ?_
                rintro e w2 ⟨rfl, hb⟩
                replace hBr := below_step hBr hb
                replace hE2 := hE2.below hb
                replace d0 := Below.cell_some hb d0
                replace d1 := Below.cell_some hb d1
                replace d3 := Below.cell_some hb d3
                replace y0 := Below.cell_some hb y0
                clear hb
                go_wp2_with fail
                have kqy0 := fun d os => cell_patch (d := d) (os := os) y0
                have kqd1 := fun d os => cell_patch (d := d) (os := os) d1
                have kqd3 := fun d os => cell_patch (d := d) (os := os) d3
                refine wp_region_quiet_patch (by kernel_rfl) (by kernel_rfl) ?_
                repeat (go_big_quiet_step (fail))
                refine wpQuiet_nil ?_
                intro _ hw'
                obtain ⟨⟨dq, osq⟩, hw''⟩ := hw'
                subst hw''
                clear kqy0 kqd1 kqd3
                have hb := below_patch w2 dq osq
                replace hBr := below_step hBr hb
                replace hE2 := hE2.below hb
                clear hb
                generalize patch w2 dq osq = w3 at hBr hE2 ⊢
                clear y0 d1 d3 d0
                have g8 := hE2.errs.var 8 hks.2.2.2.2
                simp only [errG] at g8
                go_wp2_with fail
                go_ret
                rw [HF.out]
                exact ⟨rfl, hBr⟩
              · rw [if_neg (fun h => hc0 h.2)] at hR
                rw [decide_eq_false hc0] at hle
                have HN : Hid (∀ j, j < m + 1 + 1 → reqE p.data.toList (mdF n P V) j = 0) := Lib.hid (fun j hj => by
                  by_cases e : j = m + 1
                  · subst e; exact hR
                  · exact HA.out j (by omega))
                replace hck := Lib.hid hck
                clear h0 hp hR z0 z1 hb hba hc0
                go_wp2_with fail
                refine (hck.out _ hE2).mono ?_
                rintro e w2 ⟨rfl, hb⟩
                replace hB1 := below_step hB1 hb
                replace d0 := Below.cell_some hb d0
                replace d1 := Below.cell_some hb d1
                replace d3 := Below.cell_some hb d3
                replace y0 := Below.cell_some hb y0
                clear hb
                go_wp2_with fail
                have kqy0 := fun d os => cell_patch (d := d) (os := os) y0
                have kqd1 := fun d os => cell_patch (d := d) (os := os) d1
                have kqd3 := fun d os => cell_patch (d := d) (os := os) d3
                refine wp_region_quiet_patch (by kernel_rfl) (by kernel_rfl) ?_
                repeat (go_big_quiet_step (fail))
                refine wpQuiet_nil ?_
                intro _ hw'
                obtain ⟨⟨dq, osq⟩, hw''⟩ := hw'
                subst hw''
                clear kqy0 kqd1 kqd3
                have hb := below_patch w2 dq osq
                replace hB1 := below_step hB1 hb
                clear hb
                generalize patch w2 dq osq = w3 at hB1 ⊢
                clear y0 d1 d3 d0
                go_wp2_with fail
                go_roundw
                case rel => exact ⟨m + 1 + 1, by omega, by go_num, hB1, HN⟩
                case measure => simp [intOf]; omega
        · rw [if_pos h0] at hR
          rw [errV_pos A h0] at hck
          have HF : Hid (errV A (reqsE p.data.toList (mdF n P V)) = .iface 271 (.pointer (some (A (modErr (P k).data.toList (V k).data.toList))))) := Lib.hid (by
            unfold reqsE
            rw [if_neg (by rw [mdF_length]; exact h20), mdF_length, firstE_hit (by rw [hR]; exact h0) HA.out hlt, hR]
            exact errV_pos A h0)
          replace hck := Lib.hid hck
          clear h0 hR z0 z1 hb hba
          go_wp2_with fail
          refine (hck.out _ hE2).mono ?_
          rintro e w2 ⟨rfl, hb⟩
          have hB := below_step hBr hb
          go_wp2_with fail
          go_ret
          rw [HF.out]
          exact ⟨rfl, hB⟩
      · obtain rfl : k = n := by omega
        have HF : Hid (reqsE p.data.toList (mdF k P V) = 0) := Lib.hid (by
          unfold reqsE
          rw [if_neg (by rw [mdF_length]; exact h20), mdF_length, firstE_none HA.out])
        have hBB := below_step hB hb
        go_wp2_with fail
        go_ret
        rw [HF.out]
        exact ⟨rfl, hBB⟩

/-! ### packages -/
set_option maxHeartbeats 400000 in
theorem indexFuncT_calls (g : Nat) (lb : Array Value) (eg : ∀ args w, (callFunc g args).run Tryz.prog w = .ok (.enter g args) w) (p : Str → Bool) (a : Option Addr) (n cap : Nat) (L : Nat → ByteArray) (w : World) (hn : n ≤ 4000000001)
    (hc : ∀ j, j < n → ∃ b o, a = some ⟨b, o, none⟩ ∧ w.cell? ⟨b, o + j, none⟩ = some (.string (L j))) (hT : Tests g lb p n L w) :
    Calls Tryz.prog 174 #[.slice a n cap, .func (.func g) #[] lb] w fun e w' => (∃ i : Int, e = .returned (.int .i64 i) ∧ (0 ≤ i ↔ (lstF n L).any p = true)) ∧ Below w.heap.size w w' := by
  replace hc := Lib.hid hc
  replace hT := Lib.hid hT
  go_enter Tryz.func174, Tryz.ntmps174
  go_wp2_with fail
  go_loopw [8] (fun i wr => ∃ k : Nat, k ≤ n ∧ i = .int .i64 k ∧ Below w.heap.size w wr ∧ Hid (∀ j, j < k → p (L j).data.toList = false)) (fun i _ => n - (intOf i).toNat)
  case atStart => exact ⟨0, by omega, rfl, Below.refl _ _, Lib.hid (fun j hj => absurd hj (Nat.not_lt_zero _))⟩
  case round =>
    obtain ⟨k, hk, rfl, hb, HA⟩ := hrel
    by_cases hlt : k < n
    · obtain ⟨b1, o1, rfl, c0⟩ := hc.out k hlt
      have hck := Below.cell_some hb c0
      have hcall := hT.out wr hb k hlt
      clear c0
      cases hq : p (L k).data.toList with
      | true =>
        have HF : Hid ((lstF n L).any p = true) := Lib.hid ((any_lstF p L n).2 ⟨k, hlt, hq⟩)
        rw [hq] at hcall
        clear hq
        go_wp2_with (go_at_fn g; refine hcall.mono ?_; rintro e w' ⟨rfl, hb2⟩)
        go_ret
        exact ⟨⟨_, rfl, iff_of_true (by omega) HF.out⟩, below_step hb hb2⟩
      | false =>
        have HN : Hid (∀ j, j < k + 1 → p (L j).data.toList = false) := Lib.hid (fun j hj => by
          by_cases e : j = k
          · subst e; exact hq
          · exact HA.out j (by omega))
        rw [hq] at hcall
        clear hq
        go_wp2_with (go_at_fn g; refine hcall.mono ?_; rintro e w' ⟨rfl, hb2⟩)
        go_roundw
        case rel => exact ⟨k + 1, by omega, by go_num, below_step hb hb2, HN⟩
        case measure => simp [intOf]; omega
    · obtain rfl : k = n := by omega
      go_wp2_with fail
      go_ret
      refine ⟨⟨_, rfl, iff_of_false (by decide) ?_⟩, hb⟩
      intro h
      obtain ⟨j, hj, h2⟩ := (any_lstF p L k).1 h
      rw [HA.out j hj] at h2
      cases h2
theorem containsT_calls (g : Nat) (lb : Array Value) (eg : ∀ args w, (callFunc g args).run Tryz.prog w = .ok (.enter g args) w) (p : Str → Bool) (a : Option Addr) (n cap : Nat) (L : Nat → ByteArray) (w : World) (hn : n ≤ 4000000001)
    (hc : ∀ j, j < n → ∃ b o, a = some ⟨b, o, none⟩ ∧ w.cell? ⟨b, o + j, none⟩ = some (.string (L j))) (hT : Tests g lb p n L w) :
    Calls Tryz.prog 126 #[.slice a n cap, .func (.func g) #[] lb] w fun e w' => e = .returned (.bool ((lstF n L).any p)) ∧ Below w.heap.size w w' := by
  have hi := indexFuncT_calls g lb eg p a n cap L w hn hc hT
  generalize (lstF n L).any p = X at hi ⊢
  replace hi := Lib.hid hi
  clear hc hT
  go_enter Tryz.func126, Tryz.ntmps126
  go_wp2_with fail
  refine hi.out.mono ?_
  rintro e w1 ⟨⟨i, rfl, hiff⟩, hb⟩
  cases X with
  | true =>
    have h0 := hiff.2 rfl
    clear hiff
    go_wp2_with fail
    go_ret
    exact ⟨rfl, hb⟩
  | false =>
    have h0 : ¬ (0 ≤ i) := fun h => by have := hiff.1 h; cases this
    clear hiff
    go_wp2_with fail
    go_ret
    refine ⟨?_, hb⟩
    show Ending.returned (Value.bool (decide (0 ≤ i))) = _
    rw [decide_eq_false (by omega)]

theorem Tryz.enters_packs1 : ∀ args w, (callFunc 195 args).run Tryz.prog w = .ok (.enter 195 args) w := Go.Proofs.enters_of Tryz.func195 (by kernel_rfl) rfl
theorem packs1_calls (ks : List Nat) (A : Nat → Addr) (h4 : 4 ∈ ks) (s : ByteArray) (w : World) (hE : EnvP ks A w) (hs : s.size ≤ 1000000) :
    Calls Tryz.prog 195 #[.string s] w fun e w' => e = .returned (.bool (!packOk s.data.toList)) ∧ Below w.heap.size w w' := by
  have hpa := path_calls ks A h4 s w hE (by omega)
  by_cases h1 : s.data.toList = [46]
  · have HF : Hid ((!packOk s.data.toList) = false) := Lib.hid (by unfold packOk; rw [decide_eq_true h1]; rfl)
    have h2 : (s.toList != [46]) = false := by rw [toList_data, h1]; rfl
    have h3 : s.toList = [46] := by rw [toList_data, h1]
    clear h1 hpa
    go_enter Tryz.func195, Tryz.ntmps195
    go_wp2_with fail
    go_ret
    rw [HF.out]
    exact ⟨rfl, Below.refl _ _⟩
  · have h2 : (s.toList != [46]) = true := by rw [toList_data]; exact bne_iff_ne.2 h1
    have h3 : s.toList ≠ [46] := by rw [toList_data]; exact h1
    have h5 : (s.toList == [46]) = false := beq_eq_false_iff_ne.2 h3
    by_cases h0 : pathErr s.data.toList = 0
    · have HF : Hid ((!packOk s.data.toList) = false) := Lib.hid (by unfold packOk; rw [decide_eq_true h0, Bool.or_true]; rfl)
      rw [h0, errV_zero] at hpa
      clear h0 h1
      replace hpa := Lib.hid hpa
      go_enter Tryz.func195, Tryz.ntmps195
      go_wp2_with fail
      refine hpa.out.mono ?_
      rintro e w1 ⟨rfl, hb⟩
      go_wp2_with fail
      go_ret
      rw [HF.out]
      exact ⟨rfl, hb⟩
    · have HF : Hid ((!packOk s.data.toList) = true) := Lib.hid (by unfold packOk; rw [decide_eq_false h0, decide_eq_false h1]; rfl)
      rw [errV_pos A h0] at hpa
      clear h0 h1
      replace hpa := Lib.hid hpa
      go_enter Tryz.func195, Tryz.ntmps195
      go_wp2_with fail
      refine hpa.out.mono ?_
      rintro e w1 ⟨rfl, hb⟩
      go_wp2_with fail
      go_ret
      rw [HF.out]
      exact ⟨rfl, hb⟩

theorem getD_lstF {n : Nat} {L : Nat → ByteArray} {j : Nat} (h : j < n) : (lstF n L).getD j [] = (L j).data.toList := by
  rw [List.getD_eq_getElem?_getD]
  simp [lstF, h]
set_option maxHeartbeats 2000000 in
set_option maxRecDepth 100000 in
theorem idxPacks_calls (ks : List Nat) (A : Nat → Addr) (hks : IdxKs ks) (p v : ByteArray) (kv : Value) (a1 : Option Addr) (n1 s1 : Nat) (bk : Bool) (K : List Str) (w : World) (hE : EnvP ks A w) (hk : StrsAt w kv K) (hK : K.length ≤ 1000000) (hs : ∀ s ∈ K, s.length ≤ 1000000) :
    Calls Tryz.prog 158 #[.agg #[.string p, .string v, .slice a1 n1 s1, kv, .bool bk]] w fun e w' => e = .returned (errV A (packsE K)) ∧ Below w.heap.size w w' := by
  obtain ⟨a, n, cap, L, rfl, rfl, hnc, hcap, hc⟩ := hk
  have hn : n ≤ 1000000 := by simpa [lstF] using hK
  have hL : Hid (∀ j, j < n → (L j).size ≤ 1000000) := Lib.hid (fun j hj => by
    rw [size_eq]
    exact hs _ (List.mem_of_getElem? (show (lstF n L)[j]? = some (L j).data.toList by simp [lstF, hj])))
  have hlen : (lstF n L).length = n := by simp [lstF]
  have hB := below_alloc w (.cells #[.string p, .string v, .slice a1 n1 s1, .slice a n cap, .bool bk] 43)
  have z1 : (w.alloc (.cells #[.string p, .string v, .slice a1 n1 s1, .slice a n cap, .bool bk] 43)).cell? ⟨w.heap.size, 3, none⟩ = some (.slice a n cap) := by simp
  replace hc : ∀ j, j < n → ∃ b o, a = some ⟨b, o, none⟩ ∧ (w.alloc (.cells #[.string p, .string v, .slice a1 n1 s1, .slice a n cap, .bool bk] 43)).cell? ⟨b, o + j, none⟩ = some (.string (L j)) := fun j hj =>
    let ⟨b, o, e, h1⟩ := hc j hj; ⟨b, o, e, Below.cell_some hB h1⟩
  replace hE := hE.below hB
  have hct := containsT_calls 195 #[] Tryz.enters_packs1 (fun s => !packOk s) a n cap L (w.alloc (.cells #[.string p, .string v, .slice a1 n1 s1, .slice a n cap, .bool bk] 43)) (by omega) hc
    (fun W hW j hj => packs1_calls ks A hks.2.1 (L j) W (hE.below hW) (hL.out j hj))
  replace hc := Lib.hid hc
  clear hs hK hL
  by_cases h10 : 10 < n
  · have h10' : (10 : Int) < (n : Int) := by omega
    have HF : Hid (packsE (lstF n L) = 7) := Lib.hid (by unfold packsE; rw [if_pos (by rw [hlen]; exact h10)])
    have g7 := hE.errs.var 7 hks.2.2.2.1
    simp only [errG] at g7
    clear hct
    go_enter Tryz.func158, Tryz.ntmps158
    go_wp2_with fail
    go_ret
    rw [HF.out]
    exact ⟨rfl, hB⟩
  · have h10' : ¬ (10 : Int) < (n : Int) := by omega
    by_cases hall : (lstF n L).all packOk = true
    · have HF0 : Hid (packsE (lstF n L) = (firstE (packE (lstF n L)) n).1) := Lib.hid (by unfold packsE; rw [if_neg (by rw [hlen]; exact h10), if_pos hall, hlen])
      have e0 : (lstF n L).any (fun s => !packOk s) = false := by
        rw [List.all_eq_true] at hall
        rw [List.any_eq_false]
        intro x hx
        rw [hall x hx]; decide
      rw [e0] at hct
      clear hall e0
      replace hct := Lib.hid hct
      go_enter Tryz.func158, Tryz.ntmps158
      go_wp2_with fail
      refine hct.out.mono ?_
      rintro e w1 ⟨rfl, hb⟩
      replace z1 := Below.cell_some hb z1
      replace hE := hE.below hb
      have hc1 : Hid (∀ j, j < n → ∃ b o, a = some ⟨b, o, none⟩ ∧ w1.cell? ⟨b, o + j, none⟩ = some (.string (L j))) := Lib.hid (fun j hj => let ⟨b, o, e, h1⟩ := hc.out j hj; ⟨b, o, e, Below.cell_some hb h1⟩)
      replace hB := below_step hB hb
      clear hct hb hc
      go_wp2_with fail
      go_loopw [3] (fun i wr => ∃ k : Nat, k ≤ n ∧ i = .int .i64 ((k : Int) + 1) ∧ Below w1.heap.size w1 wr ∧ Hid (∀ j, j < k + 1 → j < n → packE (lstF n L) j = 0)) (fun i _ => n + 1 - (intOf i).toNat)
      case atStart => exact ⟨0, Nat.zero_le _, rfl, Below.refl _ _, Lib.hid (fun j hj _ => by
        obtain rfl : j = 0 := by omega
        unfold packE
        rw [if_neg (fun h => absurd h.1 (Nat.lt_irrefl _))])⟩
      case round =>
        obtain ⟨m, hm, rfl, hb, HA⟩ := hrel
        have d1 := Below.cell_some hb z1
        have hwm := wrap_nat (m + 1) (by omega)
        by_cases hlt : m + 1 < n
        · have hlt' : (m : Int) + 1 < (n : Int) := by omega
          obtain ⟨b1, o1, rfl, c1⟩ := hc1.out (m + 1) hlt
          obtain ⟨b2, o2, e1, c2⟩ := hc1.out m (by omega)
          injection e1 with e1
          injection e1 with e1 e2
          subst e1 e2
          replace c1 := Below.cell_some hb c1
          replace c2 := Below.cell_some hb c2
          have hle := leq_eq (L (m + 1)) (L m)
          have hR : packE (lstF n L) (m + 1) = if compareBytes (L (m + 1)).data.toList (L m).data.toList ≤ 0 then 8 else 0 := by
            unfold packE
            rw [getD_lstF hlt, Nat.add_sub_cancel, getD_lstF (by omega)]
            by_cases hq : compareBytes (L (m + 1)).data.toList (L m).data.toList ≤ 0
            · rw [if_pos ⟨Nat.succ_pos _, hq⟩, if_pos hq]
            · rw [if_neg (fun h => hq h.2), if_neg hq]
          have hkw := wrap_nat m (by omega)
          have hwm' : IntKind.i64.wrap ((m : Int) + 1) = (m : Int) + 1 := by have := hwm; push_cast at this; exact this
          have hm0 : ((m : Int) + 1 - 1) = (m : Int) := by omega
          have hm1 : (m : Int) < (n : Int) := by omega
          have hm2 : ((m : Int) + 1).toNat = m + 1 := by omega
          have hm3 : (0 : Int) ≤ (m : Int) + 1 := by omega
          have hm4 : ¬ ((m : Int) + 1 < 0) := by omega
          by_cases hc0 : compareBytes (L (m + 1)).data.toList (L m).data.toList ≤ 0
          · rw [if_pos hc0] at hR
            rw [decide_eq_true hc0] at hle
            have HF : Hid (packsE (lstF n L) = 8) := Lib.hid (by
              rw [HF0.out, firstE_hit (by rw [hR]; decide) (fun j hj => HA.out j (by omega) (by omega)) hlt, hR])
            have hE2 := hE.below hb
            have hBr := below_step hB hb
            clear hc0 hR HF0 HA z1 hb
            go_wp2_with fail
            have kqc1 := fun d os => cell_patch (d := d) (os := os) c1
            have kqd1 := fun d os => cell_patch (d := d) (os := os) d1
            have kqc2 := fun d os => cell_patch (d := d) (os := os) c2
            refine wp_region_quiet_patch (by kernel_rfl) (by kernel_rfl) ?_
            repeat (go_big_quiet_step (fail))
            refine wpQuiet_nil ?_
            intro _ hw'
            obtain ⟨⟨dq, osq⟩, hw''⟩ := hw'
            subst hw''
            clear kqc1 kqd1 kqc2
            have hb := below_patch wr dq osq
            replace hBr := below_step hBr hb
            replace hE2 := hE2.below hb
            clear hb
            generalize patch wr dq osq = w3 at hBr hE2 ⊢
            clear c1 d1 c2
            have g8 := hE2.errs.var 8 hks.2.2.2.2
            simp only [errG] at g8
            go_wp2_with fail
            go_ret
            rw [HF.out]
            exact ⟨rfl, hBr⟩
          · rw [if_neg hc0] at hR
            rw [decide_eq_false hc0] at hle
            have HN : Hid (∀ j, j < m + 1 + 1 → j < n → packE (lstF n L) j = 0) := Lib.hid (fun j hj hjn => by
              by_cases e : j = m + 1
              · subst e; exact hR
              · exact HA.out j (by omega) hjn)
            clear hc0 hR z1
            have hB1 := hb
            clear hb
            go_wp2_with fail
            have kqc1 := fun d os => cell_patch (d := d) (os := os) c1
            have kqd1 := fun d os => cell_patch (d := d) (os := os) d1
            have kqc2 := fun d os => cell_patch (d := d) (os := os) c2
            refine wp_region_quiet_patch (by kernel_rfl) (by kernel_rfl) ?_
            repeat (go_big_quiet_step (fail))
            refine wpQuiet_nil ?_
            intro _ hw'
            obtain ⟨⟨dq, osq⟩, hw''⟩ := hw'
            subst hw''
            clear kqc1 kqd1 kqc2
            have hb := below_patch wr dq osq
            replace hB1 := below_step hB1 hb
            clear hb
            generalize patch wr dq osq = w3 at hB1 ⊢
            clear c1 d1 c2
            go_wp2_with fail
            go_roundw
            case rel => exact ⟨m + 1, by omega, by go_num, hB1, HN⟩
            case measure => simp [intOf]; omega
        · have hlt' : ¬ (m : Int) + 1 < (n : Int) := by omega
          have HF : Hid (packsE (lstF n L) = 0) := Lib.hid (by
            rw [HF0.out, firstE_none (fun j hj => HA.out j (by omega) hj)])
          have hBB := below_step hB hb
          go_wp2_with fail
          go_ret
          rw [HF.out]
          exact ⟨rfl, hBB⟩
    · have HF : Hid (packsE (lstF n L) = 1) := Lib.hid (by unfold packsE; rw [if_neg (by rw [hlen]; exact h10), if_neg hall])
      have e0 : (lstF n L).any (fun s => !packOk s) = true := by
        by_cases h : (lstF n L).any (fun s => !packOk s) = true
        · exact h
        · exfalso
          apply hall
          rw [List.all_eq_true]
          intro x hx
          by_cases hx2 : packOk x = true
          · exact hx2
          · exact absurd (List.any_eq_true.2 ⟨x, hx, by simpa using hx2⟩) h
      rw [e0] at hct
      clear hall e0
      replace hct := Lib.hid hct
      go_enter Tryz.func158, Tryz.ntmps158
      go_wp2_with fail
      refine hct.out.mono ?_
      rintro e w1 ⟨rfl, hb⟩
      replace hE := hE.below hb
      replace hB := below_step hB hb
      have g1 := hE.errs.var 1 hE.has.1
      simp only [errG] at g1
      go_wp2_with fail
      go_ret
      rw [HF.out]
      exact ⟨rfl, hB⟩
end Go.Proofs.Pw

/- index.entry. -/
namespace Go.Proofs.Pw
open Go.RowKit
open Go.Lib hiding intOf

theorem reqsE_of (e : En) : reqsErr e = reqsE e.md.1 e.reqs := rfl
theorem packsE_of (e : En) : packsErr e = packsE e.packs := rfl

/-- the four stages of an entry -/
def stagesE (a : Nat) (b : Bool) (c d : Nat) : Nat := if a ≠ 0 then a else if b = true then 8 else if c ≠ 0 then c else d
theorem entErr_stages (l : List En) (i : Nat) : entErr l i = stagesE (mdErr (enAt l i).md) (decide (0 < i ∧ modAhead (enAt l (i - 1)).md (enAt l i).md = false)) (reqsErr (enAt l i)) (packsErr (enAt l i)) := by
  unfold entErr stagesE
  simp only [decide_eq_true_eq]


set_option maxHeartbeats 4000000 in
set_option maxRecDepth 100000 in
theorem idxEntry_calls (ks : List Nat) (A : Nat → Addr) (hks : IdxKs ks) (a : Option Addr) (n cap : Nat) (P V : Nat → ByteArray) (R : Nat → List Md) (K : Nat → List Str) (B : Nat → Bool) (Rv Kv : Nat → Value) (i : Nat) (w : World) (hE : EnvP ks A w) (h : EntsIn w a n cap P V R K B Rv Kv) (hs : ShortI (enF n P V R K B)) (hi : i < n) :
    Calls Tryz.prog 106 #[.slice a n cap, .int .i64 i] w fun e w' => e = .returned (errV A (entErr (enF n P V R K B) i)) ∧ Below w.heap.size w w' := by
  have hB := Below.refl w.heap.size w
  obtain ⟨hn, hp1, hv1, hsr, hk1, hk2⟩ := hs.at_ hi
  have HS0 := entErr_stages (enF n P V R K B) i
  rw [reqsE_of, packsE_of, enAt_enF hi] at HS0
  have hck := fun W hW => modCheck_calls ks A hks.2.1 (P i) (V i) W hW (by omega) (by omega)
  obtain ⟨b1, o1, ea, hcell⟩ := h.at_ i hi
  obtain ⟨a1, n1, s1, a2, n2, s2, e1, e2⟩ := h.forms hi
  have hrq := fun W (hW : EnvP ks A W) (hb : Below w.heap.size w W) => idxReqs_calls ks A hks (P i) (V i) (Rv i) a2 n2 s2 (B i) (R i) W hW ((h.reqs i hi).below hb) hsr
  have hpk := fun W (hW : EnvP ks A W) (hb : Below w.heap.size w W) => idxPacks_calls ks A hks (P i) (V i) (Kv i) a1 n1 s1 (B i) (K i) W hW ((h.packs i hi).below hb) hk1 hk2
  rw [e1, e2] at hcell
  simp only [e1] at hrq
  simp only [e2] at hpk
  have hki : (i : Int) < (n : Int) := by omega
  by_cases h0 : modErr (P i).data.toList (V i).data.toList = 0
  · rw [h0, errV_zero] at hck
    by_cases hi0 : i = 0
    · subst hi0
      rw [decide_eq_false (p := _ ∧ _) (fun h => absurd h.1 (by omega))] at HS0
      have HS := Lib.hid HS0
      clear HS0
      simp only [Nat.zero_mul, Nat.add_zero] at hcell
      subst ea
      replace hck := Lib.hid hck
      replace h0 := Lib.hid h0
      clear h hs e1 e2
      obtain ⟨c0, c1, c2, c3, c4⟩ := id hcell
      go_enter Tryz.func106, Tryz.ntmps106
      go_wp2_with fail
      refine (hck.out _ hE).mono ?_
      rintro e w1 ⟨rfl, hb⟩
      replace hB := below_step hB hb
      replace hE := hE.below hb
      replace hcell := hcell.below hb
      clear hb
      clear c0 c1 c2 c3 c4
      go_wp2_with fail
      refine wp_region_quiet_patch (by kernel_rfl) (by kernel_rfl) ?_
      repeat (go_big_quiet_step (fail))
      refine wpQuiet_nil ?_
      intro _ hw'
      obtain ⟨⟨dq, osq⟩, hw''⟩ := hw'
      subst hw''
      have hb := below_patch w1 dq osq
      replace hB := below_step hB hb
      replace hE := hE.below hb
      replace hcell := hcell.below hb
      clear hb
      generalize patch w1 dq osq = w2 at hB hE hcell ⊢
      obtain ⟨c0, c1, c2, c3, c4⟩ := id hcell
      cases hq : decide (reqsE (P 0).data.toList (R 0) = 0) with
      | true =>
        have hq := of_decide_eq_true hq
        rw [hq, errV_zero] at hrq
        have HF2 : Hid (entErr (enF n P V R K B) 0 = packsE (K 0)) := Lib.hid (by rw [HS.out]; unfold stagesE; rw [if_neg (fun h => h h0.out), if_neg (by simp), if_neg (by simp [hq])])
        replace hrq := Lib.hid hrq
        replace hpk := Lib.hid hpk
        clear hq
        go_wp2_with fail
        refine (hrq.out _ hE hB).mono ?_
        rintro e w5 ⟨rfl, hb⟩
        replace hB := below_step hB hb
        replace hE := hE.below hb
        replace hcell := hcell.below hb
        clear hb
        clear c0 c1 c2 c3 c4
        obtain ⟨c0, c1, c2, c3, c4⟩ := id hcell
        go_wp2_with fail
        refine (hpk.out _ hE hB).mono ?_
        rintro e w6 ⟨rfl, hb⟩
        have hB6 := below_step hB hb
        go_wp2_with fail
        go_ret
        rw [HF2.out]
        exact ⟨rfl, hB6⟩
      | false =>
        have hq := of_decide_eq_false hq
        have HF2 : Hid (entErr (enF n P V R K B) 0 = reqsE (P 0).data.toList (R 0)) := Lib.hid (by rw [HS.out]; unfold stagesE; rw [if_neg (fun h => h h0.out), if_neg (by simp), if_pos hq])
        have HF3 : Hid (errV A (reqsE (P 0).data.toList (R 0)) = .iface 271 (.pointer (some (A (reqsE (P 0).data.toList (R 0)))))) := Lib.hid (errV_pos A hq)
        rw [errV_pos A hq] at hrq
        replace hrq := Lib.hid hrq
        replace hpk := Lib.hid hpk
        clear hq
        go_wp2_with fail
        refine (hrq.out _ hE hB).mono ?_
        rintro e w5 ⟨rfl, hb⟩
        have hB5 := below_step hB hb
        go_wp2_with fail
        go_ret
        rw [HF2.out, HF3.out]
        exact ⟨rfl, hB5⟩
    · obtain ⟨k, rfl⟩ : ∃ k, i = k + 1 := ⟨i - 1, by omega⟩
      have hkn : k < n := by omega
      obtain ⟨_, hp2, hv2, _, _, _⟩ := hs.at_ hkn
      rw [Nat.add_sub_cancel, enAt_enF hkn] at HS0
      have hk0 : (0 : Int) < ((k + 1 : Nat) : Int) := by omega
      have hk1' : ((k + 1 : Nat) : Int) - 1 = (k : Int) := by omega
      have hkw := wrap_nat k (by omega)
      have hkw1 := wrap_nat (k + 1) (by omega)
      have hkn2 : (k : Int) < (n : Int) := by omega
      have hkn3 : (k : Int) + 1 < (n : Int) := by omega
      have hkn4 : ((k : Int) + 1).toNat = k + 1 := by omega
      have hkn5 : (0 : Int) ≤ (k : Int) + 1 := by omega
      have hkn6 : ¬ ((k : Int) + 1 < 0) := by omega
      obtain ⟨b2, o2, eb, hcell2⟩ := h.at_ k hkn
      rw [ea] at eb
      injection eb with eb
      injection eb with eb1 eb2
      subst eb1 eb2
      obtain ⟨d0, d1, d2, d3, d4⟩ := hcell2
      subst ea
      have hah := fun W hW => modAhead_calls ks A (P k) (V k) (P (k + 1)) (V (k + 1)) W hW (by omega) (by omega)
      cases hX : modAhead ((P k).data.toList, (V k).data.toList) ((P (k + 1)).data.toList, (V (k + 1)).data.toList) with
      | true =>
        rw [hX] at hah
        rw [decide_eq_false (p := _ ∧ _) (fun h => by rw [hX] at h; cases h.2)] at HS0
        have HS := Lib.hid HS0
        clear HS0
        replace hck := Lib.hid hck
        replace hah := Lib.hid hah
        replace h0 := Lib.hid h0
        clear h hs e1 e2 hX d2 d3 d4
        obtain ⟨c0, c1, c2, c3, c4⟩ := id hcell
        go_enter Tryz.func106, Tryz.ntmps106
        go_wp2_with fail
        refine (hck.out _ hE).mono ?_
        rintro e w1 ⟨rfl, hb⟩
        replace hB := below_step hB hb
        replace hE := hE.below hb
        replace hcell := hcell.below hb
        replace c0 := Below.cell_some hb c0
        replace c1 := Below.cell_some hb c1
        replace d0 := Below.cell_some hb d0
        replace d1 := Below.cell_some hb d1
        clear hb
        go_wp2_with fail
        have kE := Lib.hid (fun d os => hE.below (below_patch w1 d os))
        have kqc0 := fun d os => cell_patch (d := d) (os := os) c0
        have kqc1 := fun d os => cell_patch (d := d) (os := os) c1
        have kqd0 := fun d os => cell_patch (d := d) (os := os) d0
        have kqd1 := fun d os => cell_patch (d := d) (os := os) d1
        refine wp_region_quiet_patch (by kernel_rfl) (by kernel_rfl) ?_
        repeat (go_big_quiet_step ((go_at_call 156; with_reducible exact Calls.patch_of (hah.out _ (kE.out _ _)))))
        refine wpQuiet_nil ?_
        intro _ hw'
        obtain ⟨⟨dq, osq⟩, hw''⟩ := hw'
        subst hw''
        clear kqc0 kqc1 kqd0 kqd1
        have hb := below_patch w1 dq osq
        replace hB := below_step hB hb
        replace hE := hE.below hb
        replace hcell := hcell.below hb
        clear hb
        generalize patch w1 dq osq = w2 at hB hE hcell ⊢
        clear c0 c1 c2 c3 c4 d0 d1
        obtain ⟨c0, c1, c2, c3, c4⟩ := id hcell
        cases hq : decide (reqsE (P (k + 1)).data.toList (R (k + 1)) = 0) with
        | true =>
          have hq := of_decide_eq_true hq
          rw [hq, errV_zero] at hrq
          have HF2 : Hid (entErr (enF n P V R K B) (k + 1) = packsE (K (k + 1))) := Lib.hid (by rw [HS.out]; unfold stagesE; rw [if_neg (fun h => h h0.out), if_neg (by simp), if_neg (by simp [hq])])
          replace hrq := Lib.hid hrq
          replace hpk := Lib.hid hpk
          clear hq
          go_wp2_with fail
          refine (hrq.out _ hE hB).mono ?_
          rintro e w5 ⟨rfl, hb⟩
          replace hB := below_step hB hb
          replace hE := hE.below hb
          replace hcell := hcell.below hb
          clear hb
          clear c0 c1 c2 c3 c4
          obtain ⟨c0, c1, c2, c3, c4⟩ := id hcell
          go_wp2_with fail
          refine (hpk.out _ hE hB).mono ?_
          rintro e w6 ⟨rfl, hb⟩
          have hB6 := below_step hB hb
          go_wp2_with fail
          go_ret
          rw [HF2.out]
          exact ⟨rfl, hB6⟩
        | false =>
          have hq := of_decide_eq_false hq
          have HF2 : Hid (entErr (enF n P V R K B) (k + 1) = reqsE (P (k + 1)).data.toList (R (k + 1))) := Lib.hid (by rw [HS.out]; unfold stagesE; rw [if_neg (fun h => h h0.out), if_neg (by simp), if_pos hq])
          have HF3 : Hid (errV A (reqsE (P (k + 1)).data.toList (R (k + 1))) = .iface 271 (.pointer (some (A (reqsE (P (k + 1)).data.toList (R (k + 1))))))) := Lib.hid (errV_pos A hq)
          rw [errV_pos A hq] at hrq
          replace hrq := Lib.hid hrq
          replace hpk := Lib.hid hpk
          clear hq
          go_wp2_with fail
          refine (hrq.out _ hE hB).mono ?_
          rintro e w5 ⟨rfl, hb⟩
          have hB5 := below_step hB hb
          go_wp2_with fail
          go_ret
          rw [HF2.out, HF3.out]
          exact ⟨rfl, hB5⟩
      | false =>
        rw [hX] at hah
        rw [decide_eq_true (p := _ ∧ _) ⟨Nat.succ_pos k, hX⟩] at HS0
        have HF : Hid (entErr (enF n P V R K B) (k + 1) = 8) := Lib.hid (by rw [HS0]; unfold stagesE; rw [if_neg (by show ¬ mdErr _ ≠ 0; simp [mdErr, h0]), if_pos rfl])
        clear HS0
        replace hck := Lib.hid hck
        replace hah := Lib.hid hah
        replace h0 := Lib.hid h0
        obtain ⟨c0, c1, c2, c3, c4⟩ := hcell
        clear h hs e1 e2 hX d2 d3 d4 c2 c3 c4 hrq hpk
        go_enter Tryz.func106, Tryz.ntmps106
        go_wp2_with fail
        refine (hck.out _ hE).mono ?_
        rintro e w1 ⟨rfl, hb⟩
        replace hB := below_step hB hb
        replace hE := hE.below hb
        replace c0 := Below.cell_some hb c0
        replace c1 := Below.cell_some hb c1
        replace d0 := Below.cell_some hb d0
        replace d1 := Below.cell_some hb d1
        clear hb
        go_wp2_with fail
        have kE := Lib.hid (fun d os => hE.below (below_patch w1 d os))
        have kqc0 := fun d os => cell_patch (d := d) (os := os) c0
        have kqc1 := fun d os => cell_patch (d := d) (os := os) c1
        have kqd0 := fun d os => cell_patch (d := d) (os := os) d0
        have kqd1 := fun d os => cell_patch (d := d) (os := os) d1
        refine wp_region_quiet_patch (by kernel_rfl) (by kernel_rfl) ?_
        repeat (go_big_quiet_step ((go_at_call 156; with_reducible exact Calls.patch_of (hah.out _ (kE.out _ _)))))
        refine wpQuiet_nil ?_
        intro _ hw'
        obtain ⟨⟨dq, osq⟩, hw''⟩ := hw'
        subst hw''
        clear kqc0 kqc1 kqd0 kqd1
        have hb := below_patch w1 dq osq
        replace hB := below_step hB hb
        replace hE := hE.below hb
        clear hb
        generalize patch w1 dq osq = w2 at hB hE ⊢
        clear c0 c1 d0 d1
        have g8 := hE.errs.var 8 hks.2.2.2.2
        simp only [errG] at g8
        go_wp2_with fail
        go_ret
        rw [HF.out]
        exact ⟨rfl, hB⟩
  · have HF : Hid (errV A (entErr (enF n P V R K B) i) = .iface 271 (.pointer (some (A (modErr (P i).data.toList (V i).data.toList))))) := Lib.hid (by
      rw [HS0]
      unfold stagesE
      rw [if_pos (by exact h0)]
      exact errV_pos A h0)
    rw [errV_pos A h0] at hck
    subst ea
    replace hck := Lib.hid hck
    obtain ⟨c0, c1, c2, c3, c4⟩ := hcell
    clear h hs e1 e2 hrq hpk HS0 c2 c3 c4
    go_enter Tryz.func106, Tryz.ntmps106
    go_wp2_with fail
    refine (hck.out _ hE).mono ?_
    rintro e w1 ⟨rfl, hb⟩
    replace hB := below_step hB hb
    clear hb
    go_wp2_with fail
    go_ret
    rw [HF.out]
    exact ⟨rfl, hB⟩
end Go.Proofs.Pw

/- The references' small functions: AreDigits, NumberOf, Cut, SameTexts. Conditions: texts of at most 4000000000 bytes. -/
namespace Go.Proofs.Pw
open Go.RowKit
open Go.Lib hiding intOf

theorem take_snoc (s : ByteArray) (k : Nat) (h : k < s.size) : s.data.toList.take (k + 1) = s.data.toList.take k ++ [s[k]] := by
  rw [List.take_succ_eq_append_getElem (by simpa using h)]; rfl
theorem drop_cons (s : ByteArray) (k : Nat) (h : k < s.size) : s.data.toList.drop k = s[k] :: s.data.toList.drop (k + 1) := by
  rw [List.drop_eq_getElem_cons (by simpa using h)]; rfl
theorem byte_mem (s : ByteArray) (k : Nat) (h : k < s.size) : s[k] ∈ s.data.toList := by
  have : s[k] = s.data.toList[k]'(by simpa using h) := rfl
  rw [this]; exact List.getElem_mem _
theorem take_size (s : ByteArray) : s.data.toList.take s.size = s.data.toList := by rw [size_eq, List.take_length]
theorem drop_size (s : ByteArray) : s.data.toList.drop s.size = [] := by rw [size_eq, List.drop_length]
theorem isDig_no {c : UInt8} (h : (c.toNat : Int) < 48 ∨ 57 < (c.toNat : Int)) : isDig c = false := by unfold isDig; apply decide_eq_false; omega
theorem isDig_yes {c : UInt8} (h1 : ¬ (c.toNat : Int) < 48) (h2 : ¬ 57 < (c.toNat : Int)) : isDig c = true := by unfold isDig; apply decide_eq_true; omega
theorem areDigits_no {s : ByteArray} {k : Nat} (h : k < s.size) (hd : isDig s[k] = false) : areDigits s.data.toList = false := by
  unfold areDigits
  have : s.data.toList.all isDig = false := by
    rw [Bool.eq_false_iff]
    intro e
    have := List.all_eq_true.1 e _ (byte_mem s k h)
    rw [hd] at this
    cases this
  rw [this, Bool.and_false]
theorem areDigits_yes {s : ByteArray} (h : 0 < s.size) (ha : (s.data.toList.take s.size).all isDig = true) : areDigits s.data.toList = true := by
  rw [take_size] at ha
  unfold areDigits
  rw [ha]
  cases e : s.data.toList with
  | nil => rw [size_eq, e] at h; simp at h
  | cons => rfl
theorem areDigits_none {s : ByteArray} (h : s.size = 0) : areDigits s.data.toList = false := by
  have : s.data.toList = [] := List.length_eq_zero_iff.1 (by rw [← size_eq]; exact h)
  rw [this]; rfl

/-- R.AreDigits -/
theorem refDigits_calls (s : ByteArray) (w : World) (hs : s.size ≤ 4000000000) :
    Calls Tryz.prog 134 #[.string s] w fun e w' => e = .returned (.bool (areDigits s.data.toList)) ∧ w = w' := by
  go_enter Tryz.func134, Tryz.ntmps134
  go_wp2_with fail
  go_loop [3] (fun i => ∃ k : Nat, k ≤ s.size ∧ i = .int .i64 k ∧ Hid ((s.data.toList.take k).all isDig = true)) (fun i => s.size - (intOf i).toNat)
  case atStart => exact ⟨0, Nat.zero_le _, rfl, Lib.hid rfl⟩
  case round =>
    obtain ⟨k, hk, rfl, HA⟩ := hrel
    by_cases hlt : k < s.size
    · by_cases h1 : (s[k].toNat : Int) < 48
      · have HF := Lib.hid (areDigits_no hlt (isDig_no (.inl h1)))
        go_wp2_with fail
        go_ret
        rw [HF.out]
        exact ⟨rfl, rfl⟩
      · by_cases h2 : 57 < (s[k].toNat : Int)
        · have HF := Lib.hid (areDigits_no hlt (isDig_no (.inr h2)))
          go_wp2_with fail
          go_ret
          rw [HF.out]
          exact ⟨rfl, rfl⟩
        · have HN : Hid ((s.data.toList.take (k + 1)).all isDig = true) := Lib.hid (by rw [take_snoc s k hlt, List.all_append, HA.out]; simp [isDig_yes h1 h2])
          go_wp2_with fail
          go_round
          case rel => exact ⟨k + 1, by omega, by go_num, HN⟩
          case measure => simp [intOf]; omega
    · obtain rfl : k = s.size := by omega
      by_cases h0 : 0 < s.size
      · have HF := Lib.hid (areDigits_yes h0 HA.out)
        go_wp2_with fail
        go_ret
        rw [HF.out]
        exact ⟨rfl, rfl⟩
      · have HF := Lib.hid (areDigits_none (s := s) (by omega))
        go_wp2_with fail
        go_ret
        rw [HF.out]
        exact ⟨rfl, rfl⟩

theorem decVal_bound {l : Str} (h : l.all isDig = true) (h6 : l.length ≤ 6) : decVal l ≤ 999999 := by
  have h1 := decVal_lt l h
  have := Nat.pow_le_pow_right (n := 10) (by decide) h6
  omega

set_option maxHeartbeats 400000 in
/-- R.NumberOf -/
theorem refNumber_calls (s : ByteArray) (w : World) (hs : s.size ≤ 4000000000) :
    Calls Tryz.prog 133 #[.string s] w fun e w' => e = .returned (.tuple #[.int .i64 ((numberOf s.data.toList).1 : Nat), .int .i64 ((numberOf s.data.toList).2 : Nat)]) ∧ w = w' := by
  cases hd : areDigits s.data.toList with
  | false =>
    have HF := Lib.hid (numberOf_text (s := s.data.toList) (.inl hd))
    have HD := Lib.hid hd
    clear hd
    go_enter Tryz.func133, Tryz.ntmps133
    go_wp2_with fail
    refine (refDigits_calls s w hs).mono ?_
    rintro e w' ⟨rfl, rfl⟩
    rw [HD.out]
    go_wp2_with fail
    go_ret2
    rw [HF.out]
    exact ⟨rfl, rfl⟩
  | true =>
    have HD := Lib.hid hd
    have hall : s.data.toList.all isDig = true := by
      unfold areDigits at hd; simp only [Bool.and_eq_true] at hd; exact hd.2
    have hne : 0 < s.size := by
      rw [size_eq]
      cases hsd : s.data.toList with
      | nil => rw [hsd] at hd; simp [areDigits] at hd
      | cons c r => simp
    have h0 : s.data.toList.head? = some (s[0]'hne) := by
      rw [List.head?_eq_getElem?, List.getElem?_eq_getElem (by rw [← size_eq]; omega)]; rfl
    have HA := Lib.hid hall
    by_cases hz : 1 < s.size ∧ s[0]'hne = 48
    · have HF := Lib.hid (numberOf_text (s := s.data.toList) (.inr ⟨by rw [← size_eq]; exact hz.1, by rw [h0, hz.2]⟩))
      have h1 := hz.1
      have h2 : ((s[0]'hne).toNat : Int) = 48 := by rw [hz.2]; rfl
      clear hd hall h0 hz
      go_enter Tryz.func133, Tryz.ntmps133
      go_wp2_with fail
      refine (refDigits_calls s w hs).mono ?_
      rintro e w' ⟨rfl, rfl⟩
      rw [HD.out]
      go_wp2_with fail
      go_ret2
      rw [HF.out]
      exact ⟨rfl, rfl⟩
    · have hz2 : ¬ (1 < s.data.toList.length ∧ s.data.toList.head? = some 48) := by
        rw [← size_eq, h0]
        rintro ⟨h1, h2⟩
        exact hz ⟨h1, Option.some.inj h2⟩
      have hnot : ¬ (areDigits s.data.toList = false ∨ (1 < s.data.toList.length ∧ s.data.toList.head? = some 48)) := by
        rintro (h | h)
        · rw [hd] at h; cases h
        · exact hz2 h
      have h01 : (1 < s.size ∧ (((s[0]'hne).toNat : Int) == 48) = false) ∨ ¬ 1 < s.size := by
        by_cases h1 : 1 < s.size
        · refine .inl ⟨h1, ?_⟩
          rw [beq_eq_false_iff_ne]
          intro e
          refine hz ⟨h1, ?_⟩
          have : (s[0]'hne).toNat = 48 := by exact_mod_cast e
          rw [show (48 : UInt8) = UInt8.ofNat 48 from rfl, ← this, UInt8.ofNat_toNat]
        · exact .inr h1
      by_cases h6 : 6 < s.size
      · have HF := Lib.hid (numberOf_long hnot (by rw [← size_eq]; exact h6))
        obtain ⟨h1, h2⟩ := h01.resolve_right (by omega)
        clear hd hall h0 hz hz2 hnot
        go_enter Tryz.func133, Tryz.ntmps133
        go_wp2_with fail
        refine (refDigits_calls s w hs).mono ?_
        rintro e w' ⟨rfl, rfl⟩
        rw [HD.out]
        go_wp2_with fail
        go_ret2
        rw [HF.out]
        exact ⟨rfl, rfl⟩
      · have HF := Lib.hid (numberOf_ok hnot (by rw [← size_eq]; exact h6))
        clear hd hall h0 hz hz2 hnot
        rcases h01 with ⟨h1, h2⟩ | h1
        all_goals
          go_enter Tryz.func133, Tryz.ntmps133
          go_wp2_with fail
          refine (refDigits_calls s w hs).mono ?_
          rintro e w' ⟨rfl, rfl⟩
          rw [HD.out]
          go_wp2_with fail
          go_loop [5, 6] (fun n i => ∃ k : Nat, k ≤ s.size ∧ i = .int .i64 k ∧ n = .int .i64 (decVal (s.data.toList.take k) : Nat)) (fun _ i => s.size - (intOf i).toNat)
          case atStart => exact ⟨0, Nat.zero_le _, rfl, rfl⟩
          case' round =>
            obtain ⟨k, hk, rfl, rfl⟩ := hrel
            by_cases hlt : k < s.size
            case' pos =>
              have hc := dig_lt (List.all_eq_true.1 HA.out _ (byte_mem s k hlt))
              have hall : (s.data.toList.take k).all isDig = true := List.all_eq_true.2 fun c hc => List.all_eq_true.1 HA.out c (List.mem_of_mem_take hc)
              have hb := decVal_bound hall (by rw [List.length_take]; omega)
              have HN : Hid (decVal (s.data.toList.take (k + 1)) = 10 * decVal (s.data.toList.take k) + (s[k].toNat - 48)) := Lib.hid (by rw [take_snoc s k hlt, decVal_snoc])
              have hc1 : (s[k].toNat : Int) - 48 ≤ 9 := by omega
              have hc2 : 48 ≤ (s[k].toNat : Int) := by omega
              generalize decVal (s.data.toList.take k) = v at hb HN ⊢
              clear hc hall
              go_wp2_with fail
              go_round
              case rel => exact ⟨k + 1, by omega, by go_num, by rw [HN.out]; go_num⟩
              case measure => simp [intOf]; omega
            case' neg =>
              obtain rfl : k = s.size := by omega
              have HT := Lib.hid (take_size s)
              go_wp2_with fail
              go_ret2
              rw [HF.out, HT.out]
              exact ⟨rfl, rfl⟩
end Go.Proofs.Pw

/- The references' small functions: Cut, SameTexts. Conditions: texts of at most 1000000000 bytes. -/
namespace Go.Proofs.Pw
open Go.RowKit
open Go.Lib hiding intOf

theorem Tryz.infoString : (Tryz.prog.info? 9).map (fun i => (i.zero, i.size, i.bytes)) = some (some (.string ⟨#[]⟩), 1, 16) := by kernel_rfl

/-- texts as values -/
def strVs (l : List ByteArray) : List Value := l.map Value.string
def strTs (l : List ByteArray) : List Str := l.map (·.data.toList)
theorem strTs_length (l) : (strTs l).length = l.length := List.length_map ..
theorem strVs_length (l) : (strVs l).length = l.length := List.length_map ..
theorem strVs_snoc (l : List ByteArray) (x : ByteArray) : strVs l ++ [.string x] = strVs (l ++ [x]) := by simp [strVs]
theorem strTs_snoc (l : List ByteArray) (x : ByteArray) : strTs (l ++ [x]) = strTs l ++ [x.data.toList] := by simp [strTs]
theorem lstF_list (l : List ByteArray) : lstF l.length (fun j => l.getD j ByteArray.empty) = strTs l := by
  apply List.ext_getElem
  · simp [lstF_length, strTs]
  · intro i h1 h2
    simp only [strTs, List.length_map] at h2
    simp [lstF, strTs, List.getD_eq_getElem?_getD, List.getElem?_eq_getElem h2]

/-- a row of the call's own, of texts, as it is read -/
theorem strsAt_own {w : World} {base e : Nat} {v : Value} {l : List ByteArray} (h : w.ownsRow base e 1 v l.length (strVs l)) : StrsAt w v (strTs l) := by
  rcases h.2 with ⟨rfl, h0⟩ | ⟨g, cap, cur, rfl, hb, hg, hn, hm, hs, ht⟩
  · have : l = [] := List.eq_nil_of_length_eq_zero h0
    subst this
    exact StrsAt.nil w
  · refine ⟨_, l.length, cap, fun j => l.getD j ByteArray.empty, rfl, (lstF_list l).symm, hn, by unfold maxLen at hm; exact hm, fun j hj => ⟨g, 0, rfl, ?_⟩⟩
    rw [Nat.zero_add, cell_of_row w g j cur e (0, 0) hg]
    have h1 : (strVs l)[j]? = some (.string (l.getD j ByteArray.empty)) := by
      simp [strVs, List.getD_eq_getElem?_getD, List.getElem?_eq_getElem hj]
    rw [← ht, List.getElem?_take, if_pos (by omega)] at h1
    simpa using h1

/-- a slice whose row was not there -/
def NewRow (w : World) (v : Value) : Prop := ∀ q n c, v = .slice (some q) n c → w.heap.size ≤ q.block
theorem newRow_own {w w' : World} {e k n : Nat} {v : Value} {xs : List Value} (h : w'.ownsRow w.heap.size e k v n xs) : NewRow w v := by
  rintro q m c rfl
  exact (h.lt q.block rfl).1

theorem extract_take_drop (s : ByteArray) (g k : Nat) (_hk : k ≤ s.size) : (s.extract g k).data.toList = (s.data.toList.take k).drop g := by
  rw [extract_data, List.drop_take]

theorem cutAt_step (c : UInt8) (s : ByteArray) (k g : Nat) (hlt : k < s.size) (hg : g ≤ k) :
    cutAt c ((s.data.toList.take k).drop g) (s.data.toList.drop k) = if s[k] = c then (s.extract g k).data.toList :: cutAt c ((s.data.toList.take (k + 1)).drop (k + 1)) (s.data.toList.drop (k + 1)) else cutAt c ((s.data.toList.take (k + 1)).drop g) (s.data.toList.drop (k + 1)) := by
  have e1 : (s.data.toList.take (k + 1)).drop (k + 1) = [] := List.drop_eq_nil_of_le (by rw [List.length_take]; omega)
  have e2 : (s.data.toList.take (k + 1)).drop g = (s.data.toList.take k).drop g ++ [s[k]] := by
    rw [take_snoc s k hlt, List.drop_append_of_le_length (by rw [List.length_take, ← size_eq]; omega)]
  rw [drop_cons s k hlt, cutAt, extract_take_drop s g k (by omega), e1, e2]

set_option maxHeartbeats 400000 in
/-- R.Cut -/
theorem refCut_calls (s : ByteArray) (c : UInt8) (w : World) (hs : s.size ≤ 1000000000) :
    Calls Tryz.prog 131 #[.string s, .int .u8 c.toNat] w fun e w' => (∃ v, e = .returned v ∧ StrsAt w' v (split s.data.toList [c]) ∧ NewRow w v) ∧ Below w.heap.size w w' := by
  obtain ⟨i0, hi, hz0, hz1, hz2⟩ := info_parts Tryz.infoString
  go_enter Tryz.func131, Tryz.ntmps131
  go_wp2_with fail
  go_loopw [5, 6, 7] (fun v f i wr => ∃ (k g : Nat) (P : List ByteArray), k ≤ s.size ∧ g ≤ k ∧ P.length ≤ k ∧ i = .int .i64 k ∧ f = .int .i64 g ∧ wr.ownsRow w.heap.size 9 1 v P.length (strVs P) ∧ Below w.heap.size w wr ∧ Hid (split s.data.toList [c] = strTs P ++ cutAt c ((s.data.toList.take k).drop g) (s.data.toList.drop k))) (fun _ _ i _ => s.size - (intOf i).toNat)
  case atStart => exact ⟨0, 0, [], Nat.zero_le _, Nat.le_refl _, Nat.le_refl _, rfl, rfl, World.ownsRow_nil _ _ _ _, Below.refl _ _, Lib.hid (split_eq c s.data.toList)⟩
  case round =>
    obtain ⟨k, g, P, hk, hg, hP, rfl, rfl, hown, hb, HC⟩ := hrel
    by_cases hlt : k < s.size
    · have hst := cutAt_step c s k g hlt hg
      by_cases hc : s[k] = c
      · rw [if_pos hc] at hst
        have hq : ((s[k].toNat : Int) == (c.toNat : Int)) = true := by rw [hc]; simp
        have HN : Hid (split s.data.toList [c] = strTs (P ++ [s.extract g k]) ++ cutAt c ((s.data.toList.take (k + 1)).drop (k + 1)) (s.data.toList.drop (k + 1))) := Lib.hid (by rw [HC.out, hst, strTs_snoc]; simp)
        have hc2 : (s[k].toNat : Int) = c.toNat := by rw [hc]
        clear hst hc
        go_wp2_with (at_builtin; refine wpList_append_own _ rfl _ _ 41 rfl w.heap.size 9 i0 (.string ⟨#[]⟩) 1 16 Tryz.underlying41 hi hz0 hz1 hz2 rfl (by decide) _ _ _ rfl (hown.alloc _) ⟨wr.heap.size, 0, none⟩ 1 1 [.string (s.extract g k)] rfl rfl (cell_one_new _ _ _) (fun x hx => by simp at hx; subst hx; rfl) (by unfold maxLen; omega) (by omega) (by have := hb.size; simp; omega) ?_; intro v' w1 hown1 hgrow1 _)
        go_roundw
        case rel =>
          refine ⟨k + 1, k + 1, P ++ [s.extract g k], by omega, Nat.le_refl _, by simp; omega, by go_num, by go_num, ?_, ?_, HN⟩
          · rw [← strVs_snoc, List.length_append]; exact hown1
          · exact (hb.alloc hb.size _).grown hgrow1 (by have := hb.size; simp; omega) (fun q hq => (hown.lt q hq).1)
        case measure => simp [intOf]; omega
      · rw [if_neg hc] at hst
        have hq : ((s[k].toNat : Int) == (c.toNat : Int)) = false := beq_eq_false_iff_ne.2 (fun e => hc (UInt8.toNat_inj.1 (by exact_mod_cast e)))
        have HN := Lib.hid (HC.out.trans (congrArg (strTs P ++ ·) hst))
        clear hst hc
        go_wp2_with fail
        go_roundw
        case rel => exact ⟨k + 1, g, P, by omega, by omega, by omega, by go_num, rfl, hown, hb, HN⟩
        case measure => simp [intOf]; omega
    · obtain rfl : k = s.size := by omega
      have HN : Hid (split s.data.toList [c] = strTs (P ++ [s.extract g s.size])) := Lib.hid (by
        rw [HC.out, drop_size, cutAt, strTs_snoc, take_size, extract_to_end])
      go_wp2_with (at_builtin; refine wpList_append_own _ rfl _ _ 41 rfl w.heap.size 9 i0 (.string ⟨#[]⟩) 1 16 Tryz.underlying41 hi hz0 hz1 hz2 rfl (by decide) _ _ _ rfl (hown.alloc _) ⟨wr.heap.size, 0, none⟩ 1 1 [.string (s.extract g s.size)] rfl rfl (cell_one_new _ _ _) (fun x hx => by simp at hx; subst hx; rfl) (by unfold maxLen; omega) (by omega) (by have := hb.size; simp; omega) ?_; intro v' w1 hown1 hgrow1 _)
      go_ret
      rw [HN.out]
      refine ⟨⟨v', rfl, strsAt_own (base := w.heap.size) (e := 9) ?_, newRow_own hown1⟩, (hb.alloc hb.size _).grown hgrow1 (by have := hb.size; simp; omega) (fun q hq => (hown.lt q hq).1)⟩
      rw [← strVs_snoc, List.length_append]; exact hown1

theorem lstF_ext {n : Nat} {L M : Nat → ByteArray} : lstF n L = lstF n M ↔ ∀ j, j < n → (L j).data.toList = (M j).data.toList := by
  simp [lstF]
theorem bytes_ext {a b : ByteArray} : a.data.toList = b.data.toList ↔ a = b := ⟨fun h => by
  apply ByteArray.ext; apply Array.ext'; exact h, fun h => by rw [h]⟩

end Go.Proofs.Pw

/- The references' small functions: Byte, below, Decimal. -/
namespace Go.Proofs.Pw
open Go.RowKit
open Go.Lib hiding intOf
open Go.Sort (grow grow_grow grow_empty)

/-- some draws on, some blocks laid -/
def GrownW (w w' : World) : Prop := ∃ q os, w' = grow (w.drewN q) os
theorem GrownW.below {w w' : World} (h : GrownW w w') : Below w.heap.size w w' := by
  obtain ⟨q, os, rfl⟩ := h
  exact below_grow _ _ (Nat.le_refl _) _ _
theorem GrownW.trans {a b c : World} (h : GrownW a b) (k : GrownW b c) : GrownW a c := by
  obtain ⟨q, os, rfl⟩ := h
  obtain ⟨q', os', rfl⟩ := k
  refine ⟨q + q', os ++ os', ?_⟩
  show grow (grow ((a.drewN q).drewN q') os) os' = _
  rw [grow_grow, World.drewN_drewN]
theorem grownW_alloc (w : World) (o : Obj) : GrownW w (w.alloc o) := ⟨0, #[o], Go.Sort.alloc_eq_grow w o⟩
theorem GrownW.refl (w : World) : GrownW w w := ⟨0, #[], (grow_empty _).symm⟩


theorem decDigits_small {m : Nat} (h : m < 10) : decDigits m = [UInt8.ofNat (48 + m)] := by rw [decDigits, dif_pos h]
theorem decDigits_large {m : Nat} (h : ¬ m < 10) : decDigits m = decDigits (m / 10) ++ [UInt8.ofNat (48 + m % 10)] := by rw [decDigits, dif_neg h]
theorem byte_of_digit {d : Nat} (h : d < 10) {x : Int} (hx : x = 48 + d) : ((UInt8.ofNat (48 + d)).toNat : Int) = x := by
  rw [(isDig_ofNat h).2, hx]; omega

theorem decDigits_len_le (u : Nat) : (decDigits u).length ≤ u + 1 := by
  induction u using Nat.strongRecOn with
  | _ u ih =>
    rw [decDigits]
    split
    · simp
    · rename_i h
      have := ih (u / 10) (by omega)
      simp only [List.length_append, List.length_singleton]
      omega


end Go.Proofs.Pw

/- R.VerOf: its walk. Conditions: a text of at most 1000000000 bytes. -/
namespace Go.Proofs.Pw
open Go.RowKit
open Go.Lib hiding intOf

theorem worseN_one_left (b : Nat) : worseN 1 b = 1 := by unfold worseN; rw [if_pos (.inl rfl)]
theorem worseN_one_right (a : Nat) : worseN a 1 = 1 := by unfold worseN; split <;> omega
theorem numErrs_one : ∀ (l : List Str) (b : Nat), (b = 1 ∨ ∃ w ∈ l, (numberOf w).2 = 1) → numErrs l b = 1
  | [], b, h => by
    rcases h with h | ⟨w, hw, _⟩
    · exact h
    · cases hw
  | w :: r, b, h => by
    show numErrs r (worseN b (numberOf w).2) = 1
    apply numErrs_one r
    rcases h with rfl | ⟨x, hx, h1⟩
    · exact .inl (worseN_one_left _)
    · rcases List.mem_cons.1 hx with rfl | hx
      · rw [h1]; exact .inl (worseN_one_right _)
      · exact .inr ⟨x, hx, h1⟩
theorem partErrs_one : ∀ (l : List Str) (b : Nat), (b = 1 ∨ ∃ w ∈ l, partErr w = 1) → partErrs l b = 1
  | [], b, h => by
    rcases h with h | ⟨w, hw, _⟩
    · exact h
    · cases hw
  | w :: r, b, h => by
    show partErrs r (worseN b (partErr w)) = 1
    apply partErrs_one r
    rcases h with rfl | ⟨x, hx, h1⟩
    · exact .inl (worseN_one_left _)
    · rcases List.mem_cons.1 hx with rfl | hx
      · rw [h1]; exact .inl (worseN_one_right _)
      · exact .inr ⟨x, hx, h1⟩
theorem verErr_is {s : Str} (h1 : hasPrefix s [118] = true) (h2 : (verWords s).length = 3) : verErr s = verErrs s := by
  unfold verErr; rw [if_neg]; rw [h1, h2]; simp
theorem verErrs_one {s : Str} (h : partErrs (verPres s) (numErrs (verWords s) 0) = 1) : verErrs s = 1 := by
  unfold verErrs
  simp only
  rw [h]
  split
  · exact worseN_one_left _
  · rfl
theorem verErrs_num {s w : Str} (h : w ∈ verWords s) (h1 : (numberOf w).2 = 1) : verErrs s = 1 :=
  verErrs_one (partErrs_one _ _ (.inl (numErrs_one _ _ (.inr ⟨w, h, h1⟩))))
theorem verErrs_part {s w : Str} (h : w ∈ verPres s) (h1 : partErr w = 1) : verErrs s = 1 :=
  verErrs_one (partErrs_one _ _ (.inr ⟨w, h, h1⟩))
/-- the bound seen so far, as an error's number -/
def bndN (b : Bool) : Nat := if b then 2 else 0
theorem bndN_step (b : Bool) {e : Nat} (h1 : e ≠ 1) (h2 : e ≤ 2) : worseN (bndN b) e = bndN (b || decide (0 < e)) := by
  obtain rfl | rfl : e = 0 ∨ e = 2 := by omega
  all_goals cases b <;> rfl
theorem verErrs_bnd {s : Str} {b : Bool} (h : partErrs (verPres s) (numErrs (verWords s) 0) = bndN b) : verErrs s = if b = true ∨ 5 < (verPres s).length then 2 else 0 := by
  unfold verErrs
  simp only
  rw [h]
  by_cases h5 : 5 < (verPres s).length
  · rw [if_pos h5, if_pos (.inr h5)]
    cases b <;> rfl
  · rw [if_neg h5]
    cases b
    · rw [if_neg (by simp [h5])]; rfl
    · rw [if_pos (.inl rfl)]; rfl

structure NBox (w : World) (b : Nat) (L : Nat → ByteArray) (k : Nat) (v3 : Value) : Prop where
  c : ∀ j, j < 3 → w.cell? ⟨b, j, none⟩ = some (.int .i64 (numAt L k j))
  c3 : w.cell? ⟨b, 3, none⟩ = some v3
  fr : ∀ j, w.frozen? ⟨b, j, none⟩ = false
theorem NBox.below {w w' : World} {b : Nat} {L : Nat → ByteArray} {k : Nat} {v3 : Value} (h : NBox w b L k v3) (hb : Below w.heap.size w w') : NBox w' b L k v3 :=
  ⟨fun j hj => Below.cell_some hb (h.c j hj), Below.cell_some hb h.c3, fun j => (hb.frozen (p := ⟨b, j, none⟩) (show b < w.heap.size from lt_of_cell h.c3)).trans (h.fr j)⟩
theorem nbox_alloc (w : World) (t : TypeId) (L : Nat → ByteArray) : NBox (w.alloc (.cells #[.int .i64 0, .int .i64 0, .int .i64 0, .slice none 0 0] t)) w.heap.size L 0 (.slice none 0 0) :=
  ⟨fun j hj => by rw [numAt_zero]; obtain rfl | rfl | rfl : j = 0 ∨ j = 1 ∨ j = 2 := by omega
                  all_goals simp, by simp, fun j => by simp⟩
theorem NBox.step {w : World} {b : Nat} {L : Nat → ByteArray} {k : Nat} {v3 : Value} (h : NBox w b L k v3) (hk : k < 3) : NBox (w.setCell ⟨b, k, none⟩ (.int .i64 ((numberOf (L k).data.toList).1 : Nat))) b L (k + 1) v3 := by
  refine ⟨fun j hj => ?_, ?_, fun j => by simp [h.fr]⟩
  · by_cases e : j = k
    · subst e
      rw [numAt_new]
      exact World.cell?_setCell_same _ _ _ (h.c j hj)
    · rw [numAt_old _ _ _ e, World.cell?_setCell_other _ _ _ _ (fun h2 => e (by injection h2 with _ h3 _; exact h3.symm))]
      exact h.c j hj
  · rw [World.cell?_setCell_other _ _ _ _ (fun h2 => by injection h2 with _ h3 _; omega)]
    exact h.c3
theorem NBox.set3 {w : World} {b : Nat} {L : Nat → ByteArray} {k : Nat} {v3 : Value} (h : NBox w b L k v3) (v : Value) : NBox (w.setCell ⟨b, 3, none⟩ v) b L k v := by
  refine ⟨fun j hj => ?_, World.cell?_setCell_same _ _ _ h.c3, fun j => by simp [h.fr]⟩
  rw [World.cell?_setCell_other _ _ _ _ (by intro e; injection e with _ e2 _; omega)]
  exact h.c j hj

theorem hasPrefix_byte (s : ByteArray) (h : 0 < s.size) : hasPrefix s.data.toList [118] = decide (s[0] = 118) := by
  have e : s.data.toList = s[0] :: s.data.toList.drop 1 := by
    have := drop_cons s 0 h
    simpa using this
  rw [e]
  unfold hasPrefix
  rw [Bool.eq_iff_iff]
  simp only [List.isPrefixOf, Bool.and_true, decide_eq_true_eq, beq_iff_eq]
  exact eq_comm
theorem trimPrefix_byte (s : ByteArray) (h : hasPrefix s.data.toList [118] = true) : trimPrefix s.data.toList [118] = s.data.toList.drop 1 := by
  unfold trimPrefix; rw [if_pos h]; rfl

set_option maxRecDepth 100000 in
set_option maxHeartbeats 400000 in
/-- R.VerOf at what does not begin with v -/
theorem refVerOf_none (s : ByteArray) (w : World) (hs : s.size ≤ 1000000000) (hp : hasPrefix s.data.toList [118] = false) :
    Calls Tryz.prog 89 #[.string s] w fun e w' => e = .returned (.tuple #[.agg #[.int .i64 0, .int .i64 0, .int .i64 0, .slice none 0 0], .int .i64 1]) ∧ Below w.heap.size w w' := by
  have hbA := below_alloc w (.cells #[.int .i64 0, .int .i64 0, .int .i64 0, .slice none 0 0] 108)
  obtain ⟨z0, z1, z2, z3, zf⟩ := box4_alloc w (.int .i64 0) (.int .i64 0) (.int .i64 0) (.slice none 0 0) 108
  have zf0 := zf 0
  have zf1 := zf 1
  have zf2 := zf 2
  have zf3 := zf 3
  clear zf
  by_cases h0 : s.size = 0
  · have h0' : ((s.size : Nat) : Int) = 0 := by omega
    clear hp
    go_enter Tryz.func89, Tryz.ntmps89
    go_wp2_with fail
    refine bodyPost_ret (v := .tuple #[.agg #[.int .i64 0, .int .i64 0, .int .i64 0, .slice none 0 0], .int .i64 1]) (by simp [results, Tryz.results89, go_sem, *]) rfl ⟨rfl, ?_⟩
    exact below_alloc _ _
  · have hlt : 0 < s.size := by omega
    rw [hasPrefix_byte s hlt] at hp
    have hp1 : ((s[0].toNat : Int) == 118) = false := beq_eq_false_iff_ne.2 (fun e => by
      have : s[0] = 118 := UInt8.toNat_inj.1 (by have : s[0].toNat = 118 := by exact_mod_cast e
                                                 rw [this]; rfl)
      simp [this] at hp)
    have h00 : ((s.size : Int) == 0) = false := beq_eq_false_iff_ne.2 (by omega)
    clear hp h0
    go_enter Tryz.func89, Tryz.ntmps89
    go_wp2_with fail
    refine bodyPost_ret (v := .tuple #[.agg #[.int .i64 0, .int .i64 0, .int .i64 0, .slice none 0 0], .int .i64 1]) (by simp [results, Tryz.results89, go_sem, *]) rfl ⟨rfl, ?_⟩
    exact below_alloc _ _
end Go.Proofs.Pw

/- R.VerOf: the way behind v. -/
namespace Go.Proofs.Pw
open Go.RowKit
open Go.Lib hiding intOf

theorem partErr_bad {s : ByteArray} {k : Nat} (h : k < s.size) (hb : isPartByte s[k] = false) : partErr s.data.toList = 1 := by
  apply partErr_text
  refine .inr (.inr ?_)
  rw [Bool.eq_false_iff]
  intro e
  have := List.all_eq_true.1 e _ (byte_mem s k h)
  rw [hb] at this
  cases this
theorem partErr_good {s : ByteArray} (h1 : 1 ≤ s.size) (h8 : s.size ≤ 8) (ha : (s.data.toList.take s.size).all isPartByte = true) : partErr s.data.toList = if areDigits s.data.toList then (numberOf s.data.toList).2 else 0 := by
  rw [take_size] at ha
  unfold partErr
  rw [if_neg]
  rintro (h | h | h)
  · rw [size_eq, h] at h1; simp at h1
  · rw [← size_eq] at h; omega
  · rw [ha] at h; cases h
theorem partErr_size {s : ByteArray} (h : s.size < 1 ∨ 8 < s.size) : partErr s.data.toList = 1 := by
  apply partErr_text
  rcases h with h | h
  · refine .inl (List.length_eq_zero_iff.1 (by rw [← size_eq]; omega))
  · exact .inr (.inl (by rw [← size_eq]; exact h))
theorem isPartByte_iff (c : UInt8) : isPartByte c = true ↔ (97 ≤ (c.toNat : Int) ∧ (c.toNat : Int) ≤ 122) ∨ (65 ≤ (c.toNat : Int) ∧ (c.toNat : Int) ≤ 90) ∨ (48 ≤ (c.toNat : Int) ∧ (c.toNat : Int) ≤ 57) ∨ (c.toNat : Int) = 45 := by
  unfold isPartByte isDig isLetter
  have e : (c == 45) = decide (c.toNat = 45) := by
    rw [Bool.eq_iff_iff, beq_iff_eq, decide_eq_true_eq]
    constructor
    · rintro rfl; rfl
    · intro h; exact UInt8.toNat_inj.1 (by rw [h]; rfl)
  rw [e]
  simp only [Bool.or_eq_true, decide_eq_true_eq]
  omega

/-- texts in a row that lies above a block -/
def CellsOver (w : World) (B : Nat) (a : Option Addr) (n : Nat) (P : Nat → ByteArray) : Prop := ∀ j, j < n → ∃ b o, a = some ⟨b, o, none⟩ ∧ B < b ∧ w.cell? ⟨b, o + j, none⟩ = some (.string (P j))
theorem CellsOver.set {w : World} {B B' n : Nat} {a : Option Addr} {P : Nat → ByteArray} (h : CellsOver w B a n P) (hB : B' ≤ B) (i : Nat) (u : Value) : CellsOver (w.setCell ⟨B', i, none⟩ u) B a n P := by
  intro j hj
  obtain ⟨b, o, rfl, h1, h2⟩ := h j hj
  refine ⟨b, o, rfl, h1, ?_⟩
  rw [World.cell?_setCell_other _ _ _ _ (by intro e; injection e with e1 _ _; omega)]
  exact h2
theorem CellsOver.strs {w : World} {B n cap : Nat} {a : Option Addr} {P : Nat → ByteArray} (h : CellsOver w B a n P) (hn : n ≤ cap) (hc : cap ≤ 9223372036854775807) : StrsAt w (.slice a n cap) (lstF n P) :=
  ⟨a, n, cap, P, rfl, rfl, hn, hc, fun j hj => let ⟨b, o, e, _, h2⟩ := h j hj; ⟨b, o, e, h2⟩⟩
theorem cutAt_len (c : UInt8) : ∀ (l acc : Str), (cutAt c acc l).length ≤ l.length + 1
  | [], acc => by simp [cutAt]
  | b :: l, acc => by
    rw [cutAt]
    split
    · have := cutAt_len c l []
      simp only [List.length_cons]; omega
    · have := cutAt_len c l (acc ++ [b])
      simp only [List.length_cons]; omega
theorem split_len (c : UInt8) (s : Str) : (split s [c]).length ≤ s.length + 1 := by rw [split_eq]; exact cutAt_len c s []
theorem extract_size_le (s : ByteArray) (a b : Nat) : (s.extract a b).size ≤ s.size := by rw [ByteArray.size_extract]; omega
theorem refCut_dot (s : ByteArray) (w : World) (hs : s.size ≤ 1000000000) :
    Calls Tryz.prog 131 #[.string s, .int .u8 46] w fun e w' => (∃ v, e = .returned v ∧ StrsAt w' v (split s.data.toList [46]) ∧ NewRow w v) ∧ Below w.heap.size w w' := refCut_calls s 46 w hs
theorem byte_ne_int {b c : UInt8} {n : Int} (hn : n = c.toNat) (h : b ≠ c) : ((b.toNat : Int) == n) = false :=
  beq_eq_false_iff_ne.2 fun e => h (UInt8.toNat_inj.1 (by rw [hn] at e; exact_mod_cast e))
theorem byte_classes (c : Int) :
    ((97 ≤ c ∧ c ≤ 122 ∧ 65 ≤ c ∧ ¬ c ≤ 90 ∧ 48 ≤ c ∧ ¬ c ≤ 57) ∨ (¬ 97 ≤ c ∧ c ≤ 122 ∧ 65 ≤ c ∧ c ≤ 90 ∧ 48 ≤ c ∧ ¬ c ≤ 57) ∨ (¬ 97 ≤ c ∧ c ≤ 122 ∧ ¬ 65 ≤ c ∧ c ≤ 90 ∧ 48 ≤ c ∧ c ≤ 57) ∨ c = 45) ∨
    ((c == 45) = false ∧ ¬ ((97 ≤ c ∧ c ≤ 122) ∨ (65 ≤ c ∧ c ≤ 90) ∨ (48 ≤ c ∧ c ≤ 57)) ∧
      ((¬ 97 ≤ c ∧ c ≤ 122 ∧ ¬ 65 ≤ c ∧ c ≤ 90 ∧ ¬ 48 ≤ c ∧ c ≤ 57) ∨ (¬ 97 ≤ c ∧ c ≤ 122 ∧ ¬ 65 ≤ c ∧ c ≤ 90 ∧ 48 ≤ c ∧ ¬ c ≤ 57) ∨ (¬ 97 ≤ c ∧ c ≤ 122 ∧ 65 ≤ c ∧ ¬ c ≤ 90 ∧ 48 ≤ c ∧ ¬ c ≤ 57) ∨ (97 ≤ c ∧ ¬ c ≤ 122 ∧ 65 ≤ c ∧ ¬ c ≤ 90 ∧ 48 ≤ c ∧ ¬ c ≤ 57))) := by
  have e : (c == 45) = false ↔ c ≠ 45 := by rw [beq_eq_false_iff_ne]
  rw [e]
  omega

theorem drop1_cut (s : ByteArray) (k : Nat) (hk : k < s.size) (h1 : 1 ≤ k) (h45 : s[k] = 45) (hno : (45 : UInt8) ∉ (s.data.toList.take k).drop 1) :
    cut (s.data.toList.drop 1) [45] = ((s.extract 1 k).data.toList, (s.extract (k + 1) s.size).data.toList, true) := by
  have e : s.data.toList.drop 1 = (s.data.toList.take k).drop 1 ++ 45 :: s.data.toList.drop (k + 1) := by
    conv => lhs; rw [← List.take_append_drop k s.data.toList]
    rw [List.drop_append_of_le_length (by rw [List.length_take, ← size_eq]; omega), drop_cons s k hk, h45]
  rw [e, cut_at hno, extract_take_drop s 1 k (by omega), extract_to_end]
theorem drop1_none (s : ByteArray) (hno : (45 : UInt8) ∉ (s.data.toList.take s.size).drop 1) :
    cut (s.data.toList.drop 1) [45] = ((s.extract 1 s.size).data.toList, (⟨#[]⟩ : ByteArray).data.toList, false) := by
  rw [take_size] at hno
  rw [cut_no hno, extract_to_end]
theorem take_drop1_snoc (s : ByteArray) (k : Nat) (h : k < s.size) (c : UInt8) (h0 : k = 0 ∨ s[k] ≠ c) (hno : c ∉ (s.data.toList.take k).drop 1) : c ∉ (s.data.toList.take (k + 1)).drop 1 := by
  rw [take_snoc s k h]
  rcases Nat.eq_zero_or_pos k with rfl | hk
  · simp
  · rw [List.drop_append_of_le_length (by rw [List.length_take, ← size_eq]; omega)]
    simp only [List.mem_append, List.mem_singleton, not_or]
    exact ⟨hno, fun e => (h0.resolve_left (by omega)) e.symm⟩

set_option maxHeartbeats 2000000 in
set_option maxRecDepth 100000 in
theorem refVerOf_v (s : ByteArray) (w : World) (hs : s.size ≤ 1000000000) (hp : hasPrefix s.data.toList [118] = true) :
    Calls Tryz.prog 89 #[.string s] w fun e w' => (∃ v, e = .returned (.tuple #[.agg #[.int .i64 (verNum s.data.toList 0 : Nat), .int .i64 (verNum s.data.toList 1 : Nat), .int .i64 (verNum s.data.toList 2 : Nat), v], .int .i64 (verErr s.data.toList : Nat)]) ∧ StrsAt w' v (verPre s.data.toList)) ∧ Below w.heap.size w w' := by
  have hbA := below_alloc w (.cells #[.int .i64 0, .int .i64 0, .int .i64 0, .slice none 0 0] 108)
  have hzA := box4_alloc w (.int .i64 0) (.int .i64 0) (.int .i64 0) (.slice none 0 0) 108
  have h1 : 1 ≤ s.size := by
    rcases Nat.eq_zero_or_pos s.size with h | h
    · have : s.data.toList = [] := List.length_eq_zero_iff.1 (by rw [← size_eq]; exact h)
      rw [this] at hp; cases hp
    · exact h
  have h118 : (s[0].toNat : Int) = 118 := by
    rw [hasPrefix_byte s h1] at hp
    have : s[0] = 118 := of_decide_eq_true hp
    rw [this]; rfl
  have ht := trimPrefix_byte s hp
  have HP := Lib.hid hp
  have HT := Lib.hid ht
  have HW : Hid (verWords s.data.toList = split (cut (s.data.toList.drop 1) [45]).1 [46]) := Lib.hid (by unfold verWords; rw [ht])
  have HR : Hid (verPres s.data.toList = if (cut (s.data.toList.drop 1) [45]).2.2 then split (cut (s.data.toList.drop 1) [45]).2.1 [46] else []) := Lib.hid (by unfold verPres; rw [ht])
  clear hp ht
  have h00 : ((s.size : Int) == 0) = false := beq_eq_false_iff_ne.2 (by omega)
  go_enter Tryz.func89, Tryz.ntmps89
  go_upto_block 0 with fail
  generalize hwA : w.alloc (.cells #[.int .i64 0, .int .i64 0, .int .i64 0, .slice none 0 0] 108) = wA at hbA hzA ⊢
  clear hwA
  go_cut [4, 5, 6, 7] from 33 to 53 (fun h p b _ wx => ∃ (H R : ByteArray) (B : Bool), h = .string H ∧ p = .string R ∧ b = .bool B ∧ wx = wA ∧ H.size ≤ s.size ∧ R.size ≤ s.size ∧ Hid (cut (s.data.toList.drop 1) [45] = (H.data.toList, R.data.toList, B)))
  case first =>
    go_wp2_with fail
    go_loop [4, 5, 6, 7] (fun h p b i => ∃ (k : Nat) (H R : ByteArray) (B : Bool), k ≤ s.size ∧ i = .int .i64 k ∧ h = .string H ∧ p = .string R ∧ b = .bool B ∧ H.size ≤ s.size ∧ R.size ≤ s.size ∧
        Hid (if B = true then cut (s.data.toList.drop 1) [45] = (H.data.toList, R.data.toList, true) else (H = s.extract 1 s.size ∧ R = ⟨#[]⟩ ∧ (45 : UInt8) ∉ (s.data.toList.take k).drop 1))) (fun _ _ _ i => s.size - (intOf i).toNat)
    case atStart => exact ⟨0, s.extract 1 s.size, ⟨#[]⟩, false, Nat.zero_le _, rfl, rfl, rfl, rfl, extract_size_le s _ _, Nat.zero_le _, Lib.hid ⟨rfl, rfl, by simp⟩⟩
    case round =>
      obtain ⟨k, H, R, B, hk, rfl, rfl, rfl, rfl, hH, hR, HC⟩ := hrel
      cases B with
      | true =>
        have HC2 : Hid (cut (s.data.toList.drop 1) [45] = (H.data.toList, R.data.toList, true)) := HC
        clear HC
        by_cases hlt : k < s.size
        all_goals
          go_wp2_with fail
          go_meet
          exact ⟨H, R, true, rfl, rfl, rfl, rfl, hH, hR, HC2⟩
      | false =>
        obtain ⟨rfl, rfl, hno⟩ : H = s.extract 1 s.size ∧ R = ⟨#[]⟩ ∧ (45 : UInt8) ∉ (s.data.toList.take k).drop 1 := HC.out
        have HN := Lib.hid hno
        clear HC hno
        by_cases hlt : k < s.size
        · by_cases h45 : s[k] = 45
          · have hk1 : 1 ≤ k := by
              rcases Nat.eq_zero_or_pos k with rfl | h
              · rw [h45] at h118; exact absurd h118 (by decide)
              · exact h
            have h45' : (s[k].toNat : Int) = 45 := by rw [h45]; rfl
            have HX := Lib.hid (drop1_cut s k hlt hk1 h45 HN.out)
            clear h45
            go_wp2_with fail
            go_round
            case rel => exact ⟨k + 1, s.extract 1 k, s.extract (k + 1) s.size, true, by omega, by go_num, rfl, rfl, rfl, extract_size_le s _ _, extract_size_le s _ _, HX⟩
            case measure => simp [intOf]; omega
          · have h45' : ((s[k].toNat : Int) == 45) = false := byte_ne_int (c := 45) rfl h45
            have HX := Lib.hid (take_drop1_snoc s k hlt 45 (.inr h45) HN.out)
            clear h45
            go_wp2_with fail
            go_round
            case rel => exact ⟨k + 1, _, _, false, by omega, by go_num, rfl, rfl, rfl, hH, hR, Lib.hid ⟨rfl, rfl, HX.out⟩⟩
            case measure => simp [intOf]; omega
        · obtain rfl : k = s.size := by omega
          have HX := Lib.hid (drop1_none s HN.out)
          go_wp2_with fail
          go_meet
          exact ⟨_, _, false, rfl, rfl, rfl, rfl, hH, hR, HX⟩
  case rest =>
    obtain ⟨H, R, B, rfl, rfl, rfl, rfl, hH, hR, HC⟩ := hcut
    have HW2 : Hid (verWords s.data.toList = split H.data.toList [46]) := Lib.hid (by rw [HW.out, HC.out])
    have HR2 : Hid (verPres s.data.toList = if B = true then split R.data.toList [46] else []) := Lib.hid (by rw [HR.out, HC.out])
    have hH9 := Nat.le_trans hH hs
    have hR9 := Nat.le_trans hR hs
    clear HW HR HC hH hR
    go_wp2_with fail
    refine (refCut_dot H wc hH9).mono ?_
    rintro e w1 ⟨⟨v, rfl, hS, hNew⟩, hb1⟩
    obtain ⟨a, n, cap, L, rfl, hl, hn, hcap, hc⟩ := hS
    have hz1 := hzA.below hb1
    have hb01 := below_step hbA hb1
    have hnl : (verWords s.data.toList).length = n := by rw [HW2.out, hl, lstF_length]
    have hLs := lstF_mem_le (by decide) hl.symm
    have hH9' : H.data.toList.length ≤ 1000000000 := by rw [← size_eq]; exact hH9
    have HL : Hid (lstF n L = verWords s.data.toList) := Lib.hid (by rw [HW2.out, hl])
    have HC := Lib.hid hc
    have hLs9 : ∀ j, j < n → (L j).size ≤ 4000000000 := fun j hj => Nat.le_trans (hLs j hj) (by omega)
    have HN := Lib.hid hnl
    obtain ⟨z0, z1, z2, z3, zf⟩ := id hz1
    have zf0 := zf 0
    have zf1 := zf 1
    have zf2 := zf 2
    have zf3 := zf 3
    clear zf HW2 hl hc hLs hH9' hnl hH9 hNew hzA
    by_cases h3 : n = 3
    case neg =>
      have HF : Hid (verErr s.data.toList = 1) := Lib.hid (by unfold verErr; rw [if_pos (.inr (by rw [HN.out]; exact h3))])
      have h3' : ((n : Int) == 3) = false := beq_eq_false_iff_ne.2 (by omega)
      clear h3
      go_wp2_with fail
      refine bodyPost_ret (v := .tuple #[.agg #[.int .i64 0, .int .i64 0, .int .i64 0, .slice none 0 0], .int .i64 1]) (by simp [results, Tryz.results89, go_sem, *]) rfl ?_
      have hne : verErr s.data.toList ≠ 0 := by rw [HF.out]; decide
      rw [verNum_bad hne, verNum_bad hne, verNum_bad hne, verPre_bad hne, HF.out]
      exact ⟨⟨_, rfl, StrsAt.nil _⟩, (((hb01.setCell (Nat.le_refl _) _).setCell (Nat.le_refl _) _).setCell (Nat.le_refl _) _).setCell (Nat.le_refl _) _⟩
    case pos =>
      subst h3
      clear z0 z1 z2 z3 zf0 zf1 zf2 zf3
      have hVE : Hid (verErr s.data.toList = verErrs s.data.toList) := Lib.hid (verErr_is HP.out HN.out)
      go_upto_block 2 with fail
      have hbB := below_alloc w1 (.cells #[.int .i64 0, .int .i64 0, .int .i64 0, .slice none 0 0] 108)
      have hNB := nbox_alloc w1 108 L
      have hBs : w1.heap.size < (w1.alloc (.cells #[.int .i64 0, .int .i64 0, .int .i64 0, .slice none 0 0] 108)).heap.size := by simp
      have hwz : w.heap.size < w1.heap.size := lt_of_cell hz1.c0
      go_cut [10, 11, 12, 13] from 61 to 84 (fun b _ _ _ wx => ∃ B' : Bool, b = .bool B' ∧ Below w1.heap.size w1 wx ∧ NBox wx w1.heap.size L 3 (.slice none 0 0) ∧ Hid (numErrs (verWords s.data.toList) 0 = bndN B'))
      case first =>
        go_wp2_with fail
        go_loopw [10, 11, 12, 13] (fun b i _ _ wr => ∃ (k : Nat) (B' : Bool), k ≤ 3 ∧ i = .int .i64 k ∧ b = .bool B' ∧ Below w1.heap.size w1 wr ∧ NBox wr w1.heap.size L k (.slice none 0 0) ∧ Hid (numErrs ((lstF 3 L).take k) 0 = bndN B')) (fun _ i _ _ _ => 3 - (intOf i).toNat)
        case atStart => exact ⟨0, false, by omega, rfl, rfl, hbB, hNB, Lib.hid rfl⟩
        case round =>
          obtain ⟨k, B', hk, rfl, rfl, hbr, hN⟩ := hrel
          obtain ⟨hN, HB⟩ := hN
          by_cases hlt : k < 3
          · obtain ⟨b1, o1, rfl, hck⟩ := HC.out k hlt
            replace hck := Below.cell_some hbr hck
            have hzr := hz1.below hbr
            obtain ⟨z0, z1, z2, z3, zf⟩ := id hzr
            have zf0 := zf 0
            have zf1 := zf 1
            have zf2 := zf 2
            have zf3 := zf 3
            have hn1 := hN.c k hlt
            have hn2 := hN.fr k
            have hcall := refNumber_calls (L k) wr (hLs9 k hlt)
            have hle := (numberOf_le (L k).data.toList).2
            have hmem : (L k).data.toList ∈ verWords s.data.toList := by rw [← HL.out]; exact List.mem_of_getElem? (lstF_get 3 L k hlt)
            have hsn := numErrs_snoc ((lstF 3 L).take k) (L k).data.toList 0
            rw [← lstF_take_succ 3 L k hlt] at hsn
            have hstp := hN.step hlt
            by_cases he1 : (numberOf (L k).data.toList).2 = 1
            · have HF : Hid (verErr s.data.toList = 1) := Lib.hid (by rw [hVE.out]; exact verErrs_num hmem he1)
              rw [he1] at hcall
              generalize (numberOf (L k).data.toList).1 = nk at hcall
              clear hsn hle he1 zf hmem hstp hn1 hn2 hzr
              go_wp2_with fail
              refine hcall.mono ?_
              rintro e w5 ⟨rfl, hw5⟩
              subst hw5
              clear hcall
              go_wp2_with fail
              refine bodyPost_ret (v := .tuple #[.agg #[.int .i64 0, .int .i64 0, .int .i64 0, .slice none 0 0], .int .i64 1]) (by simp [results, Tryz.results89, go_sem, *]) rfl ?_
              have hne : verErr s.data.toList ≠ 0 := by rw [HF.out]; decide
              rw [verNum_bad hne, verNum_bad hne, verNum_bad hne, verPre_bad hne, HF.out]
              exact ⟨⟨_, rfl, StrsAt.nil _⟩, ((((below_step hb01 hbr).setCell (Nat.le_refl _) _).setCell (Nat.le_refl _) _).setCell (Nat.le_refl _) _).setCell (Nat.le_refl _) _⟩
            · have HS : Hid (numErrs ((lstF 3 L).take (k + 1)) 0 = bndN (B' || decide (0 < (numberOf (L k).data.toList).2))) := Lib.hid (by rw [hsn, HB.out, bndN_step B' he1 hle])
              have he1' : (((numberOf (L k).data.toList).2 : Int) == 1) = false := beq_eq_false_iff_ne.2 (by omega)
              have hbst : Below w1.heap.size w1 (wr.setCell ⟨w1.heap.size, k, none⟩ (.int .i64 ((numberOf (L k).data.toList).1 : Nat))) := hbr.setCell (Nat.le_refl _) _
              generalize (numberOf (L k).data.toList).2 = ek at hcall he1' HS
              generalize (numberOf (L k).data.toList).1 = nk at hcall hstp hbst
              clear hsn hle he1 zf hmem z0 z1 z2 z3 zf0 zf1 zf2 zf3 hzr
              cases B' with
              | true =>
                go_wp2_with fail
                refine hcall.mono ?_
                rintro e w5 ⟨rfl, hw5⟩
                subst hw5
                clear hcall
                go_wp2_with fail
                go_roundw
                case rel => exact ⟨k + 1, true, by omega, by go_num, rfl, hbst, hstp, HS⟩
                case measure => simp [intOf]; omega
              | false =>
                by_cases h0 : 0 < ek
                · have HS2 : Hid (numErrs ((lstF 3 L).take (k + 1)) 0 = bndN true) := Lib.hid (by rw [HS.out, decide_eq_true h0]; rfl)
                  clear HS
                  have h0' : (0 : Int) < (ek : Int) := by omega
                  go_wp2_with fail
                  refine hcall.mono ?_
                  rintro e w5 ⟨rfl, hw5⟩
                  subst hw5
                  clear hcall
                  go_wp2_with fail
                  go_roundw
                  case rel => exact ⟨k + 1, true, by omega, by go_num, rfl, hbst, hstp, HS2⟩
                  case measure => simp [intOf]; omega
                · have HS2 : Hid (numErrs ((lstF 3 L).take (k + 1)) 0 = bndN false) := Lib.hid (by rw [HS.out, decide_eq_false h0]; rfl)
                  clear HS
                  obtain rfl : ek = 0 := by omega
                  go_wp2_with fail
                  refine hcall.mono ?_
                  rintro e w5 ⟨rfl, hw5⟩
                  subst hw5
                  clear hcall
                  go_wp2_with fail
                  go_roundw
                  case rel => exact ⟨k + 1, false, by omega, by go_num, rfl, hbst, hstp, HS2⟩
                  case measure => simp [intOf]; omega
          · obtain rfl : k = 3 := by omega
            have HS : Hid (numErrs (verWords s.data.toList) 0 = bndN B') := Lib.hid (by rw [← HB.out, lstF_take_all, HL.out])
            go_wp2_with fail
            go_meet
            exact ⟨B', rfl, hbr, hN, HS⟩
      case rest =>
        obtain ⟨B', rfl, hbr, hN, HB⟩ := hcut
        clear hbB hNB
        go_upto_if 85 with fail
        go_cut [] from 86 to 88 (fun wx => ∃ (a' : Option Addr) (n' cap' : Nat) (P : Nat → ByteArray), NBox wx w1.heap.size L 3 (.slice a' n' cap') ∧ Below w1.heap.size w1 wx ∧ n' ≤ cap' ∧ cap' ≤ 9223372036854775807 ∧ n' ≤ 1000000001 ∧ Hid (lstF n' P = verPres s.data.toList) ∧ (∀ j, j < n' → ∃ b o, a' = some ⟨b, o, none⟩ ∧ w1.heap.size < b ∧ wx.cell? ⟨b, o + j, none⟩ = some (.string (P j))) ∧ ∀ j, j < n' → (P j).size ≤ 4000000000)
        case first =>
          cases B with
          | false =>
            have hPr : Hid (verPres s.data.toList = []) := Lib.hid (by rw [HR2.out]; rfl)
            go_wp2_with fail
            go_meet
            exact ⟨none, 0, 0, fun _ => ByteArray.empty, hN, hbr, Nat.le_refl _, by decide, by decide, Lib.hid (by rw [hPr.out]; rfl), fun j hj => absurd hj (Nat.not_lt_zero _), fun j hj => absurd hj (Nat.not_lt_zero _)⟩
          | true =>
            have hPr : Hid (verPres s.data.toList = split R.data.toList [46]) := Lib.hid (by rw [HR2.out]; rfl)
            go_wp2_with fail
            refine (refCut_dot R wc hR9).mono ?_
            rintro e w2 ⟨⟨v2, rfl, hS2, hNew2⟩, hb2⟩
            obtain ⟨a2, n2, cap2, P, rfl, hl2, hn2, hcap2, hc2⟩ := hS2
            have hN2 := hN.below hb2
            have h3 := hN2.c3
            have hf3 := hN2.fr 3
            have hN3 := hN2.set3 (.slice a2 n2 cap2)
            have hbz : w1.heap.size < wc.heap.size := lt_of_cell hN.c3
            have hb3 : Below w1.heap.size w1 (w2.setCell ⟨w1.heap.size, 3, none⟩ (.slice a2 n2 cap2)) := (below_step hbr hb2).setCell (Nat.le_refl _) _
            have hcells : ∀ j, j < n2 → ∃ b o, a2 = some ⟨b, o, none⟩ ∧ w1.heap.size < b ∧ (w2.setCell ⟨w1.heap.size, 3, none⟩ (.slice a2 n2 cap2)).cell? ⟨b, o + j, none⟩ = some (.string (P j)) := fun j hj => by
              obtain ⟨b, o, rfl, h⟩ := hc2 j hj
              have hq : wc.heap.size ≤ b := hNew2 _ _ _ rfl
              refine ⟨b, o, rfl, by omega, ?_⟩
              rw [World.cell?_setCell_other _ _ _ _ (by intro e; injection e with e1 _ _; omega)]
              exact h
            have HX : Hid (lstF n2 P = verPres s.data.toList) := Lib.hid (by rw [hPr.out, hl2])
            have hsz := lstF_mem_le (by decide) hl2.symm
            have hR9' : R.data.toList.length ≤ 1000000000 := by rw [← size_eq]; exact hR9
            have hn9 : n2 ≤ 1000000001 := by
              have h5 := congrArg List.length hl2
              rw [lstF_length] at h5
              have := split_len 46 R.data.toList
              omega
            have HCl := Lib.hid hcells
            clear hc2 hl2 hNew2 hcells
            go_wp2_with fail
            go_meet
            exact ⟨a2, n2, cap2, P, hN3, hb3, hn2, hcap2, hn9, HX, HCl.out, fun j hj => Nat.le_trans (hsz j hj) (by omega)⟩
        case rest =>
          clear hbr hN
          obtain ⟨a', n', cap', P, hN, hbr, hn', hcap', hn9, HP', hcP, hPs⟩ := hcut
          have HcP := Lib.hid hcP
          have hzr := hz1.below hbr
          have c3 := hN.c3
          have hbw := below_step hb01 hbr
          clear hcP
          go_wp2_with fail
          go_loop [10, 14] (fun b i => ∃ (k : Nat) (C : Bool), k ≤ n' ∧ i = .int .i64 k ∧ b = .bool C ∧ Hid (partErrs ((lstF n' P).take k) (numErrs (verWords s.data.toList) 0) = bndN C)) (fun _ i => n' - (intOf i).toNat)
          case atStart => exact ⟨0, B', by omega, rfl, rfl, HB⟩
          case round =>
            obtain ⟨k, C, hk, rfl, rfl, HC'⟩ := hrel
            by_cases hlt : k < n'
            · obtain ⟨b1, o1, rfl, _, hck⟩ := HcP.out k hlt
              have hmem : (P k).data.toList ∈ verPres s.data.toList := by rw [← HP'.out]; exact List.mem_of_getElem? (lstF_get n' P k hlt)
              have hsn := partErrs_snoc ((lstF n' P).take k) (P k).data.toList (numErrs (verWords s.data.toList) 0)
              rw [← lstF_take_succ n' P k hlt, HC'.out] at hsn
              have HSN := Lib.hid hsn
              have HM := Lib.hid hmem
              have hp4 := hPs k hlt
              clear hsn hmem
              generalize P k = p at hck HSN HM hp4
              by_cases hs1 : p.size < 1
              · have HF : Hid (verErr s.data.toList = 1) := Lib.hid (by rw [hVE.out]; exact verErrs_part HM.out (partErr_size (.inl hs1)))
                obtain ⟨z0, z1, z2, z3, zf⟩ := id hzr
                have zf0 := zf 0
                have zf1 := zf 1
                have zf2 := zf 2
                have zf3 := zf 3
                clear zf
                go_wp2_with fail
                refine bodyPost_ret (v := .tuple #[.agg #[.int .i64 0, .int .i64 0, .int .i64 0, .slice none 0 0], .int .i64 1]) (by simp [results, Tryz.results89, go_sem, *]) rfl ?_
                have hne : verErr s.data.toList ≠ 0 := by rw [HF.out]; decide
                rw [verNum_bad hne, verNum_bad hne, verNum_bad hne, verPre_bad hne, HF.out]
                exact ⟨⟨_, rfl, StrsAt.nil _⟩, ((((hbw).setCell (Nat.le_refl _) _).setCell (Nat.le_refl _) _).setCell (Nat.le_refl _) _).setCell (Nat.le_refl _) _⟩
              · by_cases hs8 : 8 < p.size
                · have HF : Hid (verErr s.data.toList = 1) := Lib.hid (by rw [hVE.out]; exact verErrs_part HM.out (partErr_size (.inr hs8)))
                  obtain ⟨z0, z1, z2, z3, zf⟩ := id hzr
                  have zf0 := zf 0
                  have zf1 := zf 1
                  have zf2 := zf 2
                  have zf3 := zf 3
                  clear zf
                  go_wp2_with fail
                  refine bodyPost_ret (v := .tuple #[.agg #[.int .i64 0, .int .i64 0, .int .i64 0, .slice none 0 0], .int .i64 1]) (by simp [results, Tryz.results89, go_sem, *]) rfl ?_
                  have hne : verErr s.data.toList ≠ 0 := by rw [HF.out]; decide
                  rw [verNum_bad hne, verNum_bad hne, verNum_bad hne, verPre_bad hne, HF.out]
                  exact ⟨⟨_, rfl, StrsAt.nil _⟩, ((((hbw).setCell (Nat.le_refl _) _).setCell (Nat.le_refl _) _).setCell (Nat.le_refl _) _).setCell (Nat.le_refl _) _⟩
                · go_upto_block 6 with fail
                  go_cut [16, 17, 18, 19] from 110 to 162 (fun _ _ _ _ wx => wx = wc ∧ Hid ((p.data.toList.take p.size).all isPartByte = true))
                  case first =>
                    go_wp2_with fail
                    go_loop [16, 17, 18, 19] (fun i _ _ _ => ∃ m : Nat, m ≤ p.size ∧ i = .int .i64 m ∧ Hid ((p.data.toList.take m).all isPartByte = true)) (fun i _ _ _ => p.size - (intOf i).toNat)
                    case atStart => exact ⟨0, Nat.zero_le _, rfl, Lib.hid rfl⟩
                    case round =>
                      obtain ⟨m, hm, rfl, HA⟩ := hrel
                      by_cases hml : m < p.size
                      · have hip := isPartByte_iff p[m]
                        rcases byte_classes (p[m].toNat : Int) with h | h
                        · have hyes : isPartByte p[m] = true := hip.2 (by omega)
                          have HN : Hid ((p.data.toList.take (m + 1)).all isPartByte = true) := Lib.hid (by rw [take_snoc p m hml, List.all_append, HA.out]; simp [hyes])
                          clear hip hyes
                          rcases h with ⟨h1, h2, h3, h4, h5, h6⟩ | ⟨h1, h2, h3, h4, h5, h6⟩ | ⟨h1, h2, h3, h4, h5, h6⟩ | h
                          all_goals
                            go_wp2_with fail
                            go_round
                            case rel => exact ⟨m + 1, by omega, by go_num, HN⟩
                            case measure => simp [intOf]; omega
                        · obtain ⟨hd, hno, h⟩ := h
                          have hnot : isPartByte p[m] = false := by
                            rw [Bool.eq_false_iff]
                            intro e
                            have := hip.1 e
                            have h45 : (p[m].toNat : Int) ≠ 45 := beq_eq_false_iff_ne.1 hd
                            omega
                          have HF : Hid (verErr s.data.toList = 1) := Lib.hid (by rw [hVE.out]; exact verErrs_part HM.out (partErr_bad hml hnot))
                          clear hip hnot hno
                          rcases h with ⟨h1, h2, h3, h4, h5, h6⟩ | ⟨h1, h2, h3, h4, h5, h6⟩ | ⟨h1, h2, h3, h4, h5, h6⟩ | ⟨h1, h2, h3, h4, h5, h6⟩
                          all_goals
                            obtain ⟨z0, z1, z2, z3, zf⟩ := id hzr
                            have zf0 := zf 0
                            have zf1 := zf 1
                            have zf2 := zf 2
                            have zf3 := zf 3
                            clear zf
                            go_wp2_with fail
                            refine bodyPost_ret (v := .tuple #[.agg #[.int .i64 0, .int .i64 0, .int .i64 0, .slice none 0 0], .int .i64 1]) (by simp [results, Tryz.results89, go_sem, *]) rfl ?_
                            have hne : verErr s.data.toList ≠ 0 := by rw [HF.out]; decide
                            rw [verNum_bad hne, verNum_bad hne, verNum_bad hne, verPre_bad hne, HF.out]
                            exact ⟨⟨_, rfl, StrsAt.nil _⟩, ((((hbw).setCell (Nat.le_refl _) _).setCell (Nat.le_refl _) _).setCell (Nat.le_refl _) _).setCell (Nat.le_refl _) _⟩
                      · obtain rfl : m = p.size := by omega
                        go_wp2_with fail
                        go_meet
                        exact ⟨rfl, HA⟩
                  case rest =>
                    obtain ⟨rfl, HA⟩ := hcut
                    have HPE := Lib.hid (partErr_good (by omega) (by omega) HA.out)
                    have hdc := refDigits_calls p wc hp4
                    have hnc := refNumber_calls p wc hp4
                    have hle := (numberOf_le p.data.toList).2
                    have HNC := Lib.hid hnc
                    clear hnc
                    cases hd : areDigits p.data.toList with
                    | false =>
                      have HS : Hid (partErrs ((lstF n' P).take (k + 1)) (numErrs (verWords s.data.toList) 0) = bndN C) := Lib.hid (by
                        rw [HSN.out, HPE.out, hd]
                        show worseN (bndN C) 0 = _
                        unfold worseN
                        rw [if_pos (.inr rfl)])
                      rw [hd] at hdc
                      clear hd hle
                      go_wp2_with fail
                      refine hdc.mono ?_
                      rintro e w5 ⟨rfl, hw5⟩
                      subst hw5
                      clear hdc
                      go_wp2_with fail
                      go_round
                      case rel => exact ⟨k + 1, C, by omega, by go_num, rfl, HS⟩
                      case measure => simp [intOf]; omega
                    | true =>
                      have HE : Hid (partErr p.data.toList = (numberOf p.data.toList).2) := Lib.hid (by rw [HPE.out, hd]; rfl)
                      rw [hd] at hdc
                      clear hd
                      have hnc := HNC.out
                      clear HNC
                      by_cases he1 : (numberOf p.data.toList).2 = 1
                      · have HF : Hid (verErr s.data.toList = 1) := Lib.hid (by rw [hVE.out]; exact verErrs_part HM.out (HE.out.trans he1))
                        rw [he1] at hnc
                        generalize (numberOf p.data.toList).1 = nk at hnc
                        clear he1 hle
                        go_wp2_with fail
                        refine hdc.mono ?_
                        rintro e w5 ⟨rfl, hw5⟩
                        subst hw5
                        clear hdc
                        go_wp2_with fail
                        refine hnc.mono ?_
                        rintro e w5 ⟨rfl, hw5⟩
                        subst hw5
                        clear hnc
                        obtain ⟨z0, z1, z2, z3, zf⟩ := id hzr
                        have zf0 := zf 0
                        have zf1 := zf 1
                        have zf2 := zf 2
                        have zf3 := zf 3
                        clear zf
                        go_wp2_with fail
                        refine bodyPost_ret (v := .tuple #[.agg #[.int .i64 0, .int .i64 0, .int .i64 0, .slice none 0 0], .int .i64 1]) (by simp [results, Tryz.results89, go_sem, *]) rfl ?_
                        have hne : verErr s.data.toList ≠ 0 := by rw [HF.out]; decide
                        rw [verNum_bad hne, verNum_bad hne, verNum_bad hne, verPre_bad hne, HF.out]
                        exact ⟨⟨_, rfl, StrsAt.nil _⟩, ((((hbw).setCell (Nat.le_refl _) _).setCell (Nat.le_refl _) _).setCell (Nat.le_refl _) _).setCell (Nat.le_refl _) _⟩
                      · have HS : Hid (partErrs ((lstF n' P).take (k + 1)) (numErrs (verWords s.data.toList) 0) = bndN (C || decide (0 < (numberOf p.data.toList).2))) := Lib.hid (by rw [HSN.out, HE.out, bndN_step C he1 hle])
                        have he1' : (((numberOf p.data.toList).2 : Int) == 1) = false := beq_eq_false_iff_ne.2 (by omega)
                        generalize (numberOf p.data.toList).2 = ek at hnc he1' HS
                        generalize (numberOf p.data.toList).1 = nk at hnc
                        clear hle he1 HE HPE
                        cases C with
                        | true =>
                          go_wp2_with fail
                          refine hdc.mono ?_
                          rintro e w5 ⟨rfl, hw5⟩
                          subst hw5
                          clear hdc
                          go_wp2_with fail
                          refine hnc.mono ?_
                          rintro e w5 ⟨rfl, hw5⟩
                          subst hw5
                          clear hnc
                          go_wp2_with fail
                          go_round
                          case rel => exact ⟨k + 1, true, by omega, by go_num, rfl, HS⟩
                          case measure => simp [intOf]; omega
                        | false =>
                          by_cases h0 : 0 < ek
                          · have HS2 : Hid (partErrs ((lstF n' P).take (k + 1)) (numErrs (verWords s.data.toList) 0) = bndN true) := Lib.hid (by rw [HS.out, decide_eq_true h0]; rfl)
                            clear HS
                            have h0' : (0 : Int) < (ek : Int) := by omega
                            go_wp2_with fail
                            refine hdc.mono ?_
                            rintro e w5 ⟨rfl, hw5⟩
                            subst hw5
                            clear hdc
                            go_wp2_with fail
                            refine hnc.mono ?_
                            rintro e w5 ⟨rfl, hw5⟩
                            subst hw5
                            clear hnc
                            go_wp2_with fail
                            go_round
                            case rel => exact ⟨k + 1, true, by omega, by go_num, rfl, HS2⟩
                            case measure => simp [intOf]; omega
                          · have HS2 : Hid (partErrs ((lstF n' P).take (k + 1)) (numErrs (verWords s.data.toList) 0) = bndN false) := Lib.hid (by rw [HS.out, decide_eq_false h0]; rfl)
                            clear HS
                            obtain rfl : ek = 0 := by omega
                            go_wp2_with fail
                            refine hdc.mono ?_
                            rintro e w5 ⟨rfl, hw5⟩
                            subst hw5
                            clear hdc
                            go_wp2_with fail
                            refine hnc.mono ?_
                            rintro e w5 ⟨rfl, hw5⟩
                            subst hw5
                            clear hnc
                            go_wp2_with fail
                            go_round
                            case rel => exact ⟨k + 1, false, by omega, by go_num, rfl, HS2⟩
                            case measure => simp [intOf]; omega
            · obtain rfl : k = n' := by omega
              have HS : Hid (verErr s.data.toList = if C = true ∨ 5 < k then 2 else 0) := Lib.hid (by
                have h1 := HC'.out
                rw [lstF_take_all, HP'.out] at h1
                rw [hVE.out, verErrs_bnd h1, ← HP'.out, lstF_length])
              by_cases hbad : C = true ∨ 5 < k
              · have HF : Hid (verErr s.data.toList = 2) := Lib.hid (by rw [HS.out, if_pos hbad])
                clear HS
                cases C with
                | true =>
                  clear hbad
                  obtain ⟨z0, z1, z2, z3, zf⟩ := id hzr
                  have zf0 := zf 0
                  have zf1 := zf 1
                  have zf2 := zf 2
                  have zf3 := zf 3
                  clear zf
                  go_wp2_with fail
                  refine bodyPost_ret (v := .tuple #[.agg #[.int .i64 0, .int .i64 0, .int .i64 0, .slice none 0 0], .int .i64 2]) (by simp [results, Tryz.results89, go_sem, *]) rfl ?_
                  have hne : verErr s.data.toList ≠ 0 := by rw [HF.out]; decide
                  rw [verNum_bad hne, verNum_bad hne, verNum_bad hne, verPre_bad hne, HF.out]
                  exact ⟨⟨_, rfl, StrsAt.nil _⟩, ((((hbw).setCell (Nat.le_refl _) _).setCell (Nat.le_refl _) _).setCell (Nat.le_refl _) _).setCell (Nat.le_refl _) _⟩
                | false =>
                  have h5 : 5 < k := hbad.resolve_left (by decide)
                  clear hbad
                  obtain ⟨z0, z1, z2, z3, zf⟩ := id hzr
                  have zf0 := zf 0
                  have zf1 := zf 1
                  have zf2 := zf 2
                  have zf3 := zf 3
                  clear zf
                  go_wp2_with fail
                  refine bodyPost_ret (v := .tuple #[.agg #[.int .i64 0, .int .i64 0, .int .i64 0, .slice none 0 0], .int .i64 2]) (by simp [results, Tryz.results89, go_sem, *]) rfl ?_
                  have hne : verErr s.data.toList ≠ 0 := by rw [HF.out]; decide
                  rw [verNum_bad hne, verNum_bad hne, verNum_bad hne, verPre_bad hne, HF.out]
                  exact ⟨⟨_, rfl, StrsAt.nil _⟩, ((((hbw).setCell (Nat.le_refl _) _).setCell (Nat.le_refl _) _).setCell (Nat.le_refl _) _).setCell (Nat.le_refl _) _⟩
              · have HF : Hid (verErr s.data.toList = 0) := Lib.hid (by rw [HS.out, if_neg hbad])
                rw [not_or] at hbad
                obtain ⟨hC, h5⟩ := hbad
                obtain rfl : C = false := by simpa using hC
                have hv0 := HF.out
                have hn3 := numAt_three L s.data.toList HL.out hv0
                have HX := Lib.hid (And.intro (verPre_ok hv0) (And.intro (hn3 0 (by decide)) (And.intro (hn3 1 (by decide)) (hn3 2 (by decide)))))
                have p0 := hN.c 0 (by decide)
                have p1 := hN.c 1 (by decide)
                have p2 := hN.c 2 (by decide)
                obtain ⟨z0, z1, z2, z3, zf⟩ := id hzr
                have zf0 := zf 0
                have zf1 := zf 1
                have zf2 := zf 2
                have zf3 := zf 3
                have hne : w.heap.size ≠ w1.heap.size := Nat.ne_of_lt hwz
                have hne' : w1.heap.size ≠ w.heap.size := hne.symm
                have hCO : CellsOver wc w1.heap.size a' k P := HcP.out
                have hCf := fun v0 v1 v2 v3 => ((((hCO.set (Nat.le_of_lt hwz) 0 v0).set (Nat.le_of_lt hwz) 1 v1).set (Nat.le_of_lt hwz) 2 v2).set (Nat.le_of_lt hwz) 3 v3).strs hn' hcap'
                have HCF := Lib.hid hCf
                clear zf hC hv0 hn3 HS hCf hCO
                go_wp2_with fail
                refine bodyPost_ret (v := .tuple #[.agg #[.int .i64 (numAt L 3 0), .int .i64 (numAt L 3 1), .int .i64 (numAt L 3 2), .slice a' k cap'], .int .i64 0]) (by simp [results, Tryz.results89, go_sem, *]) rfl ?_
                obtain ⟨hpre, e0, e1, e2⟩ := HX.out
                rw [hpre, ← e0, ← e1, ← e2, HF.out, ← HP'.out]
                exact ⟨⟨_, rfl, HCF.out _ _ _ _⟩, ((((hbw).setCell (Nat.le_refl _) _).setCell (Nat.le_refl _) _).setCell (Nat.le_refl _) _).setCell (Nat.le_refl _) _⟩

/-- R.VerOf -/
theorem refVerOf_calls (s : ByteArray) (w : World) (hs : s.size ≤ 1000000000) :
    Calls Tryz.prog 89 #[.string s] w fun e w' => (∃ v, e = .returned (.tuple #[.agg #[.int .i64 (verNum s.data.toList 0 : Nat), .int .i64 (verNum s.data.toList 1 : Nat), .int .i64 (verNum s.data.toList 2 : Nat), v], .int .i64 (verErr s.data.toList : Nat)]) ∧ StrsAt w' v (verPre s.data.toList)) ∧ Below w.heap.size w w' := by
  cases hp : hasPrefix s.data.toList [118] with
  | true => exact refVerOf_v s w hs hp
  | false =>
    have h1 : verErr s.data.toList = 1 := by unfold verErr; rw [if_pos (.inl hp)]
    have hne : verErr s.data.toList ≠ 0 := by rw [h1]; decide
    refine (refVerOf_none s w hs hp).mono ?_
    rintro e w' ⟨rfl, hb⟩
    rw [verNum_bad hne, verNum_bad hne, verNum_bad hne, verPre_bad hne, h1]
    exact ⟨⟨_, rfl, StrsAt.nil _⟩, hb⟩
end Go.Proofs.Pw

/- R.suffixOf and R.PathError. Conditions: texts of at most 1000000000 bytes. -/
namespace Go.Proofs.Pw
open Go.RowKit
open Go.Lib hiding intOf

/-- R.suffixOf's answer -/
def refSuf (s : Str) : Int := if looksSuf s then (if isSuf s then (sufNum s : Int) else -1) else 0

theorem looks_short {s : ByteArray} (h : s.size < 2) : looksSuf s.data.toList = false := by
  unfold looksSuf
  cases hp : hasPrefix s.data.toList [118] with
  | false => rfl
  | true =>
    have h0 := trimPrefix_byte s hp
    rw [sufD, h0, Bool.true_and]
    have : s.data.toList.drop 1 = [] := List.drop_eq_nil_of_le (by rw [← size_eq]; omega)
    rw [this]; rfl
theorem looks_byte {s : ByteArray} (h : 0 < s.size) (hb : s[0] ≠ 118) : looksSuf s.data.toList = false := by
  unfold looksSuf
  rw [hasPrefix_byte s h, decide_eq_false hb, Bool.false_and]
theorem looks_is {s : ByteArray} (h : 0 < s.size) (hb : s[0] = 118) : looksSuf s.data.toList = areDigits (s.extract 1 s.size).data.toList ∧ sufD s.data.toList = (s.extract 1 s.size).data.toList := by
  have hp : hasPrefix s.data.toList [118] = true := by rw [hasPrefix_byte s h, decide_eq_true hb]
  have h0 := trimPrefix_byte s hp
  unfold looksSuf
  rw [sufD, h0, hp, Bool.true_and, extract_to_end]
  exact ⟨rfl, rfl⟩

set_option maxHeartbeats 400000 in
theorem refSuffix_calls (s : ByteArray) (w : World) (hs : s.size ≤ 1000000000) :
    Calls Tryz.prog 132 #[.string s] w fun e w' => e = .returned (.int .i64 (refSuf s.data.toList)) ∧ w = w' := by
  by_cases h2 : s.size < 2
  · have HF : Hid (refSuf s.data.toList = 0) := Lib.hid (by unfold refSuf; rw [looks_short h2]; rfl)
    go_enter Tryz.func132, Tryz.ntmps132
    go_wp2_with fail
    go_ret
    rw [HF.out]
    exact ⟨rfl, rfl⟩
  · have h0 : 0 < s.size := by omega
    by_cases hb : s[0] = 118
    · have hb' : (s[0].toNat : Int) = 118 := by rw [hb]; rfl
      obtain ⟨hl, hd⟩ := looks_is h0 hb
      have hx : (s.extract 1 s.size).size ≤ 4000000000 := Nat.le_trans (extract_size_le s _ _) (by omega)
      have hR : refSuf s.data.toList = if areDigits (s.extract 1 s.size).data.toList then (if (numberOf (s.extract 1 s.size).data.toList).2 = 0 ∧ 2 ≤ (numberOf (s.extract 1 s.size).data.toList).1 then ((numberOf (s.extract 1 s.size).data.toList).1 : Int) else -1) else 0 := by
        unfold refSuf isSuf sufNum
        rw [hl, hd]
        cases areDigits (s.extract 1 s.size).data.toList with
        | false => rfl
        | true => simp only [Bool.true_and, decide_eq_true_eq, if_true]
      have HR := Lib.hid hR
      have hda := refDigits_calls (s.extract 1 s.size) w hx
      have hnu := refNumber_calls (s.extract 1 s.size) w hx
      clear hl hd hR hb
      generalize areDigits (s.extract 1 s.size).data.toList = D at HR hda
      generalize (numberOf (s.extract 1 s.size).data.toList).2 = E at HR hnu
      generalize (numberOf (s.extract 1 s.size).data.toList).1 = M at HR hnu
      cases D with
      | false =>
        go_enter Tryz.func132, Tryz.ntmps132
        go_wp2_with fail
        refine hda.mono ?_
        rintro e w' ⟨rfl, rfl⟩
        go_wp2_with fail
        go_ret
        rw [HR.out]
        exact ⟨rfl, rfl⟩
      | true =>
        by_cases hE : 0 < E
        · have hE' : (0 : Int) < (E : Int) := by omega
          have HF : Hid (refSuf s.data.toList = -1) := Lib.hid (by rw [HR.out, if_pos rfl, if_neg (by omega)])
          go_enter Tryz.func132, Tryz.ntmps132
          go_wp2_with fail
          refine hda.mono ?_
          rintro e w' ⟨rfl, rfl⟩
          go_wp2_with fail
          refine hnu.mono ?_
          rintro e w' ⟨rfl, rfl⟩
          go_wp2_with fail
          go_ret
          rw [HF.out]
          exact ⟨rfl, rfl⟩
        · obtain rfl : E = 0 := by omega
          by_cases hM : M < 2
          · have hM' : (M : Int) < 2 := by omega
            have HF : Hid (refSuf s.data.toList = -1) := Lib.hid (by rw [HR.out, if_pos rfl, if_neg (by omega)])
            go_enter Tryz.func132, Tryz.ntmps132
            go_wp2_with fail
            refine hda.mono ?_
            rintro e w' ⟨rfl, rfl⟩
            go_wp2_with fail
            refine hnu.mono ?_
            rintro e w' ⟨rfl, rfl⟩
            go_wp2_with fail
            go_ret
            rw [HF.out]
            exact ⟨rfl, rfl⟩
          · have hM' : ¬ (M : Int) < 2 := by omega
            have HF : Hid (refSuf s.data.toList = M) := Lib.hid (by rw [HR.out, if_pos rfl, if_pos (by omega)])
            go_enter Tryz.func132, Tryz.ntmps132
            go_wp2_with fail
            refine hda.mono ?_
            rintro e w' ⟨rfl, rfl⟩
            go_wp2_with fail
            refine hnu.mono ?_
            rintro e w' ⟨rfl, rfl⟩
            go_wp2_with fail
            go_ret
            rw [HF.out]
            exact ⟨rfl, rfl⟩
    · have HF : Hid (refSuf s.data.toList = 0) := Lib.hid (by unfold refSuf; rw [looks_byte h0 hb]; rfl)
      have hb' : ((s[0].toNat : Int) == 118) = false := byte_ne_int (c := 118) rfl hb
      clear hb
      go_enter Tryz.func132, Tryz.ntmps132
      go_wp2_with fail
      go_ret
      rw [HF.out]
      exact ⟨rfl, rfl⟩

/-! ### elements, byte by byte -/
theorem isElemByte_iff (c : UInt8) : isElemByte c = true ↔ (97 ≤ (c.toNat : Int) ∧ (c.toNat : Int) ≤ 122) ∨ (48 ≤ (c.toNat : Int) ∧ (c.toNat : Int) ≤ 57) ∨ (c.toNat : Int) = 46 ∨ (c.toNat : Int) = 45 ∨ (c.toNat : Int) = 95 := by
  unfold isElemByte isDig
  have e : ∀ d : UInt8, (c == d) = decide (c.toNat = d.toNat) := fun d => by
    rw [Bool.eq_iff_iff, beq_iff_eq, decide_eq_true_eq]
    exact ⟨fun h => by rw [h], fun h => UInt8.toNat_inj.1 h⟩
  rw [e, e, e]
  simp only [Bool.or_eq_true, decide_eq_true_eq, show (46 : UInt8).toNat = 46 from rfl, show (45 : UInt8).toNat = 45 from rfl, show (95 : UInt8).toNat = 95 from rfl]
  omega
theorem elem_classes (c : Int) :
    ((97 ≤ c ∧ c ≤ 122 ∧ 48 ≤ c ∧ ¬ c ≤ 57 ∧ (c == 46) = false) ∨ (¬ 97 ≤ c ∧ c ≤ 122 ∧ 48 ≤ c ∧ c ≤ 57 ∧ (c == 46) = false) ∨ c = 45 ∨ c = 95 ∨ c = 46) ∨
    (((c == 46) = false ∧ (c == 45) = false ∧ (c == 95) = false) ∧ ¬ ((97 ≤ c ∧ c ≤ 122) ∨ (48 ≤ c ∧ c ≤ 57)) ∧
      ((¬ 97 ≤ c ∧ c ≤ 122 ∧ ¬ 48 ≤ c ∧ c ≤ 57) ∨ (¬ 97 ≤ c ∧ c ≤ 122 ∧ 48 ≤ c ∧ ¬ c ≤ 57) ∨ (97 ≤ c ∧ ¬ c ≤ 122 ∧ 48 ≤ c ∧ ¬ c ≤ 57))) := by
  have e : ∀ d : Int, (c == d) = false ↔ c ≠ d := fun d => beq_eq_false_iff_ne
  simp only [e]
  omega
theorem elem_byte {s : ByteArray} {k : Nat} (h : k < s.size) (hb : isElemByte s[k] = false) : elemOk s.data.toList = false := by
  have : s.data.toList.all isElemByte = false := by
    rw [Bool.eq_false_iff]
    intro e
    have := List.all_eq_true.1 e _ (byte_mem s k h)
    rw [hb] at this
    cases this
  unfold elemOk
  rw [this]
  simp
theorem occ_dots {s : ByteArray} {k : Nat} : occAt s.data.toList dots k = true ↔ (s.extract k (k + 3)).data.toList = dots := by
  unfold occAt
  have e : (s.extract k (k + 3)).data.toList = (s.data.toList.drop k).take 3 := by rw [extract_data, Nat.add_sub_cancel_left]
  rw [List.isPrefixOf_iff_prefix, e]
  constructor
  · rintro ⟨t, ht⟩
    rw [← ht]; rfl
  · intro h
    exact ⟨(s.data.toList.drop k).drop 3, by rw [← h]; exact List.take_append_drop 3 _⟩
theorem elem_occ {s : ByteArray} {k : Nat} (hk : k ≤ s.size) (h : occAt s.data.toList dots k = true) : elemOk s.data.toList = false := by
  have : contains s.data.toList dots = true := by
    unfold contains
    apply decide_eq_true
    rcases index_spec s.data.toList dots with ⟨_, h2⟩ | ⟨i, h1, _⟩
    · have := h2 k (by rw [← size_eq]; exact hk)
      rw [h] at this; cases this
    · omega
  unfold elemOk
  rw [this]
  simp
theorem elem_dot {s : Str} (h : s.all (· == 46) = true) : elemOk s = false := by unfold elemOk; rw [h]; simp
theorem elem_yes {s : Str} (h1 : s.all isElemByte = true) (h2 : s.all (· == 46) = false) (h3 : NoOcc s dots (s.length - 2)) : elemOk s = true := by
  have hc : contains s dots = false := by
    unfold contains
    apply decide_eq_false
    rw [index_past (by decide) h3 (by show s.length < s.length - 2 + 3; omega)]
    decide
  have he : s.isEmpty = false := by cases s with | nil => cases h2 | cons => rfl
  unfold elemOk
  rw [he, h1, h2, hc]
  rfl
theorem noOcc_step {s : ByteArray} {m : Nat} (h : NoOcc s.data.toList dots (m - 2)) (hno : 2 ≤ m → occAt s.data.toList dots (m - 2) = false) : NoOcc s.data.toList dots (m + 1 - 2) := by
  intro j hj
  by_cases e : j = m - 2
  · subst e
    exact hno (by omega)
  · exact h j (by omega)
end Go.Proofs.Pw
