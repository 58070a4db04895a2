/- St: walks and plain laws, joined: SumMem SumCrc. Conditions: at each theorem. -/
import Derived.Test.YtglhgbcebpeomaaGreatDoorStn
import Derived.Test.YtglhgbcebpeomaaGreatDoorStj
import Derived.Test.YtglhgbcebpeomaaGreatDoorStl
import Derived.Test.YtglhgbcebpeomaaGreatDoorStd

namespace Go.Proofs.Pw
open Go.RowKit
open Go.Lib hiding intOf
def lnF (n : Nat) (P V : Nat → ByteArray) (S : Nat → Nat) : List Ln := (List.range n).map fun j => (((P j).data.toList, (V j).data.toList), S j)
theorem lnF_length (n P V S) : (lnF n P V S).length = n := by simp [lnF]
theorem lnF_get (n P V S) (j : Nat) (h : j < n) : (lnF n P V S)[j]? = some (((P j).data.toList, (V j).data.toList), S j) := by simp [lnF, h]
theorem lnAt_lnF {n P V S} {j : Nat} (h : j < n) : lnAt (lnF n P V S) j = (((P j).data.toList, (V j).data.toList), S j) := by
  unfold lnAt
  rw [List.getD_eq_getElem?_getD, lnF_get n P V S j h]; rfl
theorem lnF_take_succ (n P V S) (k : Nat) (h : k < n) : (lnF n P V S).take (k + 1) = (lnF n P V S).take k ++ [(((P k).data.toList, (V k).data.toList), S k)] := by
  rw [List.take_add_one, lnF_get n P V S k h]; rfl
theorem StrsAt.cellsL {w : World} {x : Value} {l : List Str} (h : StrsAt w x l) : ∃ a n c L, x = .slice a n c ∧ l = lstF n L ∧ ∀ W, Below w.heap.size w W → ∀ j, j < n → ∃ b o, a = some ⟨b, o, none⟩ ∧ W.cell? ⟨b, o + j, none⟩ = some (.string (L j)) := by
  obtain ⟨a, n, c, L, e1, e2, _, _, h5⟩ := h
  exact ⟨a, n, c, L, e1, e2, fun W hW j hj => let ⟨b, o, e, c0⟩ := h5 j hj; ⟨b, o, e, Below.cell_some hW c0⟩⟩
structure LnC (kd : IntKind) (w : World) (b o : Nat) (p v : ByteArray) (s : Int) : Prop where
  c0 : w.cell? ⟨b, o, none⟩ = some (.string p)
  c1 : w.cell? ⟨b, o + 1, none⟩ = some (.string v)
  c2 : w.cell? ⟨b, o + 2, none⟩ = some (.int kd s)
theorem LnC.below {kd : IntKind} {w w' : World} {b o : Nat} {p v : ByteArray} {s : Int} (h : LnC kd w b o p v s) (hb : Below w.heap.size w w') : LnC kd w' b o p v s :=
  ⟨Below.cell_some hb h.c0, Below.cell_some hb h.c1, Below.cell_some hb h.c2⟩
structure LnsIn (kd : IntKind) (w : World) (a : Option Addr) (n cap : Nat) (P V : Nat → ByteArray) (S : Nat → Int) : Prop where
  le : n ≤ cap
  cap : cap ≤ 9223372036854775807
  at_ : ∀ j, j < n → ∃ b o, a = some ⟨b, o, none⟩ ∧ LnC kd w b (o + j * 3) (P j) (V j) (S j)
theorem LnsIn.below {kd : IntKind} {w w' : World} {a n cap P V S} (h : LnsIn kd w a n cap P V S) (hb : Below w.heap.size w w') : LnsIn kd w' a n cap P V S :=
  ⟨h.le, h.cap, fun j hj => let ⟨b, o, e, c⟩ := h.at_ j hj; ⟨b, o, e, c.below hb⟩⟩
def LnsAt (kd : IntKind) (w : World) (v : Value) (l : List Ln) : Prop :=
  ∃ a n cap P V, ∃ S : Nat → Nat, v = .slice a n cap ∧ l = lnF n P V S ∧ LnsIn kd w a n cap P V fun j => ((S j : Nat) : Int)
theorem LnsAt.below {kd : IntKind} {w w' : World} {v : Value} {l : List Ln} (h : LnsAt kd w v l) (hb : Below w.heap.size w w') : LnsAt kd w' v l := by
  obtain ⟨a, n, cap, P, V, S, h1, h2, h3⟩ := h
  exact ⟨a, n, cap, P, V, S, h1, h2, h3.below hb⟩
theorem LnsIn.nil (kd : IntKind) (w : World) (S : Nat → Int) : LnsIn kd w none 0 0 (fun _ => ByteArray.empty) (fun _ => ByteArray.empty) S := ⟨Nat.le_refl _, by decide, fun j hj => absurd hj (Nat.not_lt_zero _)⟩
theorem LnsAt.nil (kd : IntKind) (w : World) : LnsAt kd w (.slice none 0 0) [] :=
  ⟨none, 0, 0, fun _ => ByteArray.empty, fun _ => ByteArray.empty, fun _ => 0, rfl, rfl, LnsIn.nil kd w _⟩
abbrev LnB := ByteArray × ByteArray × Nat
def lnVs (kd : IntKind) (l : List LnB) : List Value := l.flatMap fun m => [.string m.1, .string m.2.1, .int kd (m.2.2 : Nat)]
def lnTs (l : List LnB) : List Ln := l.map fun m => ((m.1.data.toList, m.2.1.data.toList), m.2.2)
theorem lnTs_length (l) : (lnTs l).length = l.length := List.length_map ..
theorem lnTs_snoc (l : List LnB) (p v : ByteArray) (s : Nat) : lnTs (l ++ [(p, v, s)]) = lnTs l ++ [((p.data.toList, v.data.toList), s)] := by simp [lnTs]
theorem lnVs_snoc (kd : IntKind) (l : List LnB) (p v : ByteArray) (s : Nat) : lnVs kd l ++ [.string p, .string v, .int kd (s : Nat)] = lnVs kd (l ++ [(p, v, s)]) := by
  unfold lnVs; rw [List.flatMap_append]; simp
theorem lnVs_get (kd) : ∀ {l : List LnB} {j : Nat} {m : LnB}, l[j]? = some m → (lnVs kd l)[j * 3]? = some (.string m.1) ∧ (lnVs kd l)[j * 3 + 1]? = some (.string m.2.1) ∧ (lnVs kd l)[j * 3 + 2]? = some (.int kd (m.2.2 : Nat))
  | [], j, m, h => by simp at h
  | a :: r, 0, m, h => by
    simp at h; subst h
    exact ⟨rfl, rfl, rfl⟩
  | a :: r, j + 1, m, h => by
    have := lnVs_get kd (l := r) (j := j) (m := m) (by simpa using h)
    have e : lnVs kd (a :: r) = .string a.1 :: .string a.2.1 :: .int kd (a.2.2 : Nat) :: lnVs kd r := rfl
    rw [e, show (j + 1) * 3 = j * 3 + 1 + 1 + 1 by omega]
    simp only [List.getElem?_cons_succ]
    exact this
def lnG (l : List LnB) (j : Nat) : LnB := l.getD j (ByteArray.empty, ByteArray.empty, 0)
theorem lnTs_F (l : List LnB) : lnTs l = lnF l.length (fun j => (lnG l j).1) (fun j => (lnG l j).2.1) (fun j => (lnG l j).2.2) := by
  apply List.ext_getElem?
  intro i
  by_cases hi : i < l.length
  · rw [lnF_get _ _ _ _ i hi]
    simp [lnTs, lnG, List.getD_eq_getElem?_getD, List.getElem?_eq_getElem hi]
  · rw [List.getElem?_eq_none (by rw [lnTs_length]; omega), List.getElem?_eq_none (by rw [lnF_length]; omega)]
theorem lnsAt_own {kd : IntKind} {w : World} {base e : Nat} {v : Value} {l : List LnB} (h : w.ownsRow base e 3 v l.length (lnVs kd l)) : LnsAt kd w v (lnTs l) := by
  rcases h.2 with ⟨rfl, h0⟩ | ⟨g, cap, cur, rfl, hb, hg, hn, hm, hs, ht⟩
  · have : l = [] := List.eq_nil_of_length_eq_zero h0
    subst this
    exact LnsAt.nil kd w
  · refine ⟨_, l.length, cap, fun j => (lnG l j).1, fun j => (lnG l j).2.1, fun j => (lnG l j).2.2, rfl, lnTs_F l, hn, by unfold maxLen at hm; exact hm, fun j hj => ⟨g, 0, rfl, ?_⟩⟩
    have hget := lnVs_get kd (l := l) (j := j) (m := lnG l j) (by unfold lnG; rw [List.getD_eq_getElem?_getD, List.getElem?_eq_getElem hj]; rfl)
    rw [← ht] at hget
    rw [List.getElem?_take, if_pos (by omega), List.getElem?_take, if_pos (by omega), List.getElem?_take, if_pos (by omega)] at hget
    rw [Nat.zero_add]
    exact ⟨by rw [cell_of_row w g _ cur e (0, 0) hg]; simpa using hget.1, by rw [cell_of_row w g _ cur e (0, 0) hg]; simpa using hget.2.1, by rw [cell_of_row w g _ cur e (0, 0) hg]; simpa using hget.2.2⟩
theorem lnG_cells {kd : IntKind} {w : World} {base e c : Nat} {a : Option Addr} {n : Nat} {l : List LnB} (h : w.ownsRow base e 3 (.slice a n c) l.length (lnVs kd l)) : ∀ j, j < l.length → ∃ b o, a = some ⟨b, o, none⟩ ∧ LnC kd w b (o + j * 3) (lnG l j).1 (lnG l j).2.1 ((lnG l j).2.2 : Nat) := by
  intro j hj
  rcases h.2 with ⟨_, h0⟩ | ⟨g, cap, cur, e1, hb, hg, hn, hm, hs, ht⟩
  · omega
  · injection e1 with e1 _ _
    subst e1
    refine ⟨g, 0, rfl, ?_⟩
    have hget := lnVs_get kd (l := l) (j := j) (m := lnG l j) (by unfold lnG; rw [List.getD_eq_getElem?_getD, List.getElem?_eq_getElem hj]; rfl)
    rw [← ht] at hget
    rw [List.getElem?_take, if_pos (by omega), List.getElem?_take, if_pos (by omega), List.getElem?_take, if_pos (by omega)] at hget
    rw [Nat.zero_add]
    exact ⟨by rw [cell_of_row w g _ cur e (0, 0) hg]; simpa using hget.1, by rw [cell_of_row w g _ cur e (0, 0) hg]; simpa using hget.2.1, by rw [cell_of_row w g _ cur e (0, 0) hg]; simpa using hget.2.2⟩
theorem ownL_len {w : World} {base e s c n m : Nat} {a : Option Addr} {xs : List Value} (h : w.ownsRow base e s (.slice a n c) m xs) : n = m := by
  rcases h.2 with ⟨e1, h0⟩ | ⟨g, cap, cur, e1, _⟩
  · injection e1 with _ e2 _
    omega
  · injection e1 with _ e2 _
theorem grown_cell {W W' : World} {row : Option Nat} {b o : Nat} {v : Value} (hg : W.grownBy W' row) (c : W.cell? ⟨b, o, none⟩ = some v) (hne : some b ≠ row) : W'.cell? ⟨b, o, none⟩ = some v := (hg.cell_far ⟨b, o, none⟩ (lt_of_cell c) hne).trans c
theorem cell_ln_new (w : World) (x y : ByteArray) (kd : IntKind) (s : Int) (t : TypeId) : ∀ j u, ([.string x, .string y, .int kd s] : List Value)[j]? = some u → (w.alloc (.cells #[.string x, .string y, .int kd s] t)).cell? ((⟨w.heap.size, 0, none⟩ : Addr).add j) = some u :=
  World.news_of_block (cs := #[.string x, .string y, .int kd s]) (Go.Deep.blk_alloc_new w _)
structure OwnL (B : Nat) (w : World) (v : Value) (T : List LnB) : Prop where
  out : w.ownsRow B 64 3 v T.length (lnVs .u32 T)
theorem OwnL.below {B : Nat} {w w' : World} {v : Value} {T : List LnB} (h : OwnL B w v T) (hb : Below w.heap.size w w') : OwnL B w' v T := ⟨ownsRow_kept h.out hb⟩
theorem Tryz.infoLine : (Tryz.prog.info? 64).map (fun i => (i.zero, i.size, i.bytes)) = some (some (.agg #[.string ⟨#[]⟩, .string ⟨#[]⟩, .int .u32 0]), 3, 40) := by kernel_rfl
theorem Tryz.infoLineG : (Tryz.prog.info? 31).map (fun i => (i.zero, i.size, i.bytes)) = some (some (.agg #[.string ⟨#[]⟩, .string ⟨#[]⟩, .int .i64 0]), 3, 40) := by kernel_rfl
end Go.Proofs.Pw

namespace Go.Proofs.Pw
open Go.RowKit
open Go.Lib hiding intOf
theorem wrap63 (k : Nat) (h : k < 9223372036854775808) : IntKind.i64.wrap (k : Int) = (k : Int) := by
  simp [IntKind.wrap, IntKind.bits, IntKind.signed]; omega
theorem i64_xor32 {a b : Nat} (ha : a < 4294967296) (hb : b < 4294967296) : bits .xor .i64 (a : Int) (b : Int) = ((a ^^^ b : Nat) : Int) := by
  have hx := xor_32 ha hb
  have h1 : (BitVec.ofInt 64 (a : Int)).toNat = a := by
    rw [BitVec.ofInt_natCast, BitVec.toNat_ofNat]; exact Nat.mod_eq_of_lt (by omega)
  have h2 : (BitVec.ofInt 64 (b : Int)).toNat = b := by
    rw [BitVec.ofInt_natCast, BitVec.toNat_ofNat]; exact Nat.mod_eq_of_lt (by omega)
  show IntKind.i64.wrap ((BitVec.ofInt 64 (a : Int) ^^^ BitVec.ofInt 64 (b : Int)).toNat : Int) = _
  rw [BitVec.toNat_xor, h1, h2]
  exact wrap63 _ (by omega)
theorem wrap_u32_nat (n : Nat) (h : n < 4294967296) : IntKind.u32.wrap (n : Int) = (n : Int) := by
  rw [IntKind.wrap_u32']
  omega
theorem u32_byte (b : UInt8) : IntKind.u32.wrap ((b.toNat : Nat) : Int) = ((b.toNat : Nat) : Int) := by
  have := b.toNat_lt
  rw [IntKind.wrap_u32']
  omega
set_option maxHeartbeats 4000000 in
set_option maxRecDepth 100000 in
theorem crc_calls (s : ByteArray) (w : World) (hs : s.size ≤ 4000000000000) :
    Calls Tryz.prog 53 #[.string s] w fun e w' => e = .returned (.int .u32 (crcF s.data.toList : Nat)) ∧ w = w' := by
  go_enter Tryz.func53, Tryz.ntmps53
  go_wp2_with fail
  go_loop [3, 7] (fun c i => ∃ (k C : Nat), k ≤ s.size ∧ i = .int .i64 k ∧ c = .int .u32 C ∧ Hid (C = crcRun (s.data.toList.take k))) (fun _ i => s.size - (intOf i).toNat)
  case atStart => exact ⟨0, 4294967295, Nat.zero_le _, rfl, rfl, Lib.hid rfl⟩
  case round =>
    obtain ⟨k, C, hk, rfl, rfl, HC⟩ := hrel
    by_cases hlt : k < s.size
    · have hki : (k : Int) < (s.size : Int) := by omega
      have hC32 : C < 4294967296 := by rw [HC.out]; exact crcRun_32 _
      have hub := u32_byte s[k]
      have hx := u32_xor_nat C s[k].toNat hC32 (byte_32 _)
      have hX32 := xor_32 hC32 (byte_32 s[k])
      have HN : Hid (crcRun (s.data.toList.take (k + 1)) = crcBits 8 (C ^^^ s[k].toNat)) := Lib.hid (by rw [take_snoc s k hlt, crcRun_snoc, HC.out])
      generalize C ^^^ s[k].toNat = X at hx hX32 HN
      go_wp2_with fail
      try rw [hub]
      try rw [hx]
      clear hub hx
      go_wp2_with fail
      go_loop [3, 16] (fun c i => ∃ (j D : Nat), j ≤ 8 ∧ i = .int .i64 j ∧ c = .int .u32 D ∧ Hid (D = crcBits j X)) (fun _ i => 8 - (intOf i).toNat)
      case atStart => exact ⟨0, X, Nat.zero_le _, rfl, rfl, Lib.hid rfl⟩
      case round =>
        obtain ⟨j, D, hj, rfl, rfl, HD⟩ := hrel
        by_cases hlj : j < 8
        · have hji : (j : Int) < 8 := by omega
          have hD32 : D < 4294967296 := by rw [HD.out]; exact crcBits_32 hX32 j
          have HB := Lib.hid (crcBit_u32 hD32)
          have HN2 : Hid (crcBit D = crcBits (j + 1) X) := Lib.hid (by rw [HD.out]; rfl)
          go_wp2_with fail
          go_round
          case rel => exact ⟨j + 1, crcBit D, by omega, by go_num, by rw [← HB.out]; rfl, HN2⟩
          case measure => simp [intOf]; omega
        · obtain rfl : j = 8 := by omega
          go_wp2_with fail
          go_round
          case rel => exact ⟨k + 1, D, by omega, by go_num, rfl, Lib.hid (by rw [HN.out, HD.out])⟩
          case measure => simp [intOf]; omega
    · obtain rfl : k = s.size := by omega
      have hC32 : C < 4294967296 := by rw [HC.out]; exact crcRun_32 _
      have HF : Hid (bits .xor .u32 IntKind.u32.max (C : Int) = ((crcF s.data.toList : Nat) : Int)) := Lib.hid (by
        rw [show IntKind.u32.max = ((4294967295 : Nat) : Int) from rfl, u32_xor_nat _ _ (by decide) hC32, HC.out, take_size, Nat.xor_comm]; rfl)
      go_wp2_with fail
      all_goals
        first
        | exact absurd ‹IntKind.u32.signed = true› (by decide)
        | (go_ret
           refine ⟨?_, rfl⟩
           rw [← HF.out]
           rfl)
set_option maxHeartbeats 4000000 in
set_option maxRecDepth 100000 in
theorem refCrc_calls (s : ByteArray) (w : World) (hs : s.size ≤ 4000000000000) :
    Calls Tryz.prog 51 #[.string s] w fun e w' => e = .returned (.int .i64 (crcF s.data.toList : Nat)) ∧ w = w' := by
  go_enter Tryz.func51, Tryz.ntmps51
  go_wp2_with fail
  go_loop [3, 4] (fun c i => ∃ (k C : Nat), k ≤ s.size ∧ i = .int .i64 k ∧ c = .int .i64 C ∧ Hid (C = crcRun (s.data.toList.take k))) (fun _ i => s.size - (intOf i).toNat)
  case atStart => exact ⟨0, 4294967295, Nat.zero_le _, rfl, rfl, Lib.hid rfl⟩
  case round =>
    obtain ⟨k, C, hk, rfl, rfl, HC⟩ := hrel
    by_cases hlt : k < s.size
    · have hki : (k : Int) < (s.size : Int) := by omega
      have hC32 : C < 4294967296 := by rw [HC.out]; exact crcRun_32 _
      have hx := i64_xor32 (b := s[k].toNat) hC32 (byte_32 _)
      have hub : RowKit.wrap64 ((s[k].toNat : Nat) : Int) = ((s[k].toNat : Nat) : Int) := by
        have := byte_32 s[k]
        unfold RowKit.wrap64
        omega
      have hX32 := xor_32 hC32 (byte_32 s[k])
      have HN : Hid (crcRun (s.data.toList.take (k + 1)) = crcBits 8 (C ^^^ s[k].toNat)) := Lib.hid (by rw [take_snoc s k hlt, crcRun_snoc, HC.out])
      generalize C ^^^ s[k].toNat = X at hx hX32 HN
      go_wp2_with fail
      try rw [hub]
      try rw [hx]
      clear hx hub
      go_wp2_with fail
      go_loop [3, 5] (fun c i => ∃ (j D : Nat), j ≤ 8 ∧ i = .int .i64 j ∧ c = .int .i64 D ∧ Hid (D = crcBits j X)) (fun _ i => 8 - (intOf i).toNat)
      case atStart => exact ⟨0, X, Nat.zero_le _, rfl, rfl, Lib.hid rfl⟩
      case round =>
        obtain ⟨j, D, hj, rfl, rfl, HD⟩ := hrel
        by_cases hlj : j < 8
        · have hji : (j : Int) < 8 := by omega
          have hD32 : D < 4294967296 := by rw [HD.out]; exact crcBits_32 hX32 j
          have hm : (D : Int) % 2 = ((D % 2 : Nat) : Int) := by omega
          have hd : (D : Int) / 2 = ((D / 2 : Nat) : Int) := by omega
          have HN2 : Hid (crcBit D = crcBits (j + 1) X) := Lib.hid (by rw [HD.out]; rfl)
          by_cases h1 : D % 2 = 1
          · have hq : ((D : Int) % 2 == 1) = true := by rw [hm, h1]; rfl
            have HE : Hid (bits .xor .i64 ((D : Int) / 2) 3988292384 = ((crcBit D : Nat) : Int)) := Lib.hid (by
              rw [hd, show (3988292384 : Int) = ((3988292384 : Nat) : Int) from rfl, i64_xor32 (by omega) (by decide)]
              unfold crcBit; rw [if_pos h1])
            clear hm hd h1
            go_wp2_with fail
            go_round
            case rel => exact ⟨j + 1, crcBit D, by omega, by go_num, by rw [← HE.out], HN2⟩
            case measure => simp [intOf]; omega
          · have hq : ((D : Int) % 2 == 1) = false := by rw [hm]; exact beq_eq_false_iff_ne.2 (by omega)
            have HE : Hid ((D : Int) / 2 = ((crcBit D : Nat) : Int)) := Lib.hid (by
              rw [hd]; unfold crcBit; rw [if_neg h1])
            clear hm hd h1
            go_wp2_with fail
            go_round
            case rel => exact ⟨j + 1, crcBit D, by omega, by go_num, by rw [← HE.out], HN2⟩
            case measure => simp [intOf]; omega
        · obtain rfl : j = 8 := by omega
          go_wp2_with fail
          go_round
          case rel => exact ⟨k + 1, D, by omega, by go_num, rfl, Lib.hid (by rw [HN.out, HD.out])⟩
          case measure => simp [intOf]; omega
    · obtain rfl : k = s.size := by omega
      have hC32 : C < 4294967296 := by rw [HC.out]; exact crcRun_32 _
      have HF : Hid (bits .xor .i64 (C : Int) 4294967295 = ((crcF s.data.toList : Nat) : Int)) := Lib.hid (by
        rw [show (4294967295 : Int) = ((4294967295 : Nat) : Int) from rfl, i64_xor32 hC32 (by decide), HC.out, take_size]; rfl)
      go_wp2_with fail
      go_ret
      refine ⟨?_, rfl⟩
      rw [← HF.out]
      rfl
end Go.Proofs.Pw
