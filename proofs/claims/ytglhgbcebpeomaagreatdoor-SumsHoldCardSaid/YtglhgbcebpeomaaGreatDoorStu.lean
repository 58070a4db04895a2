/- St: walks and plain laws, joined: SumText SumSame ModOrd. Conditions: at each theorem. -/
import Derived.Test.YtglhgbcebpeomaaGreatDoorSto
import Derived.Test.YtglhgbcebpeomaaGreatDoorStq
import Derived.Test.YtglhgbcebpeomaaGreatDoorStj
import Derived.Test.YtglhgbcebpeomaaGreatDoorStt
import Derived.Test.YtglhgbcebpeomaaGreatDoorStk
import Derived.Test.YtglhgbcebpeomaaGreatDoorSts
import Derived.Deep.RegionHeld2
import Derived.Deep.Upon
import Derived.Stop.IfaceNil
import Derived.Test.YtglhgbcebpeomaaGreatDoorStb
import Derived.Test.YtglhgbcebpeomaaGreatDoorStr

namespace Go.Proofs.Pw
open Go.RowKit
open Go.Lib hiding intOf
theorem excF {n : Nat} {P V : Nat → ByteArray} {S : Nat → Nat} {k : Nat} (h : k < n) : excE (mdsOf (lnF n P V S)) k = if modErr (P k).data.toList (V k).data.toList ≠ 0 then modErr (P k).data.toList (V k).data.toList else if 0 < k ∧ modAhead ((P (k - 1)).data.toList, (V (k - 1)).data.toList) ((P k).data.toList, (V k).data.toList) = false then 8 else 0 := by
  unfold excE
  rw [mdsOf_at, mdsOf_at, lnAt_lnF h, lnAt_lnF (show k - 1 < n by omega)]
  rfl
theorem lnsTxt_F {n : Nat} {P V : Nat → ByteArray} {S : Nat → Nat} {k : Nat} (h : k < n) : lnsTxt ((lnF n P V S).take (k + 1)) = lnsTxt ((lnF n P V S).take k) ++ lnTxt (((P k).data.toList, (V k).data.toList), S k) := by
  rw [lnF_take_succ n P V S k h, lnsTxt_snoc]
theorem decDigits_len20 {u : Nat} (h : u < 18446744073709551616) : (Lib.decDigits u).length ≤ 20 := by
  rw [Lib.decDigits_length]
  by_cases h0 : u = 0
  · subst h0
    rw [Lib.nDigits_small (by decide)]
    decide
  · have := Lib.numDigits_eq u (by omega) h
    split at this <;> omega
theorem lnTxt_len {x : Ln} (h : x.1.1.length ≤ 1000000 ∧ x.1.2.length ≤ 1000000 ∧ x.2 < 4294967296) : (lnTxt x).length ≤ 2000023 := by
  unfold lnTxt
  have := decDigits_len20 (u := x.2) (by omega)
  simp only [List.length_append, List.length_cons, List.length_nil]
  omega
theorem lnsTxt_len : ∀ l : List Ln, (∀ x ∈ l, x.1.1.length ≤ 1000000 ∧ x.1.2.length ≤ 1000000 ∧ x.2 < 4294967296) → (lnsTxt l).length ≤ l.length * 2000023
  | [], _ => Nat.zero_le _
  | m :: r, h => by
    have ih := lnsTxt_len r (fun x hx => h x (by simp [hx]))
    have h1 := lnTxt_len (h m (by simp))
    have e : (lnsTxt (m :: r)).length = (lnTxt m).length + (lnsTxt r).length := by
      show (lnTxt m ++ lnsTxt r).length = _
      rw [List.length_append]
    rw [e, List.length_cons, Nat.add_mul, Nat.one_mul]
    omega
structure LnOk (l : List Ln) : Prop where
  len : l.length ≤ 1000
  at_ : ∀ x ∈ l, x.1.1.length ≤ 1000000 ∧ x.1.2.length ≤ 1000000 ∧ x.2 < 4294967296
theorem LnOk.txt {l : List Ln} (h : LnOk l) (k : Nat) : (lnsTxt (l.take k)).length ≤ 2000023000 := by
  have h1 := lnsTxt_len (l.take k) fun x hx => h.at_ x (List.mem_of_mem_take hx)
  have h2 : (l.take k).length ≤ 1000 := by rw [List.length_take]; have := h.len; omega
  have := Nat.mul_le_mul_right 2000023 h2
  omega
theorem LnOk.pl {n : Nat} {P V : Nat → ByteArray} {S : Nat → Nat} (h : LnOk (lnF n P V S)) {j : Nat} (hj : j < n) : (P j).size ≤ 1000000 ∧ (V j).size ≤ 1000000 ∧ S j < 4294967296 := by
  have := h.at_ _ (List.mem_of_getElem? (lnF_get n P V S j hj))
  rw [size_eq, size_eq]; exact this
structure LnO (w : World) (b : Nat) (p v : ByteArray) (s : Int) : Prop where
  blk : w.heap[b]? = some (.cells #[.string p, .string v, .int .u32 s] 64 (0, 0))
theorem LnO.below {w w' : World} {b : Nat} {p v : ByteArray} {s : Int} (h : LnO w b p v s) (hb : Below w.heap.size w w') : LnO w' b p v s := ⟨Below.row_same hb h.blk⟩
theorem LnO.others {w w' : World} {b c : Nat} {p v : ByteArray} {s : Int} (h : LnO w b p v s) (hk : Lib.OthersKept 5 (some c) w w') (hne : b ≠ c) : LnO w' b p v s := ⟨hk b _ h.blk (fun e => hne (Option.some.inj e)) (fun cs fz e => by injection e with _ e _; exact absurd e (by decide))⟩
theorem LnO.cells {w : World} {b : Nat} {p v : ByteArray} {s : Int} (h : LnO w b p v s) : w.cell? ⟨b, 0, none⟩ = some (.string p) ∧ w.cell? ⟨b, 1, none⟩ = some (.string v) ∧ w.cell? ⟨b, 2, none⟩ = some (.int .u32 s) := ⟨by rw [cell_of_row w b 0 _ _ (0, 0) h.blk]; rfl, by rw [cell_of_row w b 1 _ _ (0, 0) h.blk]; rfl, by rw [cell_of_row w b 2 _ _ (0, 0) h.blk]; rfl⟩
theorem lnO_alloc (w : World) (p v : ByteArray) (s : Int) : LnO (w.alloc (.cells #[.string p, .string v, .int .u32 s] 64)) w.heap.size p v s := ⟨Go.Deep.blk_alloc_new w _⟩
theorem wrap_u64_nat (n : Nat) (h : n < 18446744073709551616) : IntKind.u64.wrap (n : Int) = (n : Int) := by
  rw [IntKind.wrap_u64]
  omega
set_option maxHeartbeats 8000000 in
set_option maxRecDepth 100000 in
theorem sumsText_calls (ks : List Nat) (A : Nat → Addr) (hks : IdxKs ks) (v : Value) (l : List Ln) (w : World) (hE : EnvP ks A w) (h : LnsAt .u32 w v l) (hok : LnOk l) :
    Calls Tryz.prog 20 #[v] w fun e w' => (∃ ev, e = .returned (.tuple #[.string ⟨(linesTxt l).toArray⟩, ev]) ∧ FaultAt A w' ev (linesErr l)) ∧ Below w.heap.size w w' := by
  obtain ⟨a, n, cap, P, V, S, rfl, rfl, hin⟩ := h
  have H := Lib.hid hin
  have HOK := Lib.hid hok
  have hn : n ≤ 1000 := by have := hok.len; rwa [lnF_length] at this
  have HFE : Hid (linesErr (lnF n P V S) = firstE (excE (mdsOf (lnF n P V S))) n) := Lib.hid (by unfold linesErr; rw [lnF_length])
  have HTX : Hid (linesTxt (lnF n P V S) = if (linesErr (lnF n P V S)).1 = 0 then lnsTxt (lnF n P V S) else []) := Lib.hid rfl
  have hck := fun p v W hW h1 h2 => modCheck_calls ks A hks.2.1 p v W hW h1 h2
  have hah := fun p v q u W hW h1 h2 => modAhead_calls ks A p v q u W hW h1 h2
  have hba0 := bF_new w
  have hB0 := below_alloc w (.cells #[.pointer none, .slice none 0 0] 100)
  replace hck := Lib.hid hck
  replace hah := Lib.hid hah
  clear hin hok
  go_enter Tryz.func20, Tryz.ntmps20
  go_wp2_with fail
  go_loopw [10] (fun i wr => ∃ k : Nat, k ≤ n ∧ i = .int .i64 k ∧ BF w.heap.size w.heap.size (lnsTxt ((lnF n P V S).take k)) wr ∧ Below w.heap.size w wr ∧ Hid (∀ j, j < k → excE (mdsOf (lnF n P V S)) j = 0)) (fun i _ => n - (intOf i).toNat)
  case atStart => exact ⟨0, Nat.zero_le _, rfl, by rw [List.take_zero]; exact hba0, hB0, Lib.hid (fun j hj => absurd hj (Nat.not_lt_zero _))⟩
  case round =>
    obtain ⟨k, hk, rfl, hbr, hBr, HA⟩ := hrel
    clear hba0 hB0
    by_cases hlt : k < n
    · have hkn : (k : Int) < (n : Int) := by omega
      obtain ⟨b1, o1, ea, hc⟩ := H.out.at_ k hlt
      obtain ⟨c0, c1, c2⟩ := hc.below hBr
      have hps := HOK.out.pl hlt
      have hR := excF (P := P) (V := V) (S := S) hlt
      have hba := below_alloc wr (.cells #[.string (P k), .string (V k), .int .u32 (S k)] 64)
      have hx := lnO_alloc wr (P k) (V k) (S k : Nat)
      have hbxn : wr.heap.size ≠ w.heap.size := by have := hbr.lt; omega
      have hB2 := below_step hBr hba
      have hb2 := hbr.below hba
      have hc1 := hck.out (P k) (V k) _ (hE.below hB2) (by omega) (by omega)
      have hbase := hBr.size
      obtain ⟨E, hEE⟩ : ∃ E, modErr (P k).data.toList (V k).data.toList = E := ⟨_, rfl⟩
      rw [hEE] at hR hc1
      have hcc := fun W (hb : Below w.heap.size w W) (j : Nat) (hj : j < n) => (H.out.below hb).at_ j hj
      have HCC := Lib.hid hcc
      subst ea
      clear hEE hba hbr hc hcc
      obtain ⟨x0, x1, x2⟩ := hx.cells
      by_cases h0 : E = 0
      · subst h0
        rw [errV_zero] at hc1
        rw [if_neg (by simp)] at hR
        by_cases hk0 : k = 0
        · have hkz : ¬ (0 : Int) < (k : Int) := by omega
          rw [if_neg (fun h => by omega)] at hR
          have HN : Hid (∀ j, j < k + 1 → excE (mdsOf (lnF n P V S)) j = 0) := Lib.hid (fun j hj => by
            obtain rfl : j = k := by omega
            exact hR)
          replace hc1 := Lib.hid hc1
          clear hR hk0
          go_wp2_with fail
          refine hc1.out.mono ?_
          rintro e w3 ⟨rfl, hb⟩
          replace hB2 := below_step hB2 hb
          replace hb2 := hb2.below hb
          replace hx := hx.below hb
          clear hb hc1 c0 c1 c2 x0 x1 x2
          go_wp2_with fail
          have hd1 : decide ((0 : Int) < (k : Int)) = false := decide_eq_false (by omega)
          have hd2 : decide (0 < k) = false := decide_eq_false (by omega)
          refine wp_region_quiet_patch (by kernel_rfl) (by kernel_rfl) ?_
          repeat (go_big_quiet_step (fail))
          refine wpQuiet_nil ?_
          intro _ hw'
          obtain ⟨⟨dq, osq⟩, hw''⟩ := hw'
          subst hw''
          have hb := below_patch w3 dq osq
          replace hB2 := below_step hB2 hb
          replace hb2 := hb2.below hb
          replace hx := hx.below hb
          clear hb
          generalize patch w3 dq osq = w4 at hB2 hb2 hx ⊢
          go_wp2_with fail
          have hB4 := hB2
          have hba4 := hb2
          have hx4 := hx
          have hE4 := hE.below hB4
          generalize wr.heap.size = bx at *
          clear hB2 hb2 hx
          have hfm := fun W (hb : Below w4.heap.size w4 W) => fmtUint_calls ks A (S k) (by have := hps.2.2; omega) W (hE4.below hb)
          obtain ⟨D, hD⟩ : ∃ D : ByteArray, (⟨(Lib.decDigits (S k)).toArray⟩ : ByteArray) = D := ⟨_, rfl⟩
          have hDd : D.data.toList = Lib.decDigits (S k) := by rw [← hD]
          have hDs : D.size ≤ 20 := by rw [size_eq, hDd]; exact decDigits_len20 (by have := hps.2.2; omega)
          rw [hD] at hfm
          have htx := HOK.out.txt k
          have hws := fun W (hb : Below w4.heap.size w4 W) => writeK_calls w.heap.size w.heap.size _ (P k ++ ⟨#[32]⟩ ++ V k ++ ⟨#[32]⟩ ++ D ++ ⟨#[10]⟩) W (hba4.below hb) (by rw [app_size, app_size, app_size, app_size, app_size]; show _ + (_ + 1 + _ + 1 + _ + 1) ≤ _; omega) (by have := hb.size; have := hB4.size; omega)
          rw [show lnsTxt ((lnF n P V S).take k) ++ (P k ++ ⟨#[32]⟩ ++ V k ++ ⟨#[32]⟩ ++ D ++ (⟨#[10]⟩ : ByteArray)).data.toList = lnsTxt ((lnF n P V S).take (k + 1)) by
            rw [lnsTxt_F hlt]
            congr 1
            rw [app_by, app_by, app_by, app_by, app_by, hDd]
            rfl] at hws
          have hwu := wrap_u64_nat (S k) (by have := hps.2.2; omega)
          have hq1 : ¬ 9223372036854775807 < (P k).size + 1 := by omega
          have hq2 : ¬ 9223372036854775807 < (P k).size + 1 + (V k).size := by omega
          have hq3 : ¬ 9223372036854775807 < (P k).size + 1 + (V k).size + 1 := by omega
          have hq4 : ¬ 9223372036854775807 < (P k).size + 1 + (V k).size + 1 + D.size := by omega
          have hq5 : ¬ 9223372036854775807 < (P k).size + 1 + (V k).size + 1 + D.size + 1 := by omega
          have HX4 := Lib.hid hx4
          have hbW := (Below.refl w4.heap.size w4).drew
          replace hfm := Lib.hid hfm
          replace hws := Lib.hid hws
          clear hba4 htx hD hDd hx4 HA
          go_region_held2 (fun W => W.cell? ⟨bx, 0, none⟩ = some (.string (P k)) ∧ W.cell? ⟨bx, 1, none⟩ = some (.string (V k)) ∧ W.cell? ⟨bx, 2, none⟩ = some (.int .u32 (S k))) (first
            | exact hX9
            | exact (HX4.out.below hbW).cells) (first
            | (go_at_call 64; refine (hfm.out _ hbW).mono ?_; rintro e w7 ⟨rfl, hb7⟩; replace hbW := below_step hbW hb7)
            | (go_at_call 52; refine (hws.out _ hbW).mono ?_; rintro e w9 ⟨rfl, hba9, hb9, hok9⟩; have hX9 := ((HX4.out.below hbW).others hok9 hbxn).cells))
          all_goals
            have hB9 := (hB4.trans (hbW.mono hB4.size)).trans hb9
            go_wp2_with fail
            go_roundw
            case rel => exact ⟨k + 1, by omega, by go_num, hba9, hB9, HN⟩
            case measure => simp [intOf]; omega
        · obtain ⟨i, hki⟩ : ∃ i, k = i + 1 := ⟨k - 1, by omega⟩
          have hin : i < n := by omega
          obtain ⟨b2, o2, eb, hc2⟩ := HCC.out _ hB2 i hin
          injection eb with eb
          injection eb with eb1 eb2
          subst eb1 eb2
          obtain ⟨d0, d1, d2⟩ := hc2
          have hps2 := HOK.out.pl hin
          rw [show k - 1 = i by omega] at hR
          have hk0' : (0 : Int) < (k : Int) := by omega
          have hkw : IntKind.i64.wrap ((k : Int) - 1) = (i : Int) := by rw [show (k : Int) - 1 = (i : Int) by omega]; exact wrap_nat i (by omega)
          have hkn2 : (i : Int) < (n : Int) := by omega
          have hah1 := fun W hW => hah.out (P i) (V i) (P k) (V k) W hW (by omega) (by omega)
          have HX0 : Hid (0 < k) := Lib.hid (by omega)
          clear hki hk0 hps2
          cases hX : modAhead ((P i).data.toList, (V i).data.toList) ((P k).data.toList, (V k).data.toList) with
          | true =>
            rw [hX] at hah1 hR
            rw [if_neg (fun h => by cases h.2)] at hR
            have HN : Hid (∀ j, j < k + 1 → excE (mdsOf (lnF n P V S)) j = 0) := Lib.hid (fun j hj => by
              by_cases e : j = k
              · subst e; exact hR
              · exact HA.out j (by omega))
            replace hc1 := Lib.hid hc1
            replace hah1 := Lib.hid hah1
            clear hR hX
            go_wp2_with fail
            refine hc1.out.mono ?_
            rintro e w3 ⟨rfl, hb⟩
            replace hB2 := below_step hB2 hb
            replace hb2 := hb2.below hb
            replace hx := hx.below hb
            replace d0 := Below.cell_some hb d0
            replace d1 := Below.cell_some hb d1
            clear hb hc1 c0 c1 c2 x0 x1 x2 d2
            obtain ⟨x0, x1, x2⟩ := hx.cells
            have hE3 := hE.below hB2
            have kE := Lib.hid (fun d os => hE3.below (below_patch w3 d os))
            go_wp2_with fail
            have hd1 : decide ((0 : Int) < (k : Int)) = true := decide_eq_true (by omega)
            have hd2 : decide (0 < k) = true := decide_eq_true (by omega)
            have kqx0 := fun d os => cell_patch (d := d) (os := os) x0
            have kqx1 := fun d os => cell_patch (d := d) (os := os) x1
            have kqd0 := fun d os => cell_patch (d := d) (os := os) d0
            have kqd1 := fun d os => cell_patch (d := d) (os := os) d1
            refine wp_region_quiet_patch (by kernel_rfl) (by kernel_rfl) ?_
            repeat (go_big_quiet_step ((go_at_call 63; with_reducible exact Calls.patch_of (hah1.out _ (kE.out _ _)))))
            refine wpQuiet_nil ?_
            intro _ hw'
            obtain ⟨⟨dq, osq⟩, hw''⟩ := hw'
            subst hw''
            clear kqx0 kqx1 kqd0 kqd1
            have hb := below_patch w3 dq osq
            replace hB2 := below_step hB2 hb
            replace hb2 := hb2.below hb
            replace hx := hx.below hb
            clear hb
            generalize patch w3 dq osq = w4 at hB2 hb2 hx ⊢
            clear x0 x1 x2 d0 d1 kE
            go_wp2_with fail
            have hB4 := hB2
            have hba4 := hb2
            have hx4 := hx
            have hE4 := hE.below hB4
            generalize wr.heap.size = bx at *
            clear hB2 hb2 hx hE3 hkw hkn2 hk0' hah1
            have hfm := fun W (hb : Below w4.heap.size w4 W) => fmtUint_calls ks A (S k) (by have := hps.2.2; omega) W (hE4.below hb)
            obtain ⟨D, hD⟩ : ∃ D : ByteArray, (⟨(Lib.decDigits (S k)).toArray⟩ : ByteArray) = D := ⟨_, rfl⟩
            have hDd : D.data.toList = Lib.decDigits (S k) := by rw [← hD]
            have hDs : D.size ≤ 20 := by rw [size_eq, hDd]; exact decDigits_len20 (by have := hps.2.2; omega)
            rw [hD] at hfm
            have htx := HOK.out.txt k
            have hws := fun W (hb : Below w4.heap.size w4 W) => writeK_calls w.heap.size w.heap.size _ (P k ++ ⟨#[32]⟩ ++ V k ++ ⟨#[32]⟩ ++ D ++ ⟨#[10]⟩) W (hba4.below hb) (by rw [app_size, app_size, app_size, app_size, app_size]; show _ + (_ + 1 + _ + 1 + _ + 1) ≤ _; omega) (by have := hb.size; have := hB4.size; omega)
            rw [show lnsTxt ((lnF n P V S).take k) ++ (P k ++ ⟨#[32]⟩ ++ V k ++ ⟨#[32]⟩ ++ D ++ (⟨#[10]⟩ : ByteArray)).data.toList = lnsTxt ((lnF n P V S).take (k + 1)) by
              rw [lnsTxt_F hlt]
              congr 1
              rw [app_by, app_by, app_by, app_by, app_by, hDd]
              rfl] at hws
            have hwu := wrap_u64_nat (S k) (by have := hps.2.2; omega)
            have hq1 : ¬ 9223372036854775807 < (P k).size + 1 := by omega
            have hq2 : ¬ 9223372036854775807 < (P k).size + 1 + (V k).size := by omega
            have hq3 : ¬ 9223372036854775807 < (P k).size + 1 + (V k).size + 1 := by omega
            have hq4 : ¬ 9223372036854775807 < (P k).size + 1 + (V k).size + 1 + D.size := by omega
            have hq5 : ¬ 9223372036854775807 < (P k).size + 1 + (V k).size + 1 + D.size + 1 := by omega
            have HX4 := Lib.hid hx4
            have hbW := (Below.refl w4.heap.size w4).drew
            replace hfm := Lib.hid hfm
            replace hws := Lib.hid hws
            clear hba4 htx hD hDd hx4 HA
            go_region_held2 (fun W => W.cell? ⟨bx, 0, none⟩ = some (.string (P k)) ∧ W.cell? ⟨bx, 1, none⟩ = some (.string (V k)) ∧ W.cell? ⟨bx, 2, none⟩ = some (.int .u32 (S k))) (first
              | exact hX9
              | exact (HX4.out.below hbW).cells) (first
              | (go_at_call 64; refine (hfm.out _ hbW).mono ?_; rintro e w7 ⟨rfl, hb7⟩; replace hbW := below_step hbW hb7)
              | (go_at_call 52; refine (hws.out _ hbW).mono ?_; rintro e w9 ⟨rfl, hba9, hb9, hok9⟩; have hX9 := ((HX4.out.below hbW).others hok9 hbxn).cells))
            all_goals
              have hB9 := (hB4.trans (hbW.mono hB4.size)).trans hb9
              go_wp2_with fail
              go_roundw
              case rel => exact ⟨k + 1, by omega, by go_num, hba9, hB9, HN⟩
              case measure => simp [intOf]; omega
          | false =>
            rw [hX] at hah1 hR
            rw [if_pos ⟨HX0.out, rfl⟩] at hR
            have HF : Hid (linesTxt (lnF n P V S) = [] ∧ linesErr (lnF n P V S) = (8, ((k : Nat) : Int))) := Lib.hid (by
              have h1 : linesErr (lnF n P V S) = (8, ((k : Nat) : Int)) := by rw [HFE.out, firstE_hit (by rw [hR]; decide) HA.out hlt, hR]
              exact ⟨by rw [HTX.out, h1]; rfl, h1⟩)
            replace hc1 := Lib.hid hc1
            replace hah1 := Lib.hid hah1
            clear hR hX
            go_wp2_with fail
            refine hc1.out.mono ?_
            rintro e w3 ⟨rfl, hb⟩
            replace hB2 := below_step hB2 hb
            replace hx := hx.below hb
            replace d0 := Below.cell_some hb d0
            replace d1 := Below.cell_some hb d1
            clear hb hc1 c0 c1 c2 x0 x1 x2 d2 hb2
            obtain ⟨x0, x1, x2⟩ := hx.cells
            have hE3 := hE.below hB2
            have kE := Lib.hid (fun d os => hE3.below (below_patch w3 d os))
            go_wp2_with fail
            have hd1 : decide ((0 : Int) < (k : Int)) = true := decide_eq_true (by omega)
            have hd2 : decide (0 < k) = true := decide_eq_true (by omega)
            have kqx0 := fun d os => cell_patch (d := d) (os := os) x0
            have kqx1 := fun d os => cell_patch (d := d) (os := os) x1
            have kqd0 := fun d os => cell_patch (d := d) (os := os) d0
            have kqd1 := fun d os => cell_patch (d := d) (os := os) d1
            refine wp_region_quiet_patch (by kernel_rfl) (by kernel_rfl) ?_
            repeat (go_big_quiet_step ((go_at_call 63; with_reducible exact Calls.patch_of (hah1.out _ (kE.out _ _)))))
            refine wpQuiet_nil ?_
            intro _ hw'
            obtain ⟨⟨dq, osq⟩, hw''⟩ := hw'
            subst hw''
            clear kqx0 kqx1 kqd0 kqd1
            have hb := below_patch w3 dq osq
            replace hB2 := below_step hB2 hb
            clear hb
            generalize patch w3 dq osq = w4 at hB2 ⊢
            clear x0 x1 x2 d0 d1 kE hx
            have g8 := (hE.below hB2).errs.var 8 hks.2.2.2.2
            simp only [errG] at g8
            go_wp2_with fail
            go_ret2
            rw [HF.out.1, HF.out.2]
            refine ⟨⟨_, rfl, .inr (.inr ⟨(show (8 : Nat) ≠ 0 by decide), w4.heap.size, rfl, by simp, ?_⟩)⟩, hB2.alloc hB2.size _⟩
            show _ = some (errV A 8)
            rw [errV_pos A (show (8 : Nat) ≠ 0 by decide)]
            simp
      · rw [errV_pos A h0] at hc1
        rw [if_pos h0] at hR
        have HF : Hid (linesTxt (lnF n P V S) = [] ∧ linesErr (lnF n P V S) = (E, (k : Int))) := Lib.hid (by
          have h1 : linesErr (lnF n P V S) = (E, (k : Int)) := by rw [HFE.out, firstE_hit (by rw [hR]; exact h0) HA.out hlt, hR]
          exact ⟨by rw [HTX.out, h1, if_neg h0], h1⟩)
        have H0 := Lib.hid h0
        replace hc1 := Lib.hid hc1
        clear hR hb2 h0
        go_wp2_with fail
        refine hc1.out.mono ?_
        rintro e w3 ⟨rfl, hb⟩
        replace hB2 := below_step hB2 hb
        clear hb hc1 c0 c1 c2 x0 x1 x2 hx
        go_wp2_with fail
        refine wp_region_quiet_patch (by kernel_rfl) (by kernel_rfl) ?_
        repeat (go_big_quiet_step (fail))
        refine wpQuiet_nil ?_
        intro _ hw'
        obtain ⟨⟨dq, osq⟩, hw''⟩ := hw'
        subst hw''
        have hb := below_patch w3 dq osq
        replace hB2 := below_step hB2 hb
        clear hb
        generalize patch w3 dq osq = w4 at hB2 ⊢
        go_wp2_with fail
        go_ret2
        rw [HF.out.1, HF.out.2]
        refine ⟨⟨_, rfl, .inr (.inr ⟨H0.out, w4.heap.size, rfl, by simp, ?_⟩)⟩, hB2.alloc hB2.size _⟩
        show _ = some (errV A E)
        rw [errV_pos A H0.out]
        simp
    · obtain rfl : k = n := by omega
      have hkn : ¬ (k : Int) < (k : Int) := by omega
      have HF : Hid (linesErr (lnF k P V S) = (0, -1)) := Lib.hid (by rw [HFE.out, firstE_none HA.out])
      have HT : Hid (linesTxt (lnF k P V S) = lnsTxt (lnF k P V S)) := Lib.hid (by rw [HTX.out, HF.out]; rfl)
      rw [List.take_of_length_le (by rw [lnF_length]; exact Nat.le_refl _)] at hbr
      have hst := stringF_calls w.heap.size w.heap.size _ wr hbr hBr.size
      replace hst := Lib.hid hst
      clear hbr hlt hk HA
      go_wp2_with fail
      refine hst.out.mono ?_
      rintro e w3 ⟨rfl, hb⟩
      replace hBr := hBr.trans hb
      clear hst hb
      go_wp2_with fail
      go_ret2
      rw [HF.out, HT.out]
      exact ⟨⟨_, rfl, .inl ⟨rfl, rfl, rfl⟩⟩, hBr⟩
end Go.Proofs.Pw

namespace Go.Proofs.Pw
open Go.RowKit
open Go.Lib hiding intOf
theorem lnF_ext {n : Nat} {P V Q U : Nat → ByteArray} {S T : Nat → Nat} : lnF n P V S = lnF n Q U T ↔ ∀ j, j < n → (P j = Q j ∧ V j = U j) ∧ S j = T j := by
  simp [lnF, ByteArray.ext_iff]
set_option maxHeartbeats 4000000 in
set_option maxRecDepth 100000 in
theorem sameLines_calls (v u : Value) (l m : List Ln) (w : World) (h : LnsAt .u32 w v l) (g : LnsAt .i64 w u m) (hl : ∀ x ∈ l, x.2 < 4294967296) :
    Calls Tryz.prog 19 #[v, u] w fun e w' => e = .returned (.bool (decide (l = m))) ∧ Below w.heap.size w w' := by
  obtain ⟨a, n, cap, P, V, S, rfl, rfl, hin⟩ := h
  obtain ⟨a', n', cap', Q, U, T, rfl, rfl, hin'⟩ := g
  have hg := Tryz.md_guard
  have HL : Hid (∀ j, j < n → S j < 4294967296) := Lib.hid (fun j hj => hl _ (List.mem_of_getElem? (lnF_get n P V S j hj)))
  by_cases hnn : n = n'
  · subst hnn
    have hnb : n ≤ 9223372036854775807 := Nat.le_trans hin.le hin.cap
    have H1 := Lib.hid hin
    have H2 := Lib.hid hin'
    clear hin hin' hl
    go_enter Tryz.func19, Tryz.ntmps19
    go_wp2_with fail
    go_loopw [5] (fun i wr => ∃ k : Nat, k ≤ n ∧ i = .int .i64 k ∧ Below w.heap.size w wr ∧ Hid (∀ j, j < k → (P j = Q j ∧ V j = U j) ∧ S j = T j)) (fun i _ => n - (intOf i).toNat)
    case atStart => exact ⟨0, by omega, rfl, Below.refl _ _, Lib.hid (fun j hj => absurd hj (Nat.not_lt_zero _))⟩
    case round =>
      obtain ⟨k, hk, rfl, hBr, HA⟩ := hrel
      by_cases hlt : k < n
      · have hkn : (k : Int) < (n : Int) := by omega
        obtain ⟨b1, o1, rfl, hc1⟩ := H1.out.at_ k hlt
        obtain ⟨b2, o2, rfl, hc2⟩ := H2.out.at_ k hlt
        obtain ⟨d0, d1, d2⟩ := hc1.below hBr
        obtain ⟨e0, e1, e2⟩ := hc2.below hBr
        have hq := md_neq (P k) (V k) (Q k) (U k)
        have hsk := HL.out k hlt
        have hw := wrap63 (S k) (by omega)
        clear hc1 hc2
        by_cases he : P k = Q k ∧ V k = U k
        · rw [decide_eq_true he] at hq
          by_cases hs : S k = T k
          · have HN : Hid (∀ j, j < k + 1 → (P j = Q j ∧ V j = U j) ∧ S j = T j) := Lib.hid (fun j hj => by
              by_cases e : j = k
              · subst e; exact ⟨he, hs⟩
              · exact HA.out j (by omega))
            have hne : (((S k : Nat) : Int) != ((T k : Nat) : Int)) = false := by rw [hs]; simp
            clear he hs
            go_wp2_with fail
            have kqd0 := fun d os => cell_patch (d := d) (os := os) d0
            have kqd1 := fun d os => cell_patch (d := d) (os := os) d1
            have kqd2 := fun d os => cell_patch (d := d) (os := os) d2
            have kqe0 := fun d os => cell_patch (d := d) (os := os) e0
            have kqe1 := fun d os => cell_patch (d := d) (os := os) e1
            have kqe2 := fun d os => cell_patch (d := d) (os := os) e2
            refine wp_region_quiet_patch (by kernel_rfl) (by kernel_rfl) ?_
            repeat (go_big_quiet_step (fail))
            refine wpQuiet_nil ?_
            intro _ hw'
            obtain ⟨⟨dq, osq⟩, hw''⟩ := hw'
            subst hw''
            clear kqd0 kqd1 kqd2 kqe0 kqe1 kqe2
            have hb := below_patch wr dq osq
            replace hBr := below_step hBr hb
            clear hb
            generalize patch wr dq osq = w9 at hBr ⊢
            clear d0 d1 d2 e0 e1 e2
            go_wp2_with fail
            go_roundw
            case rel => exact ⟨k + 1, by omega, by go_num, hBr, HN⟩
            case measure => simp [intOf]; omega
          · have HF : Hid (decide (lnF n P V S = lnF n Q U T) = false) := Lib.hid (decide_eq_false (fun e => hs (lnF_ext.1 e k hlt).2))
            have hne : (((S k : Nat) : Int) != ((T k : Nat) : Int)) = true := by rw [bne_iff_ne]; omega
            clear he hs
            go_wp2_with fail
            have kqd0 := fun d os => cell_patch (d := d) (os := os) d0
            have kqd1 := fun d os => cell_patch (d := d) (os := os) d1
            have kqd2 := fun d os => cell_patch (d := d) (os := os) d2
            have kqe0 := fun d os => cell_patch (d := d) (os := os) e0
            have kqe1 := fun d os => cell_patch (d := d) (os := os) e1
            have kqe2 := fun d os => cell_patch (d := d) (os := os) e2
            refine wp_region_quiet_patch (by kernel_rfl) (by kernel_rfl) ?_
            repeat (go_big_quiet_step (fail))
            refine wpQuiet_nil ?_
            intro _ hw'
            obtain ⟨⟨dq, osq⟩, hw''⟩ := hw'
            subst hw''
            clear kqd0 kqd1 kqd2 kqe0 kqe1 kqe2
            have hb := below_patch wr dq osq
            replace hBr := below_step hBr hb
            clear hb
            generalize patch wr dq osq = w9 at hBr ⊢
            clear d0 d1 d2 e0 e1 e2
            go_wp2_with fail
            go_ret
            rw [HF.out]
            exact ⟨rfl, hBr⟩
        · have HF : Hid (decide (lnF n P V S = lnF n Q U T) = false) := Lib.hid (decide_eq_false (fun e => he (lnF_ext.1 e k hlt).1))
          rw [decide_eq_false he] at hq
          clear he
          go_wp2_with fail
          have kqd0 := fun d os => cell_patch (d := d) (os := os) d0
          have kqd1 := fun d os => cell_patch (d := d) (os := os) d1
          have kqd2 := fun d os => cell_patch (d := d) (os := os) d2
          have kqe0 := fun d os => cell_patch (d := d) (os := os) e0
          have kqe1 := fun d os => cell_patch (d := d) (os := os) e1
          have kqe2 := fun d os => cell_patch (d := d) (os := os) e2
          refine wp_region_quiet_patch (by kernel_rfl) (by kernel_rfl) ?_
          repeat (go_big_quiet_step (fail))
          refine wpQuiet_nil ?_
          intro _ hw'
          obtain ⟨⟨dq, osq⟩, hw''⟩ := hw'
          subst hw''
          clear kqd0 kqd1 kqd2 kqe0 kqe1 kqe2
          have hb := below_patch wr dq osq
          replace hBr := below_step hBr hb
          clear hb
          generalize patch wr dq osq = w9 at hBr ⊢
          clear d0 d1 d2 e0 e1 e2
          go_wp2_with fail
          go_ret
          rw [HF.out]
          exact ⟨rfl, hBr⟩
      · obtain rfl : k = n := by omega
        have HF : Hid (decide (lnF k P V S = lnF k Q U T) = true) := Lib.hid (decide_eq_true (lnF_ext.2 HA.out))
        have hkn : ¬ (k : Int) < (k : Int) := by omega
        go_wp2_with fail
        go_ret
        rw [HF.out]
        exact ⟨rfl, hBr⟩
  · have HF : Hid (decide (lnF n P V S = lnF n' Q U T) = false) := Lib.hid (decide_eq_false (fun e => hnn (by have := congrArg List.length e; rwa [lnF_length, lnF_length] at this)))
    have hnn2 : ((n : Int) != (n' : Int)) = true := by rw [bne_iff_ne]; omega
    clear hin hin' hnn hg hl
    go_enter Tryz.func19, Tryz.ntmps19
    go_wp2_with fail
    go_ret
    rw [HF.out]
    exact ⟨rfl, Below.refl _ _⟩
set_option maxHeartbeats 4000000 in
set_option maxRecDepth 100000 in
theorem asLines_calls (v : Value) (l : List Ln) (w : World) (h : LnsAt .i64 w v l) (hn : l.length ≤ 1000000) (hl : ∀ x ∈ l, x.2 < 4294967296) :
    Calls Tryz.prog 21 #[v] w fun e w' => (∃ v' T, e = .returned v' ∧ w'.ownsRow w.heap.size 64 3 v' T.length (lnVs .u32 T) ∧ lnTs T = l) ∧ Below w.heap.size w w' := by
  obtain ⟨i0, hi, hz0, hz1, hz2⟩ := info_parts Tryz.infoLine
  obtain ⟨a, n, cap, P, V, S, rfl, rfl, hin⟩ := h
  rw [lnF_length] at hn
  have HL : Hid (∀ j, j < n → S j < 4294967296) := Lib.hid (fun j hj => hl _ (List.mem_of_getElem? (lnF_get n P V S j hj)))
  have H := Lib.hid hin
  clear hin hl
  go_enter Tryz.func21, Tryz.ntmps21
  go_wp2_with fail
  go_loopw [3, 4] (fun o i wr => ∃ (k : Nat) (T : List LnB), k ≤ n ∧ i = .int .i64 k ∧ T.length = k ∧ Hid (wr.ownsRow w.heap.size 64 3 o T.length (lnVs .u32 T)) ∧ Hid (lnTs T = (lnF n P V S).take k) ∧ Below w.heap.size w wr) (fun _ i _ => n - (intOf i).toNat)
  case atStart => exact ⟨0, [], Nat.zero_le _, rfl, rfl, Lib.hid (World.ownsRow_nil _ _ _ _), Lib.hid rfl, Below.refl _ _⟩
  case round =>
    obtain ⟨k, T, hk, rfl, hTk, hO, hT, hBr⟩ := hrel
    obtain ⟨ao, no, co, rfl⟩ := own_form hO.out
    by_cases hlt : k < n
    · have hkn : (k : Int) < (n : Int) := by omega
      obtain ⟨b1, o1, ea, hc⟩ := H.out.at_ k hlt
      subst ea
      have HC := Lib.hid hc
      have hwu := wrap_u32_nat (S k) (HL.out k hlt)
      have HTN : Hid (lnTs (T ++ [(P k, V k, S k)]) = (lnF n P V S).take (k + 1)) := Lib.hid (by
        rw [lnTs_snoc, hT.out, lnF_take_succ n P V S k hlt])
      have hbW := hBr.drew
      have HO := hO
      have hs0 := hBr.size
      have held : ∀ W, Below w.heap.size w W → W.cell? ⟨b1, o1 + k * 3, none⟩ = some (.string (P k)) ∧ W.cell? ⟨b1, o1 + k * 3 + 1, none⟩ = some (.string (V k)) ∧ W.cell? ⟨b1, o1 + k * 3 + 2, none⟩ = some (.int .i64 (S k)) := fun W hW => ⟨(HC.out.below hW).c0, (HC.out.below hW).c1, (HC.out.below hW).c2⟩
      clear hc hT hO hBr
      go_wp2_with fail
      go_region_held2 (fun W => W.cell? ⟨b1, o1 + k * 3, none⟩ = some (.string (P k)) ∧ W.cell? ⟨b1, o1 + k * 3 + 1, none⟩ = some (.string (V k)) ∧ W.cell? ⟨b1, o1 + k * 3 + 2, none⟩ = some (.int .i64 (S k))) (first | exact held _ hbX | exact held _ (hbW.alloc hbW.size _) | exact held _ hbW)
        ((refine step_append_lies _ rfl (.tmp 11) (.tmp 24) 39 rfl w.heap.size 64 i0 (.agg #[.string ⟨#[]⟩, .string ⟨#[]⟩, .int .u32 0]) 3 40 Tryz.underlying39 hi hz0 hz1 hz2 rfl (by decide) (.slice ao no co) T.length (lnVs .u32 T) (by simp [Act.eval]) (HO.out.alloc _) ⟨wr.heap.size, 0, none⟩ 1 1 [.string (P k), .string (V k), .int .u32 (S k)] (by simp [Act.eval]) rfl (cell_ln_new wr _ _ _ _ _) (fun u hu => by simp at hu; rcases hu with rfl | rfl | rfl <;> rfl) (by decide) (by unfold maxLen; omega) (by omega) (by have := hbW.size; simp; omega) _ rfl ?_; intro g7 c7 w10 hown7 hgrow7 hg7 hl7; have hbX := (hbW.alloc hbW.size _).grown hgrow7 (by have := hbW.size; simp; omega) (fun q hq => ((HO.out.lt q hq).1))))
      all_goals
        go_wp2_with fail
        go_roundw
        case rel =>
          refine ⟨k + 1, T ++ [(P k, V k, S k)], by omega, by go_num, by simp; omega, Lib.hid ?_, HTN, hbX⟩
          rw [List.length_append, List.length_singleton, ← lnVs_snoc]
          rw [hTk] at hown7 ⊢
          exact hown7
        case measure => simp [intOf]; omega
    · obtain rfl : k = n := by omega
      have hkn : ¬ (k : Int) < (k : Int) := by omega
      have HF : Hid (lnTs T = lnF k P V S) := Lib.hid (by rw [hT.out, List.take_of_length_le (by rw [lnF_length]; exact Nat.le_refl _)])
      clear hT hTk
      go_wp2_with fail
      go_ret
      exact ⟨⟨_, rfl, T, hO.out, HF.out⟩, hBr⟩
end Go.Proofs.Pw

namespace Go.Proofs.Pw
open Go.RowKit
open Go.Lib hiding intOf
set_option maxHeartbeats 1000000 in
theorem isAhead_calls (p v q u : ByteArray) (w : World) (hv : v.size ≤ 1000000000) (hu : u.size ≤ 1000000000) :
    Calls Tryz.prog 66 #[.agg #[.string p, .string v], .agg #[.string q, .string u]] w fun e w' => e = .returned (.bool (modAhead (p.data.toList, v.data.toList) (q.data.toList, u.data.toList))) ∧ Below w.heap.size w w' := by
  have hm := ahead_eq p v q u
  have hl := fun W => isLess_calls v u W hv hu
  have hb1 := below_alloc w (.cells #[.string p, .string v] 29)
  have hB := below_step hb1 (below_alloc _ (.cells #[.string q, .string u] 29))
  generalize modAhead (p.data.toList, v.data.toList) (q.data.toList, u.data.toList) = R at hm ⊢
  generalize verLess v.data.toList u.data.toList = X at hl hm
  replace hm := Lib.hid hm
  replace hl := Lib.hid hl
  clear hb1
  cases h2 : (p.toList == q.toList) with
  | true =>
    have h3 : p.toList = q.toList := beq_iff_eq.1 h2
    have h4 : p = q := by rw [toList_data, toList_data] at h3; exact bytes_ext.1 h3
    subst h4
    have HF : Hid (R = X) := Lib.hid (by rw [hm.out, toList_data, bytesLess_iff, compareBytes_ord.self]; simp)
    clear h2 h3
    go_enter Tryz.func66, Tryz.ntmps66
    go_wp2_with fail
    refine (hl.out _).mono ?_
    rintro e w1 ⟨rfl, hb⟩
    replace hB := below_step hB hb
    clear hb
    go_wp2_with fail
    go_ret
    rw [HF.out]
    exact ⟨rfl, hB⟩
  | false =>
    have HF : Hid (R = Op.bytesLess p.toList q.toList) := Lib.hid (by rw [hm.out, h2]; simp)
    have h3 : p.toList ≠ q.toList := beq_eq_false_iff_ne.1 h2
    have h4 : p ≠ q := fun e => h3 (by rw [e])
    have h5 : (p.toList != q.toList) = true := bne_iff_ne.2 h3
    go_enter Tryz.func66, Tryz.ntmps66
    go_wp2_with fail
    go_ret
    rw [HF.out]
    exact ⟨rfl, hB⟩
end Go.Proofs.Pw
