/- Da: walks and plain laws, joined: Marks FileFind IdxFind DnBad1. Conditions: at each theorem. -/
import Derived.Test.YtnanklfbmmionaaGreatDoorDag
import Derived.Deep.OwnRows
import Derived.Test.YtnanklfbmmionaaGreatDoorDaf
import Derived.Shelf.Abstract
import Derived.Test.YtnanklfbmmionaaGreatDoorDae

namespace Go.Proofs.Pw
open Go.RowKit
open Go.Lib hiding intOf
theorem Tryz.infoBool : (Tryz.prog.info? 4).map (fun i => (i.zero, i.size, i.bytes)) = some (some (.bool false), 1, 1) := by kernel_rfl
def MarkRow (w : World) (g n : Nat) (M : Nat → Bool) : Prop := w.rowIs g 4 n (fun j => .bool (M j))
theorem MarkRow.below {w w' : World} {g n : Nat} {M : Nat → Bool} (h : MarkRow w g n M) (hb : Below w.heap.size w w') : MarkRow w' g n M :=
  World.rowIs.of_block h (hb.block g (World.rowIs.lt h))
theorem MarkRow.set {w : World} {g n : Nat} {M : Nat → Bool} (h : MarkRow w g n M) (k : Nat) : MarkRow (w.setCell ⟨g, k, none⟩ (.bool true)) g n (setM M k) :=
  (World.rowIs.set h k (.bool true)).congr fun j _ => by unfold setM; split <;> rfl
theorem MarkRow.cell {w : World} {g n : Nat} {M : Nat → Bool} (h : MarkRow w g n M) {k : Nat} (hk : k < n) : w.cell? ⟨g, k, none⟩ = some (.bool (M k)) := World.rowIs.cell h hk
theorem MarkRow.fz {w : World} {g n : Nat} {M : Nat → Bool} (h : MarkRow w g n M) (k : Nat) : w.frozen? ⟨g, k, none⟩ = false := World.rowIs.frozen h k
noncomputable def leftW (W : World) (g n : Nat) : Nat := (List.range n).countP fun j => @decide (W.cell? ⟨g, j, none⟩ = some (.bool false)) (Classical.propDecidable _)
theorem leftW_row {W : World} {g n : Nat} {M : Nat → Bool} (h : MarkRow W g n M) : leftW W g n = leftM n M := by
  unfold leftW leftM
  refine List.countP_congr fun j hj => ?_
  rw [h.cell (List.mem_range.1 hj)]
  cases M j <;> simp
def bitOf : Value → Nat
  | .bool true => 1
  | _ => 0
set_option maxHeartbeats 8000000 in
set_option maxRecDepth 100000 in
theorem marks_in (a : Option Addr) (n cap : Nat) (P V : Nat → ByteArray) (R : Nat → List Md) (K : Nat → List Str) (B : Nat → Bool) (Rv Kv : Nat → Value) (rv : Value) (roots : List Md) (w : World) (h : EntsIn w a n cap P V R K B Rv Kv) (hr : ModsAt w rv roots) (hG : RightG (enF n P V R K B) roots) (hs : ShortI (enF n P V R K B)) (hl2 : roots.length ≤ 1000000) :
    Calls Tryz.prog 123 #[.slice a n cap, rv] w fun e w' => (∃ M, e = .returned (.slice (some ⟨w.heap.size, 0, none⟩) n n) ∧ MarkRow w' w.heap.size n M ∧ ∀ j, j < n → (M j = true ↔ Reached (enF n P V R K B) roots (enAt (enF n P V R K B) j).md)) ∧ Below w.heap.size w w' := by
  obtain ⟨a2, m, cap2, Q, U, rfl, rfl, hmc, hcap2, hc2⟩ := hr
  rw [mdF_length] at hl2
  have hn : n ≤ 100 := by have := hG.idx.len; rwa [enF_length] at this
  have hmk := run_make_row' (P := Tryz.prog) 64 4 (.bool false) 1 Tryz.underlying64 Tryz.infoBool rfl .i64 .i64 n (by omega) (by omega)
  have hB := below_alloc w (.cells (madeCells #[.bool false] n) 4)
  have hrow : MarkRow (w.alloc (.cells (madeCells #[.bool false] n) 4)) w.heap.size n (fun _ => false) := World.rowIs_made w (.bool false) n 4
  have hfo := fun (p v : ByteArray) (W : World) (hb : Below w.heap.size w W) => findOf_in a n cap P V R K B Rv Kv p v W (h.below hb) (by omega)
  have H := Lib.hid h
  have HSH := Lib.hid hs
  obtain ⟨l, hl⟩ : ∃ l, enF n P V R K B = l := ⟨_, rfl⟩
  have HEN : Hid (∀ j, j < n → enAt l j = ⟨((P j).data.toList, (V j).data.toList), R j, K j, B j⟩) := Lib.hid (fun j hj => by rw [← hl]; exact enAt_enF hj)
  have HLEN : Hid (l.length = n) := Lib.hid (by rw [← hl, enF_length])
  simp only [hl] at hfo hG ⊢
  have HG := Lib.hid hG
  have HSL : Hid (∀ j, j < n → (R j).length ≤ 1000000) := Lib.hid (fun j hj => (HSH.out.at_ hj).2.2.2.1.1)
  replace hc2 := Lib.hid hc2
  replace hfo := Lib.hid hfo
  clear h hs hG hl
  go_enter Tryz.func123, Tryz.ntmps123
  go_wp2_with fail
  clear hmk
  generalize w.alloc (.cells (madeCells #[.bool false] n) 4) = w1 at *
  go_loopw [6] (fun x wr => ∃ (k : Nat) (M : Nat → Bool), k ≤ m ∧ x = .int .i64 k ∧ Hid (MarkRow wr w.heap.size n M) ∧ Below w.heap.size w wr ∧ Hid (SoundM l (mdF m Q U) M) ∧ Hid (∀ j, j < k → M (findE l ((Q j).data.toList, (U j).data.toList)).toNat = true)) (fun x _ => m - (intOf x).toNat)
  case atStart => exact ⟨0, _, Nat.zero_le _, rfl, Lib.hid hrow, hB, Lib.hid (fun j _ h => by cases h), Lib.hid (fun j hj => absurd hj (Nat.not_lt_zero _))⟩
  case round =>
    obtain ⟨k, M, hk, rfl, HRow, hBk, HS, HA⟩ := hrel
    by_cases hlt : k < m
    · have hkn : (k : Int) < (m : Int) := by omega
      obtain ⟨b1, o1, ea, c0, c1⟩ := hc2.out k hlt
      replace c0 := Below.cell_some hBk c0
      replace c1 := Below.cell_some hBk c1
      subst ea
      have hf := hfo.out (Q k) (U k) wr hBk
      have hmem : ((Q k).data.toList, (U k).data.toList) ∈ mdF m Q U := List.mem_of_getElem? (mdF_get m Q U k hlt)
      obtain ⟨e0, he0, he1⟩ := HG.out.at_ _ hmem
      have hat := HG.out.idx.at_ he0 he1
      rw [HLEN.out] at hat
      have HS' : Hid (SoundM l (mdF m Q U) (setM M (findE l ((Q k).data.toList, (U k).data.toList)).toNat)) := Lib.hid (soundM_root HG.out HS.out hmem)
      have HA' : Hid (∀ j, j < k + 1 → setM M (findE l ((Q k).data.toList, (U k).data.toList)).toNat (findE l ((Q j).data.toList, (U j).data.toList)).toNat = true) := Lib.hid (fun j hj => by
        by_cases e : j = k
        · subst e; exact setM_same _ _
        · exact setM_of _ (HA.out j (by omega)))
      obtain ⟨hat1, hat2, _⟩ := hat
      rw [hat2] at hf
      generalize (findE l ((Q k).data.toList, (U k).data.toList)).toNat = x at *
      have hxn : (x : Int) < (n : Int) := by omega
      replace hf := Lib.hid hf
      clear hat2 hmem he0 he1
      go_wp2_with fail
      refine hf.out.mono ?_
      rintro e w2 ⟨rfl, hb⟩
      have HRow2 := Lib.hid (HRow.out.below hb)
      have d0 := HRow2.out.cell hat1
      have df := HRow2.out.fz x
      replace hBk := below_step hBk hb
      have HRow3 := Lib.hid (HRow2.out.set x)
      have hB3 := hBk.setCell (p := ⟨w.heap.size, x, none⟩) (Nat.le_refl _) (.bool true)
      clear hb hf c0 c1
      go_wp2_with fail
      go_roundw
      case rel => exact ⟨k + 1, _, by omega, by go_num, HRow3, hB3, HS', HA'⟩
      case measure => simp [intOf]; omega
    · have HRT : Hid (∀ r ∈ mdF m Q U, M (findE l r).toNat = true) := Lib.hid (fun r hr => by
        obtain ⟨j, hj⟩ := List.getElem?_of_mem hr
        have hjl := (List.getElem?_eq_some_iff.1 hj).1
        rw [mdF_length] at hjl
        rw [mdF_get m Q U j hjl] at hj
        rw [← Option.some.inj hj]
        exact HA.out j (by omega))
      have hnk : ¬ (k : Int) < (m : Int) := by omega
      clear hlt hk HA
      go_wp2_with fail
      clear hnk
      generalize wr = wl at *
      go_loopw [7] (fun x wr => ∃ (b : Bool) (M : Nat → Bool), x = .bool b ∧ Hid (MarkRow wr w.heap.size n M) ∧ Below w.heap.size w wr ∧ Hid (SoundM l (mdF m Q U) M) ∧ Hid (∀ r ∈ mdF m Q U, M (findE l r).toNat = true) ∧ Hid (b = false → ∀ i, i < n → ClosedM l M i)) (fun x W => 2 * leftW W w.heap.size n + bitOf x)
      case atStart => exact ⟨true, M, rfl, HRow, hBk, HS, HRT, Lib.hid (fun h => by cases h)⟩
      case round =>
        clear HRow hBk HS HRT
        obtain ⟨b0, M0, rfl, HRow, hBk, HS, HRT, HC⟩ := hrel
        have HMS : Hid (leftW wr w.heap.size n = leftM n M0) := Lib.hid (leftW_row HRow.out)
        cases b0 with
        | false =>
          have HD : Hid (∀ j, j < n → (M0 j = true ↔ Reached l (mdF m Q U) (enAt l j).md)) := Lib.hid (fun j hj => marks_done HG.out HS.out HRT.out (fun i hi => HC.out rfl i (by rw [← HLEN.out]; exact hi)) (by rw [HLEN.out]; exact hj))
          clear HC HMS
          go_wp2_with fail
          go_ret
          exact ⟨⟨M0, rfl, HRow.out, HD.out⟩, hBk⟩
        | true =>
          clear HC
          go_wp2_with fail
          generalize hwo : wr = wo at *
          go_loopw [7, 8] (fun y x wr => ∃ (q : Nat) (b : Bool) (M : Nat → Bool), q ≤ n ∧ x = .int .i64 q ∧ y = .bool b ∧ Hid (MarkRow wr w.heap.size n M) ∧ Below w.heap.size w wr ∧ Hid (SoundM l (mdF m Q U) M) ∧ Hid (∀ j, M0 j = true → M j = true) ∧ Hid (b = true → leftM n M < leftM n M0) ∧ Hid (b = false → M = M0 ∧ ∀ i, i < q → ClosedM l M i)) (fun _ x _ => n - (intOf x).toNat)
          case atStart => exact ⟨0, false, M0, Nat.zero_le _, rfl, rfl, HRow, hBk, HS, Lib.hid (fun _ h => h), Lib.hid (fun h => by cases h), Lib.hid (fun _ => ⟨rfl, fun i hi => absurd hi (Nat.not_lt_zero _)⟩)⟩
          case round =>
            clear HRow hBk HS
            obtain ⟨q, b1, M1, hq, rfl, rfl, HRow, hBk, HS, HM, HLT, HC⟩ := hrel
            by_cases hlt : q < n
            · have hkn : (q : Int) < (n : Int) := by omega
              obtain ⟨b2, o2, ea, hcell⟩ := H.out.at_ q hlt
              obtain ⟨a1, n1, c1, P1, V1, e1, e2, _, _, hc1⟩ := H.out.reqs q hlt
              have hlen : n1 ≤ 1000000 := by
                have := HSL.out q hlt
                rw [e2, mdF_length] at this
                exact this
              have HQ : Hid ((enAt l q).reqs = mdF n1 P1 V1) := Lib.hid (by rw [HEN.out q hlt, e2])
              rw [e1] at hcell
              have d2 := hcell.c2
              subst ea
              replace hc1 := Lib.hid hc1
              clear e1 e2 hcell
              go_wp2_with fail
              generalize hwp : wr = wp at *
              clear hwp
              go_loopw [7, 9] (fun y x wr => ∃ (p : Nat) (b : Bool) (M : Nat → Bool), p ≤ n1 ∧ x = .int .i64 p ∧ y = .bool b ∧ Hid (MarkRow wr w.heap.size n M) ∧ Below w.heap.size w wr ∧ Hid (SoundM l (mdF m Q U) M) ∧ Hid (∀ j, M0 j = true → M j = true) ∧ Hid (b = true → leftM n M < leftM n M0) ∧ Hid (b = false → M = M0 ∧ (∀ i, i < q → ClosedM l M i) ∧ ∀ j, j < p → M (findE l ((P1 j).data.toList, (V1 j).data.toList)).toNat = true)) (fun _ x _ => n1 - (intOf x).toNat)
              case atStart => exact ⟨0, b1, M1, Nat.zero_le _, rfl, rfl, HRow, hBk, HS, HM, HLT, Lib.hid (fun h => ⟨(HC.out h).1, (HC.out h).2, fun j hj => absurd hj (Nat.not_lt_zero _)⟩)⟩
              case round =>
                clear HRow hBk HS HM HLT HC
                obtain ⟨p, b3, M3, hp, rfl, rfl, HRow, hBk, HS, HM, HLT, HC⟩ := hrel
                have x2 := Below.cell_some hBk d2
                have g0 := HRow.out.cell hlt
                cases hMq : M3 q with
                | false =>
                  rw [hMq] at g0
                  have HC' : Hid (b3 = false → M3 = M0 ∧ ∀ i, i < q + 1 → ClosedM l M3 i) := Lib.hid (fun h => ⟨(HC.out h).1, fun i hi => by
                    by_cases e : i = q
                    · subst e; intro h'; rw [hMq] at h'; cases h'
                    · exact (HC.out h).2.1 i (by omega)⟩)
                  clear hMq x2 HC
                  go_wp2_with fail
                  go_roundw
                  case rel => exact ⟨q + 1, b3, M3, by omega, by go_num, rfl, HRow, hBk, HS, HM, HLT, HC'⟩
                  case measure => simp [intOf]; omega
                | true =>
                  rw [hMq] at g0
                  by_cases hlp : p < n1
                  · have hpn : (p : Int) < (n1 : Int) := by omega
                    obtain ⟨b4, o4, e3, y0, y1⟩ := hc1.out p hlp
                    subst e3
                    replace y0 := Below.cell_some hBk y0
                    replace y1 := Below.cell_some hBk y1
                    have hf := hfo.out (P1 p) (V1 p) wr hBk
                    have hmem : ((P1 p).data.toList, (V1 p).data.toList) ∈ (enAt l q).reqs := by rw [HQ.out]; exact List.mem_of_getElem? (mdF_get n1 P1 V1 p hlp)
                    obtain ⟨e0, he0, he1⟩ := HG.out.idx.all _ (enAt_mem (by rw [HLEN.out]; exact hlt)) _ hmem
                    have hat := HG.out.idx.at_ he0 he1
                    rw [HLEN.out] at hat
                    obtain ⟨hat1, hat2, _⟩ := hat
                    have HS' := Lib.hid (soundM_req HG.out HS.out (by rw [HLEN.out]; exact hlt) hMq hmem)
                    rw [hat2] at hf
                    obtain ⟨x, hx⟩ : ∃ x, (findE l ((P1 p).data.toList, (V1 p).data.toList)).toNat = x := ⟨_, rfl⟩
                    rw [hx] at hat1 hf HS'
                    have hxn : (x : Int) < (n : Int) := by omega
                    cases hMx : M3 x with
                    | true =>
                      have g1 := HRow.out.cell hat1
                      rw [hMx] at g1
                      have HC' : Hid (b3 = false → M3 = M0 ∧ (∀ i, i < q → ClosedM l M3 i) ∧ ∀ j, j < p + 1 → M3 (findE l ((P1 j).data.toList, (V1 j).data.toList)).toNat = true) := Lib.hid (fun h => ⟨(HC.out h).1, (HC.out h).2.1, fun j hj => by
                        by_cases e : j = p
                        · subst e; rw [hx]; exact hMx
                        · exact (HC.out h).2.2 j (by omega)⟩)
                      replace hf := Lib.hid hf
                      clear hMq hMx hx hat2 hmem he0 he1 HC HS'
                      go_wp2_with fail
                      refine hf.out.mono ?_
                      rintro e w2 ⟨rfl, hb⟩
                      have HRow2 := Lib.hid (HRow.out.below hb)
                      replace g1 := Below.cell_some hb g1
                      replace hBk := below_step hBk hb
                      clear hb hf y0 y1 x2 g0
                      go_wp2_with fail
                      go_roundw
                      case rel => exact ⟨p + 1, b3, M3, by omega, by go_num, rfl, HRow2, hBk, HS, HM, HLT, HC'⟩
                      case measure => simp [intOf]; omega
                    | false =>
                      have g1 := HRow.out.cell hat1
                      rw [hMx] at g1
                      have HM' : Hid (∀ j, M0 j = true → setM M3 x j = true) := Lib.hid (fun j hj => setM_of x (HM.out j hj))
                      have HLT' : Hid (leftM n (setM M3 x) < leftM n M0) := Lib.hid (by
                        have h1 := leftM_set hat1 hMx
                        have h2 := leftM_le (n := n) HM.out
                        omega)
                      replace hf := Lib.hid hf
                      clear hMq hMx hx hat2 hmem he0 he1 HC HLT
                      go_wp2_with fail
                      refine hf.out.mono ?_
                      rintro e w2 ⟨rfl, hb⟩
                      have HRow2 := Lib.hid (HRow.out.below hb)
                      replace g1 := Below.cell_some hb g1
                      have df := HRow2.out.fz x
                      replace hBk := below_step hBk hb
                      have HRow3 := Lib.hid (HRow2.out.set x)
                      have hB3 := hBk.setCell (p := ⟨w.heap.size, x, none⟩) (Nat.le_refl _) (.bool true)
                      clear hb hf y0 y1 x2 g0
                      go_wp2_with fail
                      go_roundw
                      case rel => exact ⟨p + 1, true, _, by omega, by go_num, rfl, HRow3, hB3, HS', HM', Lib.hid (fun _ => HLT'.out), Lib.hid (fun h => by cases h)⟩
                      case measure => simp [intOf]; omega
                  · have HC' : Hid (b3 = false → M3 = M0 ∧ ∀ i, i < q + 1 → ClosedM l M3 i) := Lib.hid (fun h => ⟨(HC.out h).1, fun i hi => by
                      by_cases e : i = q
                      · subst e
                        intro _ r hr
                        rw [HQ.out] at hr
                        obtain ⟨j, hj⟩ := List.getElem?_of_mem hr
                        have hjl := (List.getElem?_eq_some_iff.1 hj).1
                        rw [mdF_length] at hjl
                        rw [mdF_get n1 P1 V1 j hjl] at hj
                        rw [← Option.some.inj hj]
                        exact (HC.out h).2.2 j (by omega)
                      · exact (HC.out h).2.1 i (by omega)⟩)
                    have hnp : ¬ (p : Int) < (n1 : Int) := by omega
                    clear hMq HC hlp hp
                    go_wp2_with fail
                    go_roundw
                    case rel => exact ⟨q + 1, b3, M3, by omega, by go_num, rfl, HRow, hBk, HS, HM, HLT, HC'⟩
                    case measure => simp [intOf]; omega
            · have HRT' : Hid (∀ r ∈ mdF m Q U, M1 (findE l r).toNat = true) := Lib.hid (fun r hr => HM.out _ (HRT.out r hr))
              have HC' : Hid (b1 = false → ∀ i, i < n → ClosedM l M1 i) := Lib.hid (fun h i hi => (HC.out h).2 i (by omega))
              have HMS2 : Hid (2 * leftW wr w.heap.size n + bitOf (.bool b1) < 2 * leftW wo w.heap.size n + bitOf (.bool true)) := Lib.hid (by
                rw [HMS.out, leftW_row HRow.out]
                cases b1 with
                | true => have := HLT.out rfl; omega
                | false =>
                  have := leftM_le (n := n) HM.out
                  show 2 * leftM n M1 + 0 < 2 * leftM n M0 + 1
                  omega)
              have hnq : ¬ (q : Int) < (n : Int) := by omega
              clear hlt hq HC HLT
              go_wp2_with fail
              go_roundw
              case rel => exact ⟨b1, M1, rfl, HRow, hBk, HS, HRT', HC'⟩
              case measure =>
                have := HMS2.out
                rw [← hwo] at this
                simpa [bitOf] using this
end Go.Proofs.Pw

namespace Go.Proofs.Pw
open Go.RowKit
open Go.Lib hiding intOf
def TestsM (g : Nat) (lb : Array Value) (p : Md → Bool) (n : Nat) (P V : Nat → ByteArray) (base : Nat) (w : World) : Prop :=
  ∀ W, Below base w W → ∀ j, j < n → Calls Tryz.prog g (#[.agg #[.string (P j), .string (V j)]] ++ lb) W fun e w'' => e = .returned (.bool (p ((P j).data.toList, (V j).data.toList))) ∧ Below W.heap.size W w''
set_option maxHeartbeats 1000000 in
set_option maxRecDepth 100000 in
theorem indexFuncM_calls (g : Nat) (lb : Array Value) (eg : ∀ args w, (callFunc g args).run Tryz.prog w = .ok (.enter g args) w) (p : Md → Bool) (a : Option Addr) (n cap base : Nat) (P V : Nat → ByteArray) (w : World) (hn : n ≤ 1000000) (hbase : base ≤ w.heap.size)
    (hc : ∀ j, j < n → ∃ b o, a = some ⟨b, o, none⟩ ∧ w.cell? ⟨b, o + j * 2, none⟩ = some (.string (P j)) ∧ w.cell? ⟨b, o + j * 2 + 1, none⟩ = some (.string (V j))) (hT : TestsM g lb p n P V base w) :
    Calls Tryz.prog 161 #[.slice a n cap, .func (.func g) #[] lb] w fun e w' => e = .returned (.int .i64 (findI p (mdF n P V))) ∧ Below w.heap.size w w' := by
  replace hc := Lib.hid hc
  replace hT := Lib.hid hT
  go_enter Tryz.func161, Tryz.ntmps161
  go_wp2_with fail
  go_loopw [8] (fun i wr => ∃ k : Nat, k ≤ n ∧ i = .int .i64 k ∧ Below w.heap.size w wr ∧ Hid (∀ j, j < k → p ((P j).data.toList, (V j).data.toList) = false)) (fun i _ => n - (intOf i).toNat)
  case atStart => exact ⟨0, by omega, rfl, Below.refl _ _, Lib.hid (fun j hj => absurd hj (Nat.not_lt_zero _))⟩
  case round =>
    obtain ⟨k, hk, rfl, hb, HA⟩ := hrel
    by_cases hlt : k < n
    · obtain ⟨b1, o1, rfl, c1, c2⟩ := hc.out k hlt
      replace c1 := Below.cell_some hb c1
      replace c2 := Below.cell_some hb c2
      have hcall := hT.out wr (hb.mono hbase) k hlt
      have hget := mdF_get n P V k hlt
      cases hq : p ((P k).data.toList, (V k).data.toList) with
      | true =>
        have HR : Hid (findI p (mdF n P V) = k) := Lib.hid (findI_hit hget hq (fun j y hj hy => by
          rw [mdF_get n P V j (by omega)] at hy
          cases hy
          exact HA.out j hj))
        rw [hq] at hcall
        clear hq hget
        go_wp2_with (go_at_fn g; refine hcall.mono ?_; rintro e w' ⟨rfl, hb2⟩)
        go_ret
        rw [HR.out]
        exact ⟨rfl, below_step hb hb2⟩
      | false =>
        have HN : Hid (∀ j, j < k + 1 → p ((P j).data.toList, (V j).data.toList) = false) := Lib.hid (fun j hj => by
          by_cases e : j = k
          · subst e; exact hq
          · exact HA.out j (by omega))
        rw [hq] at hcall
        clear hq hget
        go_wp2_with (go_at_fn g; refine hcall.mono ?_; rintro e w' ⟨rfl, hb2⟩)
        go_roundw
        case rel => exact ⟨k + 1, by omega, by go_num, below_step hb hb2, HN⟩
        case measure => simp [intOf]; omega
    · obtain rfl : k = n := by omega
      have HR : Hid (findI p (mdF k P V) = -1) := Lib.hid (findI_none (fun j y hy => by
        have hj : j < k := by have := (List.getElem?_eq_some_iff.1 hy).1; rwa [mdF_length] at this
        rw [mdF_get k P V j hj] at hy
        cases hy
        exact HA.out j hj))
      go_wp2_with fail
      go_ret
      rw [HR.out]
      exact ⟨rfl, hb⟩
theorem Tryz.enters_find1 : ∀ args w, (callFunc 223 args).run Tryz.prog w = .ok (.enter 223 args) w := Go.Proofs.enters_of Tryz.func223 (by kernel_rfl) rfl
theorem find1_calls (p v s : ByteArray) (b : Nat) (w : World) (hc : w.cell? ⟨b, 0, none⟩ = some (.string s)) :
    Calls Tryz.prog 223 #[.agg #[.string p, .string v], .pointer (some ⟨b, 0, none⟩)] w fun e w' => e = .returned (.bool (decide (p.data.toList = s.data.toList))) ∧ Below w.heap.size w w' := by
  have hb := below_alloc w (.cells #[.string p, .string v] 29)
  have c0 := Below.cell_some hb hc
  have HD : Hid (decide (p.data.toList = s.data.toList) = (p.toList == s.toList)) := Lib.hid (by
    rw [toList_data, toList_data, Bool.eq_iff_iff, decide_eq_true_iff, beq_iff_eq])
  go_enter Tryz.func223, Tryz.ntmps223
  go_wp2_with fail
  go_ret
  rw [HD.out]
  exact ⟨rfl, hb⟩
theorem modFind_calls (v : Value) (l : List Md) (s : ByteArray) (w : World) (h : ModsAt w v l) (hl : l.length ≤ 1000000) :
    Calls Tryz.prog 160 #[v, .string s] w fun e w' => e = .returned (.int .i64 (findI (fun m : Md => decide (m.1 = s.data.toList)) l)) ∧ Below w.heap.size w w' := by
  obtain ⟨a, n, cap, P, V, rfl, rfl, hnc, hcap, hc⟩ := h
  rw [mdF_length] at hl
  have hb := below_alloc w (.cells #[.string s] 9)
  have hcs : (w.alloc (.cells #[.string s] 9)).cell? ⟨w.heap.size, 0, none⟩ = some (.string s) := by simp
  have hi := indexFuncM_calls 223 #[.pointer (some ⟨w.heap.size, 0, none⟩)] Tryz.enters_find1 (fun m : Md => decide (m.1 = s.data.toList)) a n cap (w.alloc (.cells #[.string s] 9)).heap.size P V (w.alloc (.cells #[.string s] 9)) hl (Nat.le_refl _)
    (fun j hj => let ⟨b, o, e, h1, h2⟩ := hc j hj; ⟨b, o, e, Below.cell_some hb h1, Below.cell_some hb h2⟩)
    (fun W hW j hj => find1_calls (P j) (V j) s w.heap.size W (Below.cell_some hW hcs))
  generalize findI (fun m : Md => decide (m.1 = s.data.toList)) (mdF n P V) = x at hi ⊢
  replace hi := Lib.hid hi
  clear hc hcs
  go_enter Tryz.func160, Tryz.ntmps160
  go_wp2_with fail
  refine hi.out.mono ?_
  rintro e w1 ⟨rfl, hb1⟩
  go_wp2_with fail
  go_ret
  exact ⟨rfl, below_step hb hb1⟩
end Go.Proofs.Pw

namespace Go.Proofs.Pw
open Go.RowKit
open Go.Lib hiding intOf
theorem EntsIn.forms {w : World} {a n cap P V R K B Rv Kv} (h : EntsIn w a n cap P V R K B Rv Kv) {j : Nat} (hj : j < n) : ∃ a1 n1 c1 a2 n2 c2, Rv j = .slice a1 n1 c1 ∧ Kv j = .slice a2 n2 c2 := by
  obtain ⟨a1, n1, c1, _, _, e1, _⟩ := h.reqs j hj
  obtain ⟨a2, n2, c2, _, e2, _⟩ := h.packs j hj
  exact ⟨_, _, _, _, _, _, e1, e2⟩
def TestsE (g : Nat) (lb : Array Value) (p : Nat → Bool) (n : Nat) (P V : Nat → ByteArray) (Rv Kv : Nat → Value) (B : Nat → Bool) (base : Nat) (w : World) : Prop :=
  ∀ W, Below base w W → ∀ j, j < n → Calls Tryz.prog g (#[.agg #[.string (P j), .string (V j), Rv j, Kv j, .bool (B j)]] ++ lb) W fun e w'' => e = .returned (.bool (p j)) ∧ Below W.heap.size W w''
set_option maxHeartbeats 1000000 in
set_option maxRecDepth 100000 in
theorem indexFuncE_calls (g : Nat) (lb : Array Value) (eg : ∀ args w, (callFunc g args).run Tryz.prog w = .ok (.enter g args) w) (p : Nat → Bool) (q : En → Bool) (a : Option Addr) (n cap base : Nat) (P V : Nat → ByteArray) (R : Nat → List Md) (K : Nat → List Str) (B : Nat → Bool) (Rv Kv : Nat → Value) (w : World) (hn : n ≤ 1000000) (hbase : base ≤ w.heap.size)
    (hc : EntsIn w a n cap P V R K B Rv Kv) (hq : ∀ j, j < n → q (enAt (enF n P V R K B) j) = p j) (hT : TestsE g lb p n P V Rv Kv B base w) :
    Calls Tryz.prog 137 #[.slice a n cap, .func (.func g) #[] lb] w fun e w' => e = .returned (.int .i64 (findI q (enF n P V R K B))) ∧ Below w.heap.size w w' := by
  replace hc := Lib.hid hc
  replace hT := Lib.hid hT
  replace hq := Lib.hid hq
  go_enter Tryz.func137, Tryz.ntmps137
  go_wp2_with fail
  go_loopw [8] (fun i wr => ∃ k : Nat, k ≤ n ∧ i = .int .i64 k ∧ Below w.heap.size w wr ∧ Hid (∀ j, j < k → p j = false)) (fun i _ => n - (intOf i).toNat)
  case atStart => exact ⟨0, by omega, rfl, Below.refl _ _, Lib.hid (fun j hj => absurd hj (Nat.not_lt_zero _))⟩
  case round =>
    obtain ⟨k, hk, rfl, hb, HA⟩ := hrel
    by_cases hlt : k < n
    · obtain ⟨b1, o1, rfl, hcell⟩ := hc.out.at_ k hlt
      obtain ⟨c0, c1, c2, c3, c4⟩ := hcell.below hb
      have hcall := hT.out wr (hb.mono hbase) k hlt
      have hget := enF_get n P V R K B k hlt
      obtain ⟨a1, n1, s1, a2, n2, s2, e1, e2⟩ := hc.out.forms hlt
      rw [e1] at c2
      rw [e2] at c3
      rw [e1, e2] at hcall
      clear hcell
      cases hp : p k with
      | true =>
        have HR : Hid (findI q (enF n P V R K B) = k) := Lib.hid (findI_hit hget (by have := hq.out k hlt; rw [enAt_enF hlt] at this; rw [this, hp]) (fun j y hj hy => by
          rw [enF_get n P V R K B j (by omega)] at hy
          have h1 := hq.out j (by omega)
          rw [enAt_enF (by omega)] at h1
          cases hy
          rw [h1]; exact HA.out j hj))
        rw [hp] at hcall
        clear hp hget e1 e2
        go_wp2_with (go_at_fn g; refine hcall.mono ?_; rintro e w' ⟨rfl, hb2⟩)
        go_ret
        rw [HR.out]
        exact ⟨rfl, below_step hb hb2⟩
      | false =>
        have HN : Hid (∀ j, j < k + 1 → p j = false) := Lib.hid (fun j hj => by
          by_cases e : j = k
          · subst e; exact hp
          · exact HA.out j (by omega))
        rw [hp] at hcall
        clear hp hget e1 e2
        go_wp2_with (go_at_fn g; refine hcall.mono ?_; rintro e w' ⟨rfl, hb2⟩)
        go_roundw
        case rel => exact ⟨k + 1, by omega, by go_num, below_step hb hb2, HN⟩
        case measure => simp [intOf]; omega
    · obtain rfl : k = n := by omega
      have HR : Hid (findI q (enF k P V R K B) = -1) := Lib.hid (findI_none (fun j y hy => by
        have hj : j < k := by have := (List.getElem?_eq_some_iff.1 hy).1; rwa [enF_length] at this
        have h1 := hq.out j hj
        rw [enAt_enF hj] at h1
        rw [enF_get k P V R K B j hj] at hy
        cases hy
        rw [h1]; exact HA.out j hj))
      go_wp2_with fail
      go_ret
      rw [HR.out]
      exact ⟨rfl, hb⟩
theorem Tryz.enters_ifind1 : ∀ args w, (callFunc 138 args).run Tryz.prog w = .ok (.enter 138 args) w := Go.Proofs.enters_of Tryz.func138 (by kernel_rfl) rfl
theorem idxFind1_calls (p v s u : ByteArray) (a1 a2 : Option Addr) (n1 c1 n2 c2 : Nat) (bk : Bool) (b : Nat) (w : World) (h0 : w.cell? ⟨b, 0, none⟩ = some (.string s)) (h1 : w.cell? ⟨b, 1, none⟩ = some (.string u)) :
    Calls Tryz.prog 138 #[.agg #[.string p, .string v, .slice a1 n1 c1, .slice a2 n2 c2, .bool bk], .pointer (some ⟨b, 0, none⟩)] w fun e w' => e = .returned (.bool (decide (p = s ∧ v = u))) ∧ Below w.heap.size w w' := by
  have hb := below_alloc w (.cells #[.string p, .string v, .slice a1 n1 c1, .slice a2 n2 c2, .bool bk] 37)
  have d0 := Below.cell_some hb h0
  have d1 := Below.cell_some hb h1
  have hg := Tryz.md_guard
  have hq := md_eql p v s u
  generalize decide (p = s ∧ v = u) = X at hq ⊢
  go_enter Tryz.func138, Tryz.ntmps138
  go_wp2_with fail
  go_ret
  exact ⟨rfl, hb⟩
theorem idxFind_in (a : Option Addr) (n cap : Nat) (P V : Nat → ByteArray) (R : Nat → List Md) (K : Nat → List Str) (B : Nat → Bool) (Rv Kv : Nat → Value) (p v : ByteArray) (w : World) (h : EntsIn w a n cap P V R K B Rv Kv) (hl : n ≤ 1000000) :
    Calls Tryz.prog 61 #[.slice a n cap, .agg #[.string p, .string v]] w fun e w' => e = .returned (.int .i64 (findE (enF n P V R K B) (p.data.toList, v.data.toList))) ∧ Below w.heap.size w w' := by
  have hb := below_alloc w (.cells #[.string p, .string v] 29)
  have hz := box2_alloc w (.string p) (.string v) 29
  have hi := indexFuncE_calls 138 #[.pointer (some ⟨w.heap.size, 0, none⟩)] Tryz.enters_ifind1 (fun j => decide (P j = p ∧ V j = v)) (isMd (p.data.toList, v.data.toList)) a n cap (w.alloc (.cells #[.string p, .string v] 29)).heap.size P V R K B Rv Kv (w.alloc (.cells #[.string p, .string v] 29)) hl (Nat.le_refl _) (h.below hb)
    (fun j hj => by
      rw [enAt_enF hj]
      unfold isMd
      rw [Bool.eq_iff_iff, decide_eq_true_iff, decide_eq_true_iff]
      exact bytes_pair)
    (fun W hW j hj => by
      obtain ⟨a1, n1, s1, a2, n2, s2, e1, e2⟩ := h.forms hj
      rw [e1, e2]
      exact idxFind1_calls (P j) (V j) p v a1 a2 n1 s1 n2 s2 (B j) w.heap.size W (Below.cell_some hW hz.c0) (Below.cell_some hW hz.c1))
  show Calls _ _ _ _ fun e w' => e = .returned (.int .i64 (findI (isMd (p.data.toList, v.data.toList)) (enF n P V R K B))) ∧ Below w.heap.size w w'
  generalize findI (isMd (p.data.toList, v.data.toList)) (enF n P V R K B) = x at hi ⊢
  replace hi := Lib.hid hi
  clear hz h
  go_enter Tryz.func61, Tryz.ntmps61
  go_wp2_with fail
  refine hi.out.mono ?_
  rintro e w1 ⟨rfl, hb1⟩
  go_wp2_with fail
  go_ret
  exact ⟨rfl, below_step hb hb1⟩
end Go.Proofs.Pw

namespace Go.Proofs.Pw
open Go.RowKit
open Go.Lib hiding intOf
theorem Tryz.enters_bad1 : ∀ args w, (callFunc 98 args).run Tryz.prog w = .ok (.enter 98 args) w := Go.Proofs.enters_of Tryz.func98 (by kernel_rfl) rfl
set_option maxHeartbeats 1000000 in
theorem bad1_calls (a : Option Addr) (n cap : Nat) (P V : Nat → ByteArray) (R : Nat → List Md) (K : Nat → List Str) (B : Nat → Bool) (Rv Kv : Nat → Value) (b8 b2 g : Nat) (M : Nat → Bool) (p v : ByteArray) (w : World) (h : EntsIn w a n cap P V R K B Rv Kv) (hl : n ≤ 1000000) (z8 : w.cell? ⟨b8, 0, none⟩ = some (.slice (some ⟨g, 0, none⟩) n n)) (z2 : w.cell? ⟨b2, 0, none⟩ = some (.slice a n cap)) (hrow : MarkRow w g n M) (k : Nat) (hk : k < n) (hf0 : findE (enF n P V R K B) (p.data.toList, v.data.toList) = (k : Int)) :
    Calls Tryz.prog 98 #[.agg #[.string p, .string v], .pointer (some ⟨b8, 0, none⟩), .pointer (some ⟨b2, 0, none⟩)] w fun e w' => e = .returned (.bool (M k)) ∧ Below w.heap.size w w' := by
  have hb := below_alloc w (.cells #[.string p, .string v] 29)
  obtain ⟨y0, y1, _⟩ := box2_alloc w (.string p) (.string v) 29
  have x8 := Below.cell_some hb z8
  have x2 := Below.cell_some hb z2
  have c0 := Below.cell_some hb (hrow.cell hk)
  have hf := fun W (hW : Below (w.alloc (.cells #[.string p, .string v] 29)).heap.size (w.alloc (.cells #[.string p, .string v] 29)) W) => idxFind_in a n cap P V R K B Rv Kv p v W ((h.below hb).below hW) hl
  rw [hf0] at hf
  have hkn : (k : Int) < (n : Int) := by omega
  generalize M k = X at c0 ⊢
  replace hf := Lib.hid hf
  clear h z8 z2 hrow hf0
  go_enter Tryz.func98, Tryz.ntmps98
  go_wp2_with fail
  generalize hw1 : w.alloc (.cells #[.string p, .string v] 29) = w1 at *
  clear hw1
  have hB := hb
  clear hb
  have kqy0 := fun d os => cell_patch (d := d) (os := os) y0
  have kqy1 := fun d os => cell_patch (d := d) (os := os) y1
  have kqx8 := fun d os => cell_patch (d := d) (os := os) x8
  have kqx2 := fun d os => cell_patch (d := d) (os := os) x2
  have kqc0 := fun d os => cell_patch (d := d) (os := os) c0
  refine wp_region_quiet_patch (by kernel_rfl) (by kernel_rfl) ?_
  repeat (go_big_quiet_step ((go_at_call 61; exact Calls.patch_of (hf.out _ (below_patch _ _ _)))))
  refine wpQuiet_nil ?_
  intro _ hw'
  obtain ⟨⟨dq, osq⟩, hw''⟩ := hw'
  subst hw''
  clear kqy0 kqy1 kqx8 kqx2 kqc0
  have hb := below_patch w1 dq osq
  replace hB := below_step hB hb
  clear hb
  generalize patch w1 dq osq = w2 at hB ⊢
  go_wp2_with fail
  go_ret
  exact ⟨rfl, hB⟩
end Go.Proofs.Pw
