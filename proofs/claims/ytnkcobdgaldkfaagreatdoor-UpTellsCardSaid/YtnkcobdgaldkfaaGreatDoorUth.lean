/- Ut: walks and plain laws, joined: MarksMath Marks RefP RefP2 RefP3 ModOrd FileRef RefEnt RefRoots. Conditions: at each theorem. -/
import Derived.Test.YtnkcobdgaldkfaaGreatDoorUtc
import Derived.Test.YtnkcobdgaldkfaaGreatDoorUtg
import Derived.Deep.OwnRows
import Derived.Test.YtnkcobdgaldkfaaGreatDoorUtf
import Derived.Test.YtnkcobdgaldkfaaGreatDoorUta
import Derived.Lib.IndexLaws
import Derived.Test.YtnkcobdgaldkfaaGreatDoorUtb

namespace Go.Proofs.Pw
open Go.Lib hiding intOf
def setM (M : Nat → Bool) (k : Nat) : Nat → Bool := fun j => if j = k then true else M j
theorem setM_same (M : Nat → Bool) (k : Nat) : setM M k k = true := by simp [setM]
theorem setM_of {M : Nat → Bool} {j : Nat} (k : Nat) (h : M j = true) : setM M k j = true := by unfold setM; split <;> simp [*]
theorem setM_true {M : Nat → Bool} {j k : Nat} (h : setM M k j = true) : j = k ∨ M j = true := by
  unfold setM at h
  split at h
  · exact .inl ‹_›
  · exact .inr h
def leftM (n : Nat) (M : Nat → Bool) : Nat := (List.range n).countP fun j => !M j
theorem leftM_le {n : Nat} {M M' : Nat → Bool} (h : ∀ j, M j = true → M' j = true) : leftM n M' ≤ leftM n M :=
  List.countP_mono_left fun j _ hj => by
    cases hM : M j
    · rfl
    · rw [h j hM] at hj; exact hj
theorem leftM_set {n : Nat} {M : Nat → Bool} {k : Nat} (hk : k < n) (h : M k = false) : leftM n (setM M k) < leftM n M := by
  unfold leftM
  induction n with
  | zero => exact absurd hk (Nat.not_lt_zero _)
  | succ n ih =>
    rw [List.range_succ, List.countP_append, List.countP_append]
    by_cases e : k = n
    · subst e
      have h1 : List.countP (fun j => !setM M k j) [k] = 0 := by simp [setM]
      have h2 : List.countP (fun j => !M j) [k] = 1 := by simp [h]
      have h3 := leftM_le (n := k) (M := M) (M' := setM M k) (fun j hj => setM_of k hj)
      unfold leftM at h3
      omega
    · have h1 := ih (by omega)
      have h2 : List.countP (fun j => !setM M k j) [n] = List.countP (fun j => !M j) [n] := by
        have : setM M k n = M n := by unfold setM; rw [if_neg (fun h => e h.symm)]
        simp only [List.countP_cons, List.countP_nil, this]
      rw [h2]
      omega
def SoundM (l : List En) (roots : List Md) (M : Nat → Bool) : Prop := ∀ j, j < l.length → M j = true → Reached l roots (enAt l j).md
def ClosedM (l : List En) (M : Nat → Bool) (i : Nat) : Prop := M i = true → ∀ r ∈ (enAt l i).reqs, M (findE l r).toNat = true
theorem RightI.at_ {l : List En} (_h : RightI l) {m : Md} {e : En} (he : e ∈ l) (hm : e.md = m) : (findE l m).toNat < l.length ∧ findE l m = ((findE l m).toNat : Int) ∧ (enAt l (findE l m).toNat).md = m := by
  have h0 : ¬ findE l m < 0 := fun h => findE_lt.1 h e he hm
  obtain ⟨k, h1, h2, h3⟩ := findE_nat h0
  rw [h1]
  exact ⟨h2, rfl, h3⟩
theorem RightI.place {l : List En} (h : RightI l) {j : Nat} (hj : j < l.length) : findE l (enAt l j).md = (j : Int) := by
  obtain ⟨h1, h2, h3⟩ := h.at_ (enAt_mem hj) rfl
  rw [h2]
  have := rises_inj modCmp_ord (k := (·.md)) h.rise (enAt_mem h1) (enAt_mem hj) h3
  have hnd : ∀ (i k : Nat), i < l.length → k < l.length → i < k → (enAt l i).md ≠ (enAt l k).md := fun i k hi hk hik e => by
    have hp := List.pairwise_iff_getElem.1 h.rise i k (by simpa using hi) (by simpa using hk) hik
    rw [List.getElem_map, List.getElem_map, ← enAt_elem hi, ← enAt_elem hk, e, modCmp_ord.self] at hp
    exact absurd hp (by decide)
  rcases Nat.lt_trichotomy (findE l (enAt l j).md).toNat j with h5 | h5 | h5
  · exact absurd h3 (hnd _ _ h1 hj h5)
  · rw [h5]
  · exact absurd h3.symm (hnd _ _ hj h1 h5)
theorem soundM_root {l : List En} {roots : List Md} {M : Nat → Bool} (hG : RightG l roots) (h : SoundM l roots M) {m : Md} (hm : m ∈ roots) : SoundM l roots (setM M (findE l m).toNat) := fun j hj hM => by
  obtain ⟨e, he, h1⟩ := hG.at_ m hm
  rcases setM_true hM with rfl | h2
  · rw [(hG.idx.at_ he h1).2.2]; exact .root hm
  · exact h j hj h2
theorem soundM_req {l : List En} {roots : List Md} {M : Nat → Bool} (hG : RightG l roots) (h : SoundM l roots M) {i : Nat} (hi : i < l.length) (hM0 : M i = true) {r : Md} (hr : r ∈ (enAt l i).reqs) : SoundM l roots (setM M (findE l r).toNat) := fun j hj hM => by
  obtain ⟨e, he, h1⟩ := hG.idx.all _ (enAt_mem hi) r hr
  rcases setM_true hM with rfl | h2
  · rw [(hG.idx.at_ he h1).2.2]; exact .step (enAt_mem hi) (h i hi hM0) hr
  · exact h j hj h2
theorem marks_done {l : List En} {roots : List Md} {M : Nat → Bool} (hG : RightG l roots) (hs : SoundM l roots M) (hr : ∀ m ∈ roots, M (findE l m).toNat = true) (hc : ∀ i, i < l.length → ClosedM l M i) {j : Nat} (hj : j < l.length) : M j = true ↔ Reached l roots (enAt l j).md := by
  refine ⟨hs j hj, fun h => ?_⟩
  have key : ∀ {m : Md}, Reached l roots m → M (findE l m).toNat = true := by
    intro m hm
    induction hm with
    | root hm => exact hr _ hm
    | step he h1 h2 ih =>
      obtain ⟨i, hi, e⟩ := mem_enAt he
      subst e
      rw [hG.idx.place hi] at ih
      exact hc i hi ih _ h2
  have := key h
  rw [hG.idx.place hj] at this
  exact this
end Go.Proofs.Pw

namespace Go.Proofs.Pw
open Go.RowKit
open Go.Lib hiding intOf
theorem Tryz.infoBool : (Tryz.prog.info? 4).map (fun i => (i.zero, i.size, i.bytes)) = some (some (.bool false), 1, 1) := by kernel_rfl
def MarkRow (w : World) (g n : Nat) (M : Nat → Bool) : Prop := w.rowIs g 4 n (fun j => .bool (M j))
theorem MarkRow.below {w w' : World} {g n : Nat} {M : Nat → Bool} (h : MarkRow w g n M) (hb : Below w.heap.size w w') : MarkRow w' g n M :=
  World.rowIs.of_block h (hb.block g (World.rowIs.lt h))
theorem MarkRow.set {w : World} {g n : Nat} {M : Nat → Bool} (h : MarkRow w g n M) (k : Nat) : MarkRow (w.setCell ⟨g, k, none⟩ (.bool true)) g n (setM M k) :=
  (World.rowIs.set h k (.bool true)).congr fun j _ => by unfold setM; split <;> rfl
theorem MarkRow.cell {w : World} {g n : Nat} {M : Nat → Bool} (h : MarkRow w g n M) {k : Nat} (hk : k < n) : w.cell? ⟨g, k, none⟩ = some (.bool (M k)) := World.rowIs.cell h hk
theorem MarkRow.fz {w : World} {g n : Nat} {M : Nat → Bool} (h : MarkRow w g n M) (k : Nat) : w.frozen? ⟨g, k, none⟩ = false := World.rowIs.frozen h k
noncomputable def leftW (W : World) (g n : Nat) : Nat := (List.range n).countP fun j => @decide (W.cell? ⟨g, j, none⟩ = some (.bool false)) (Classical.propDecidable _)
theorem leftW_row {W : World} {g n : Nat} {M : Nat → Bool} (h : MarkRow W g n M) : leftW W g n = leftM n M := by
  unfold leftW leftM
  refine List.countP_congr fun j hj => ?_
  rw [h.cell (List.mem_range.1 hj)]
  cases M j <;> simp
def bitOf : Value → Nat
  | .bool true => 1
  | _ => 0
set_option maxHeartbeats 8000000 in
set_option maxRecDepth 100000 in
theorem marks_in (a : Option Addr) (n cap : Nat) (P V : Nat → ByteArray) (R : Nat → List Md) (K : Nat → List Str) (B : Nat → Bool) (Rv Kv : Nat → Value) (rv : Value) (roots : List Md) (w : World) (h : EntsIn w a n cap P V R K B Rv Kv) (hr : ModsAt w rv roots) (hG : RightG (enF n P V R K B) roots) (hs : ShortI (enF n P V R K B)) (hl2 : roots.length ≤ 1000000) :
    Calls Tryz.prog 71 #[.slice a n cap, rv] w fun e w' => (∃ M, e = .returned (.slice (some ⟨w.heap.size, 0, none⟩) n n) ∧ MarkRow w' w.heap.size n M ∧ ∀ j, j < n → (M j = true ↔ Reached (enF n P V R K B) roots (enAt (enF n P V R K B) j).md)) ∧ Below w.heap.size w w' := by
  obtain ⟨a2, m, cap2, Q, U, rfl, rfl, hmc, hcap2, hc2⟩ := hr
  rw [mdF_length] at hl2
  have hn : n ≤ 100 := by have := hG.idx.len; rwa [enF_length] at this
  have hmk := run_make_row' (P := Tryz.prog) 34 4 (.bool false) 1 Tryz.underlying34 Tryz.infoBool rfl .i64 .i64 n (by omega) (by omega)
  have hB := below_alloc w (.cells (madeCells #[.bool false] n) 4)
  have hrow : MarkRow (w.alloc (.cells (madeCells #[.bool false] n) 4)) w.heap.size n (fun _ => false) := World.rowIs_made w (.bool false) n 4
  have hfo := fun (p v : ByteArray) (W : World) (hb : Below w.heap.size w W) => findOf_in a n cap P V R K B Rv Kv p v W (h.below hb) (by omega)
  have H := Lib.hid h
  have HSH := Lib.hid hs
  obtain ⟨l, hl⟩ : ∃ l, enF n P V R K B = l := ⟨_, rfl⟩
  have HEN : Hid (∀ j, j < n → enAt l j = ⟨((P j).data.toList, (V j).data.toList), R j, K j, B j⟩) := Lib.hid (fun j hj => by rw [← hl]; exact enAt_enF hj)
  have HLEN : Hid (l.length = n) := Lib.hid (by rw [← hl, enF_length])
  simp only [hl] at hfo hG ⊢
  have HG := Lib.hid hG
  have HSL : Hid (∀ j, j < n → (R j).length ≤ 1000000) := Lib.hid (fun j hj => (HSH.out.at_ hj).2.2.2.1.1)
  replace hc2 := Lib.hid hc2
  replace hfo := Lib.hid hfo
  clear h hs hG hl
  go_enter Tryz.func71, Tryz.ntmps71
  go_wp2_with fail
  clear hmk
  generalize w.alloc (.cells (madeCells #[.bool false] n) 4) = w1 at *
  go_loopw [6] (fun x wr => ∃ (k : Nat) (M : Nat → Bool), k ≤ m ∧ x = .int .i64 k ∧ Hid (MarkRow wr w.heap.size n M) ∧ Below w.heap.size w wr ∧ Hid (SoundM l (mdF m Q U) M) ∧ Hid (∀ j, j < k → M (findE l ((Q j).data.toList, (U j).data.toList)).toNat = true)) (fun x _ => m - (intOf x).toNat)
  case atStart => exact ⟨0, _, Nat.zero_le _, rfl, Lib.hid hrow, hB, Lib.hid (fun j _ h => by cases h), Lib.hid (fun j hj => absurd hj (Nat.not_lt_zero _))⟩
  case round =>
    obtain ⟨k, M, hk, rfl, HRow, hBk, HS, HA⟩ := hrel
    by_cases hlt : k < m
    · have hkn : (k : Int) < (m : Int) := by omega
      obtain ⟨b1, o1, ea, c0, c1⟩ := hc2.out k hlt
      replace c0 := Below.cell_some hBk c0
      replace c1 := Below.cell_some hBk c1
      subst ea
      have hf := hfo.out (Q k) (U k) wr hBk
      have hmem : ((Q k).data.toList, (U k).data.toList) ∈ mdF m Q U := List.mem_of_getElem? (mdF_get m Q U k hlt)
      obtain ⟨e0, he0, he1⟩ := HG.out.at_ _ hmem
      have hat := HG.out.idx.at_ he0 he1
      rw [HLEN.out] at hat
      have HS' : Hid (SoundM l (mdF m Q U) (setM M (findE l ((Q k).data.toList, (U k).data.toList)).toNat)) := Lib.hid (soundM_root HG.out HS.out hmem)
      have HA' : Hid (∀ j, j < k + 1 → setM M (findE l ((Q k).data.toList, (U k).data.toList)).toNat (findE l ((Q j).data.toList, (U j).data.toList)).toNat = true) := Lib.hid (fun j hj => by
        by_cases e : j = k
        · subst e; exact setM_same _ _
        · exact setM_of _ (HA.out j (by omega)))
      obtain ⟨hat1, hat2, _⟩ := hat
      rw [hat2] at hf
      generalize (findE l ((Q k).data.toList, (U k).data.toList)).toNat = x at *
      have hxn : (x : Int) < (n : Int) := by omega
      replace hf := Lib.hid hf
      clear hat2 hmem he0 he1
      go_wp2_with fail
      refine hf.out.mono ?_
      rintro e w2 ⟨rfl, hb⟩
      have HRow2 := Lib.hid (HRow.out.below hb)
      have d0 := HRow2.out.cell hat1
      have df := HRow2.out.fz x
      replace hBk := below_step hBk hb
      have HRow3 := Lib.hid (HRow2.out.set x)
      have hB3 := hBk.setCell (p := ⟨w.heap.size, x, none⟩) (Nat.le_refl _) (.bool true)
      clear hb hf c0 c1
      go_wp2_with fail
      go_roundw
      case rel => exact ⟨k + 1, _, by omega, by go_num, HRow3, hB3, HS', HA'⟩
      case measure => simp [intOf]; omega
    · have HRT : Hid (∀ r ∈ mdF m Q U, M (findE l r).toNat = true) := Lib.hid (fun r hr => by
        obtain ⟨j, hj⟩ := List.getElem?_of_mem hr
        have hjl := (List.getElem?_eq_some_iff.1 hj).1
        rw [mdF_length] at hjl
        rw [mdF_get m Q U j hjl] at hj
        rw [← Option.some.inj hj]
        exact HA.out j (by omega))
      have hnk : ¬ (k : Int) < (m : Int) := by omega
      clear hlt hk HA
      go_wp2_with fail
      clear hnk
      generalize wr = wl at *
      go_loopw [7] (fun x wr => ∃ (b : Bool) (M : Nat → Bool), x = .bool b ∧ Hid (MarkRow wr w.heap.size n M) ∧ Below w.heap.size w wr ∧ Hid (SoundM l (mdF m Q U) M) ∧ Hid (∀ r ∈ mdF m Q U, M (findE l r).toNat = true) ∧ Hid (b = false → ∀ i, i < n → ClosedM l M i)) (fun x W => 2 * leftW W w.heap.size n + bitOf x)
      case atStart => exact ⟨true, M, rfl, HRow, hBk, HS, HRT, Lib.hid (fun h => by cases h)⟩
      case round =>
        clear HRow hBk HS HRT
        obtain ⟨b0, M0, rfl, HRow, hBk, HS, HRT, HC⟩ := hrel
        have HMS : Hid (leftW wr w.heap.size n = leftM n M0) := Lib.hid (leftW_row HRow.out)
        cases b0 with
        | false =>
          have HD : Hid (∀ j, j < n → (M0 j = true ↔ Reached l (mdF m Q U) (enAt l j).md)) := Lib.hid (fun j hj => marks_done HG.out HS.out HRT.out (fun i hi => HC.out rfl i (by rw [← HLEN.out]; exact hi)) (by rw [HLEN.out]; exact hj))
          clear HC HMS
          go_wp2_with fail
          go_ret
          exact ⟨⟨M0, rfl, HRow.out, HD.out⟩, hBk⟩
        | true =>
          clear HC
          go_wp2_with fail
          generalize hwo : wr = wo at *
          go_loopw [7, 8] (fun y x wr => ∃ (q : Nat) (b : Bool) (M : Nat → Bool), q ≤ n ∧ x = .int .i64 q ∧ y = .bool b ∧ Hid (MarkRow wr w.heap.size n M) ∧ Below w.heap.size w wr ∧ Hid (SoundM l (mdF m Q U) M) ∧ Hid (∀ j, M0 j = true → M j = true) ∧ Hid (b = true → leftM n M < leftM n M0) ∧ Hid (b = false → M = M0 ∧ ∀ i, i < q → ClosedM l M i)) (fun _ x _ => n - (intOf x).toNat)
          case atStart => exact ⟨0, false, M0, Nat.zero_le _, rfl, rfl, HRow, hBk, HS, Lib.hid (fun _ h => h), Lib.hid (fun h => by cases h), Lib.hid (fun _ => ⟨rfl, fun i hi => absurd hi (Nat.not_lt_zero _)⟩)⟩
          case round =>
            clear HRow hBk HS
            obtain ⟨q, b1, M1, hq, rfl, rfl, HRow, hBk, HS, HM, HLT, HC⟩ := hrel
            by_cases hlt : q < n
            · have hkn : (q : Int) < (n : Int) := by omega
              obtain ⟨b2, o2, ea, hcell⟩ := H.out.at_ q hlt
              obtain ⟨a1, n1, c1, P1, V1, e1, e2, _, _, hc1⟩ := H.out.reqs q hlt
              have hlen : n1 ≤ 1000000 := by
                have := HSL.out q hlt
                rw [e2, mdF_length] at this
                exact this
              have HQ : Hid ((enAt l q).reqs = mdF n1 P1 V1) := Lib.hid (by rw [HEN.out q hlt, e2])
              rw [e1] at hcell
              have d2 := hcell.c2
              subst ea
              replace hc1 := Lib.hid hc1
              clear e1 e2 hcell
              go_wp2_with fail
              generalize hwp : wr = wp at *
              clear hwp
              go_loopw [7, 9] (fun y x wr => ∃ (p : Nat) (b : Bool) (M : Nat → Bool), p ≤ n1 ∧ x = .int .i64 p ∧ y = .bool b ∧ Hid (MarkRow wr w.heap.size n M) ∧ Below w.heap.size w wr ∧ Hid (SoundM l (mdF m Q U) M) ∧ Hid (∀ j, M0 j = true → M j = true) ∧ Hid (b = true → leftM n M < leftM n M0) ∧ Hid (b = false → M = M0 ∧ (∀ i, i < q → ClosedM l M i) ∧ ∀ j, j < p → M (findE l ((P1 j).data.toList, (V1 j).data.toList)).toNat = true)) (fun _ x _ => n1 - (intOf x).toNat)
              case atStart => exact ⟨0, b1, M1, Nat.zero_le _, rfl, rfl, HRow, hBk, HS, HM, HLT, Lib.hid (fun h => ⟨(HC.out h).1, (HC.out h).2, fun j hj => absurd hj (Nat.not_lt_zero _)⟩)⟩
              case round =>
                clear HRow hBk HS HM HLT HC
                obtain ⟨p, b3, M3, hp, rfl, rfl, HRow, hBk, HS, HM, HLT, HC⟩ := hrel
                have x2 := Below.cell_some hBk d2
                have g0 := HRow.out.cell hlt
                cases hMq : M3 q with
                | false =>
                  rw [hMq] at g0
                  have HC' : Hid (b3 = false → M3 = M0 ∧ ∀ i, i < q + 1 → ClosedM l M3 i) := Lib.hid (fun h => ⟨(HC.out h).1, fun i hi => by
                    by_cases e : i = q
                    · subst e; intro h'; rw [hMq] at h'; cases h'
                    · exact (HC.out h).2.1 i (by omega)⟩)
                  clear hMq x2 HC
                  go_wp2_with fail
                  go_roundw
                  case rel => exact ⟨q + 1, b3, M3, by omega, by go_num, rfl, HRow, hBk, HS, HM, HLT, HC'⟩
                  case measure => simp [intOf]; omega
                | true =>
                  rw [hMq] at g0
                  by_cases hlp : p < n1
                  · have hpn : (p : Int) < (n1 : Int) := by omega
                    obtain ⟨b4, o4, e3, y0, y1⟩ := hc1.out p hlp
                    subst e3
                    replace y0 := Below.cell_some hBk y0
                    replace y1 := Below.cell_some hBk y1
                    have hf := hfo.out (P1 p) (V1 p) wr hBk
                    have hmem : ((P1 p).data.toList, (V1 p).data.toList) ∈ (enAt l q).reqs := by rw [HQ.out]; exact List.mem_of_getElem? (mdF_get n1 P1 V1 p hlp)
                    obtain ⟨e0, he0, he1⟩ := HG.out.idx.all _ (enAt_mem (by rw [HLEN.out]; exact hlt)) _ hmem
                    have hat := HG.out.idx.at_ he0 he1
                    rw [HLEN.out] at hat
                    obtain ⟨hat1, hat2, _⟩ := hat
                    have HS' := Lib.hid (soundM_req HG.out HS.out (by rw [HLEN.out]; exact hlt) hMq hmem)
                    rw [hat2] at hf
                    obtain ⟨x, hx⟩ : ∃ x, (findE l ((P1 p).data.toList, (V1 p).data.toList)).toNat = x := ⟨_, rfl⟩
                    rw [hx] at hat1 hf HS'
                    have hxn : (x : Int) < (n : Int) := by omega
                    cases hMx : M3 x with
                    | true =>
                      have g1 := HRow.out.cell hat1
                      rw [hMx] at g1
                      have HC' : Hid (b3 = false → M3 = M0 ∧ (∀ i, i < q → ClosedM l M3 i) ∧ ∀ j, j < p + 1 → M3 (findE l ((P1 j).data.toList, (V1 j).data.toList)).toNat = true) := Lib.hid (fun h => ⟨(HC.out h).1, (HC.out h).2.1, fun j hj => by
                        by_cases e : j = p
                        · subst e; rw [hx]; exact hMx
                        · exact (HC.out h).2.2 j (by omega)⟩)
                      replace hf := Lib.hid hf
                      clear hMq hMx hx hat2 hmem he0 he1 HC HS'
                      go_wp2_with fail
                      refine hf.out.mono ?_
                      rintro e w2 ⟨rfl, hb⟩
                      have HRow2 := Lib.hid (HRow.out.below hb)
                      replace g1 := Below.cell_some hb g1
                      replace hBk := below_step hBk hb
                      clear hb hf y0 y1 x2 g0
                      go_wp2_with fail
                      go_roundw
                      case rel => exact ⟨p + 1, b3, M3, by omega, by go_num, rfl, HRow2, hBk, HS, HM, HLT, HC'⟩
                      case measure => simp [intOf]; omega
                    | false =>
                      have g1 := HRow.out.cell hat1
                      rw [hMx] at g1
                      have HM' : Hid (∀ j, M0 j = true → setM M3 x j = true) := Lib.hid (fun j hj => setM_of x (HM.out j hj))
                      have HLT' : Hid (leftM n (setM M3 x) < leftM n M0) := Lib.hid (by
                        have h1 := leftM_set hat1 hMx
                        have h2 := leftM_le (n := n) HM.out
                        omega)
                      replace hf := Lib.hid hf
                      clear hMq hMx hx hat2 hmem he0 he1 HC HLT
                      go_wp2_with fail
                      refine hf.out.mono ?_
                      rintro e w2 ⟨rfl, hb⟩
                      have HRow2 := Lib.hid (HRow.out.below hb)
                      replace g1 := Below.cell_some hb g1
                      have df := HRow2.out.fz x
                      replace hBk := below_step hBk hb
                      have HRow3 := Lib.hid (HRow2.out.set x)
                      have hB3 := hBk.setCell (p := ⟨w.heap.size, x, none⟩) (Nat.le_refl _) (.bool true)
                      clear hb hf y0 y1 x2 g0
                      go_wp2_with fail
                      go_roundw
                      case rel => exact ⟨p + 1, true, _, by omega, by go_num, rfl, HRow3, hB3, HS', HM', Lib.hid (fun _ => HLT'.out), Lib.hid (fun h => by cases h)⟩
                      case measure => simp [intOf]; omega
                  · have HC' : Hid (b3 = false → M3 = M0 ∧ ∀ i, i < q + 1 → ClosedM l M3 i) := Lib.hid (fun h => ⟨(HC.out h).1, fun i hi => by
                      by_cases e : i = q
                      · subst e
                        intro _ r hr
                        rw [HQ.out] at hr
                        obtain ⟨j, hj⟩ := List.getElem?_of_mem hr
                        have hjl := (List.getElem?_eq_some_iff.1 hj).1
                        rw [mdF_length] at hjl
                        rw [mdF_get n1 P1 V1 j hjl] at hj
                        rw [← Option.some.inj hj]
                        exact (HC.out h).2.2 j (by omega)
                      · exact (HC.out h).2.1 i (by omega)⟩)
                    have hnp : ¬ (p : Int) < (n1 : Int) := by omega
                    clear hMq HC hlp hp
                    go_wp2_with fail
                    go_roundw
                    case rel => exact ⟨q + 1, b3, M3, by omega, by go_num, rfl, HRow, hBk, HS, HM, HLT, HC'⟩
                    case measure => simp [intOf]; omega
            · have HRT' : Hid (∀ r ∈ mdF m Q U, M1 (findE l r).toNat = true) := Lib.hid (fun r hr => HM.out _ (HRT.out r hr))
              have HC' : Hid (b1 = false → ∀ i, i < n → ClosedM l M1 i) := Lib.hid (fun h i hi => (HC.out h).2 i (by omega))
              have HMS2 : Hid (2 * leftW wr w.heap.size n + bitOf (.bool b1) < 2 * leftW wo w.heap.size n + bitOf (.bool true)) := Lib.hid (by
                rw [HMS.out, leftW_row HRow.out]
                cases b1 with
                | true => have := HLT.out rfl; omega
                | false =>
                  have := leftM_le (n := n) HM.out
                  show 2 * leftM n M1 + 0 < 2 * leftM n M0 + 1
                  omega)
              have hnq : ¬ (q : Int) < (n : Int) := by omega
              clear hlt hq HC HLT
              go_wp2_with fail
              go_roundw
              case rel => exact ⟨b1, M1, rfl, HRow, hBk, HS, HRT', HC'⟩
              case measure =>
                have := HMS2.out
                rw [← hwo] at this
                simpa [bitOf] using this
end Go.Proofs.Pw

namespace Go.Proofs.Pw
open Go.RowKit
open Go.Lib hiding intOf
def refSuf (s : Str) : Int := if looksSuf s then (if isSuf s then (sufNum s : Int) else -1) else 0
theorem looks_short {s : ByteArray} (h : s.size < 2) : looksSuf s.data.toList = false := by
  unfold looksSuf
  cases hp : hasPrefix s.data.toList [118] with
  | false => rfl
  | true =>
    have h0 := trimPrefix_byte s hp
    rw [sufD, h0, Bool.true_and]
    have : s.data.toList.drop 1 = [] := List.drop_eq_nil_of_le (by rw [← size_eq]; omega)
    rw [this]; rfl
theorem looks_byte {s : ByteArray} (h : 0 < s.size) (hb : s[0] ≠ 118) : looksSuf s.data.toList = false := by
  unfold looksSuf
  rw [hasPrefix_byte s h, decide_eq_false hb, Bool.false_and]
theorem looks_is {s : ByteArray} (h : 0 < s.size) (hb : s[0] = 118) : looksSuf s.data.toList = areDigits (s.extract 1 s.size).data.toList ∧ sufD s.data.toList = (s.extract 1 s.size).data.toList := by
  have hp : hasPrefix s.data.toList [118] = true := by rw [hasPrefix_byte s h, decide_eq_true hb]
  have h0 := trimPrefix_byte s hp
  unfold looksSuf
  rw [sufD, h0, hp, Bool.true_and, extract_to_end]
  exact ⟨rfl, rfl⟩
set_option maxHeartbeats 400000 in
theorem refSuffix_calls (s : ByteArray) (w : World) (hs : s.size ≤ 1000000000) :
    Calls Tryz.prog 132 #[.string s] w fun e w' => e = .returned (.int .i64 (refSuf s.data.toList)) ∧ w = w' := by
  by_cases h2 : s.size < 2
  · have HF : Hid (refSuf s.data.toList = 0) := Lib.hid (by unfold refSuf; rw [looks_short h2]; rfl)
    go_enter Tryz.func132, Tryz.ntmps132
    go_wp2_with fail
    go_ret
    rw [HF.out]
    exact ⟨rfl, rfl⟩
  · have h0 : 0 < s.size := by omega
    by_cases hb : s[0] = 118
    · have hb' : (s[0].toNat : Int) = 118 := by rw [hb]; rfl
      obtain ⟨hl, hd⟩ := looks_is h0 hb
      have hx : (s.extract 1 s.size).size ≤ 4000000000 := Nat.le_trans (extract_size_le s _ _) (by omega)
      have hR : refSuf s.data.toList = if areDigits (s.extract 1 s.size).data.toList then (if (numberOf (s.extract 1 s.size).data.toList).2 = 0 ∧ 2 ≤ (numberOf (s.extract 1 s.size).data.toList).1 then ((numberOf (s.extract 1 s.size).data.toList).1 : Int) else -1) else 0 := by
        unfold refSuf isSuf sufNum
        rw [hl, hd]
        cases areDigits (s.extract 1 s.size).data.toList with
        | false => rfl
        | true => simp only [Bool.true_and, decide_eq_true_eq, if_true]
      have HR := Lib.hid hR
      have hda := refDigits_calls (s.extract 1 s.size) w hx
      have hnu := refNumber_calls (s.extract 1 s.size) w hx
      clear hl hd hR hb
      generalize areDigits (s.extract 1 s.size).data.toList = D at HR hda
      generalize (numberOf (s.extract 1 s.size).data.toList).2 = E at HR hnu
      generalize (numberOf (s.extract 1 s.size).data.toList).1 = M at HR hnu
      cases D with
      | false =>
        go_enter Tryz.func132, Tryz.ntmps132
        go_wp2_with fail
        refine hda.mono ?_
        rintro e w' ⟨rfl, rfl⟩
        go_wp2_with fail
        go_ret
        rw [HR.out]
        exact ⟨rfl, rfl⟩
      | true =>
        by_cases hE : 0 < E
        · have hE' : (0 : Int) < (E : Int) := by omega
          have HF : Hid (refSuf s.data.toList = -1) := Lib.hid (by rw [HR.out, if_pos rfl, if_neg (by omega)])
          go_enter Tryz.func132, Tryz.ntmps132
          go_wp2_with fail
          refine hda.mono ?_
          rintro e w' ⟨rfl, rfl⟩
          go_wp2_with fail
          refine hnu.mono ?_
          rintro e w' ⟨rfl, rfl⟩
          go_wp2_with fail
          go_ret
          rw [HF.out]
          exact ⟨rfl, rfl⟩
        · obtain rfl : E = 0 := by omega
          by_cases hM : M < 2
          · have hM' : (M : Int) < 2 := by omega
            have HF : Hid (refSuf s.data.toList = -1) := Lib.hid (by rw [HR.out, if_pos rfl, if_neg (by omega)])
            go_enter Tryz.func132, Tryz.ntmps132
            go_wp2_with fail
            refine hda.mono ?_
            rintro e w' ⟨rfl, rfl⟩
            go_wp2_with fail
            refine hnu.mono ?_
            rintro e w' ⟨rfl, rfl⟩
            go_wp2_with fail
            go_ret
            rw [HF.out]
            exact ⟨rfl, rfl⟩
          · have hM' : ¬ (M : Int) < 2 := by omega
            have HF : Hid (refSuf s.data.toList = M) := Lib.hid (by rw [HR.out, if_pos rfl, if_pos (by omega)])
            go_enter Tryz.func132, Tryz.ntmps132
            go_wp2_with fail
            refine hda.mono ?_
            rintro e w' ⟨rfl, rfl⟩
            go_wp2_with fail
            refine hnu.mono ?_
            rintro e w' ⟨rfl, rfl⟩
            go_wp2_with fail
            go_ret
            rw [HF.out]
            exact ⟨rfl, rfl⟩
    · have HF : Hid (refSuf s.data.toList = 0) := Lib.hid (by unfold refSuf; rw [looks_byte h0 hb]; rfl)
      have hb' : ((s[0].toNat : Int) == 118) = false := byte_ne_int (c := 118) rfl hb
      clear hb
      go_enter Tryz.func132, Tryz.ntmps132
      go_wp2_with fail
      go_ret
      rw [HF.out]
      exact ⟨rfl, rfl⟩
theorem isElemByte_iff (c : UInt8) : isElemByte c = true ↔ (97 ≤ (c.toNat : Int) ∧ (c.toNat : Int) ≤ 122) ∨ (48 ≤ (c.toNat : Int) ∧ (c.toNat : Int) ≤ 57) ∨ (c.toNat : Int) = 46 ∨ (c.toNat : Int) = 45 ∨ (c.toNat : Int) = 95 := by
  unfold isElemByte isDig
  have e : ∀ d : UInt8, (c == d) = decide (c.toNat = d.toNat) := fun d => by
    rw [Bool.eq_iff_iff, beq_iff_eq, decide_eq_true_eq]
    exact ⟨fun h => by rw [h], fun h => UInt8.toNat_inj.1 h⟩
  rw [e, e, e]
  simp only [Bool.or_eq_true, decide_eq_true_eq, show (46 : UInt8).toNat = 46 from rfl, show (45 : UInt8).toNat = 45 from rfl, show (95 : UInt8).toNat = 95 from rfl]
  omega
theorem elem_classes (c : Int) :
    ((97 ≤ c ∧ c ≤ 122 ∧ 48 ≤ c ∧ ¬ c ≤ 57 ∧ (c == 46) = false) ∨ (¬ 97 ≤ c ∧ c ≤ 122 ∧ 48 ≤ c ∧ c ≤ 57 ∧ (c == 46) = false) ∨ c = 45 ∨ c = 95 ∨ c = 46) ∨
    (((c == 46) = false ∧ (c == 45) = false ∧ (c == 95) = false) ∧ ¬ ((97 ≤ c ∧ c ≤ 122) ∨ (48 ≤ c ∧ c ≤ 57)) ∧
      ((¬ 97 ≤ c ∧ c ≤ 122 ∧ ¬ 48 ≤ c ∧ c ≤ 57) ∨ (¬ 97 ≤ c ∧ c ≤ 122 ∧ 48 ≤ c ∧ ¬ c ≤ 57) ∨ (97 ≤ c ∧ ¬ c ≤ 122 ∧ 48 ≤ c ∧ ¬ c ≤ 57))) := by
  have e : ∀ d : Int, (c == d) = false ↔ c ≠ d := fun d => beq_eq_false_iff_ne
  simp only [e]
  omega
theorem elem_byte {s : ByteArray} {k : Nat} (h : k < s.size) (hb : isElemByte s[k] = false) : elemOk s.data.toList = false := by
  have : s.data.toList.all isElemByte = false := by
    rw [Bool.eq_false_iff]
    intro e
    have := List.all_eq_true.1 e _ (byte_mem s k h)
    rw [hb] at this
    cases this
  unfold elemOk
  rw [this]
  simp
theorem occ_dots {s : ByteArray} {k : Nat} : occAt s.data.toList dots k = true ↔ (s.extract k (k + 3)).data.toList = dots := by
  unfold occAt
  have e : (s.extract k (k + 3)).data.toList = (s.data.toList.drop k).take 3 := by rw [extract_data, Nat.add_sub_cancel_left]
  rw [List.isPrefixOf_iff_prefix, e]
  constructor
  · rintro ⟨t, ht⟩
    rw [← ht]; rfl
  · intro h
    exact ⟨(s.data.toList.drop k).drop 3, by rw [← h]; exact List.take_append_drop 3 _⟩
theorem elem_occ {s : ByteArray} {k : Nat} (hk : k ≤ s.size) (h : occAt s.data.toList dots k = true) : elemOk s.data.toList = false := by
  have : contains s.data.toList dots = true := by
    unfold contains
    apply decide_eq_true
    rcases index_spec s.data.toList dots with ⟨_, h2⟩ | ⟨i, h1, _⟩
    · have := h2 k (by rw [← size_eq]; exact hk)
      rw [h] at this; cases this
    · omega
  unfold elemOk
  rw [this]
  simp
theorem elem_dot {s : Str} (h : s.all (· == 46) = true) : elemOk s = false := by unfold elemOk; rw [h]; simp
theorem elem_yes {s : Str} (h1 : s.all isElemByte = true) (h2 : s.all (· == 46) = false) (h3 : NoOcc s dots (s.length - 2)) : elemOk s = true := by
  have hc : contains s dots = false := by
    unfold contains
    apply decide_eq_false
    rw [index_past (by decide) h3 (by show s.length < s.length - 2 + 3; omega)]
    decide
  have he : s.isEmpty = false := by cases s with | nil => cases h2 | cons => rfl
  unfold elemOk
  rw [he, h1, h2, hc]
  rfl
theorem noOcc_step {s : ByteArray} {m : Nat} (h : NoOcc s.data.toList dots (m - 2)) (hno : 2 ≤ m → occAt s.data.toList dots (m - 2) = false) : NoOcc s.data.toList dots (m + 1 - 2) := by
  intro j hj
  by_cases e : j = m - 2
  · subst e
    exact hno (by omega)
  · exact h j (by omega)
end Go.Proofs.Pw

namespace Go.Proofs.Pw
open Go.RowKit
open Go.Lib hiding intOf
theorem pathErr_elem {s x : Str} (hm : x ∈ split s [47]) (h : elemOk x = false) : pathErr s = 1 := by
  unfold pathErr
  simp only
  rw [if_pos (List.any_eq_true.2 ⟨x, hm, by rw [h]; rfl⟩)]
theorem pathErr_all {s : Str} (h : (split s [47]).all elemOk = true) : (split s [47]).any (fun w => !elemOk w) = false := by
  rw [Bool.eq_false_iff]
  intro e
  obtain ⟨x, hx, h2⟩ := List.any_eq_true.1 e
  rw [List.all_eq_true.1 h x hx] at h2
  cases h2
theorem pathErr_bound {s : Str} (h : (split s [47]).all elemOk = true) (hb : 5 < (split s [47]).length ∨ (split s [47]).any (fun w => decide (10 < w.length)) = true) : pathErr s = 2 := by
  unfold pathErr
  simp only
  rw [if_neg (by rw [pathErr_all h]; simp), if_pos hb]
theorem pathErr_rest {s : Str} (h : (split s [47]).all elemOk = true) (hb : ¬ (5 < (split s [47]).length ∨ (split s [47]).any (fun w => decide (10 < w.length)) = true)) :
    pathErr s = if 1 < (split s [47]).length ∧ sufWell ((split s [47]).getLast?.getD []) = false then 4 else 0 := by
  unfold pathErr
  simp only
  rw [if_neg (by rw [pathErr_all h]; simp), if_neg hb]
theorem refSuf_neg (x : Str) : refSuf x < 0 ↔ sufWell x = false := by
  unfold refSuf sufWell
  cases looksSuf x with
  | false => simp
  | true =>
    cases isSuf x with
    | true => simp
    | false => simp
theorem long_eq {n : Nat} {B : Bool} : (decide ((5 : Int) < (n : Int)) || B) = true ↔ (5 < n ∨ B = true) := by
  rw [Bool.or_eq_true, decide_eq_true_eq]
  have : (5 : Int) < (n : Int) ↔ 5 < n := by omega
  rw [this]
theorem refCut_slash (s : ByteArray) (w : World) (hs : s.size ≤ 1000000000) :
    Calls Tryz.prog 131 #[.string s, .int .u8 47] w fun e w' => (∃ v, e = .returned v ∧ StrsAt w' v (split s.data.toList [47]) ∧ NewRow w v) ∧ Below w.heap.size w w' := refCut_calls s 47 w hs
set_option maxHeartbeats 2000000 in
set_option maxRecDepth 100000 in
theorem refPath_calls (s : ByteArray) (w : World) (hs : s.size ≤ 1000000000) :
    Calls Tryz.prog 88 #[.string s] w fun e w' => e = .returned (.int .i64 (pathErr s.data.toList : Nat)) ∧ Below w.heap.size w w' := by
  go_enter Tryz.func88, Tryz.ntmps88
  go_wp2_with fail
  refine (refCut_slash s w hs).mono ?_
  rintro e w1 ⟨⟨v, rfl, hS, _⟩, hb1⟩
  obtain ⟨a, n, cap, L, rfl, hl, hn, hcap, hc⟩ := hS
  have hLs := lstF_mem_le (by decide) hl.symm
  have hs' : s.data.toList.length ≤ 1000000000 := by rw [← size_eq]; exact hs
  have hLs9 : ∀ j, j < n → (L j).size ≤ 1000000000 := fun j hj => Nat.le_trans (hLs j hj) hs'
  have hn1 : 1 ≤ n := by
    rcases Nat.eq_zero_or_pos n with rfl | h
    · exact absurd hl (split_ne 47 s.data.toList)
    · exact h
  have hn9 : n ≤ 1000000001 := by
    have h5 := congrArg List.length hl
    rw [lstF_length] at h5
    have := split_len 47 s.data.toList
    omega
  have HL : Hid (split s.data.toList [47] = lstF n L) := Lib.hid hl
  have HC := Lib.hid hc
  clear hl hc hLs hs'
  go_wp2_with fail
  go_loop [4, 5] (fun b i => ∃ (k : Nat) (C : Bool), k ≤ n ∧ i = .int .i64 k ∧ b = .bool C ∧ Hid ((decide ((5 : Int) < (n : Int)) || ((lstF n L).take k).any (fun w => decide (10 < w.length))) = C) ∧ Hid (((lstF n L).take k).all elemOk = true)) (fun _ i => n - (intOf i).toNat)
  case atStart => exact ⟨0, _, Nat.zero_le _, rfl, rfl, Lib.hid (by simp), Lib.hid rfl⟩
  case round =>
    obtain ⟨k, C, hk, rfl, rfl, HB, HA⟩ := hrel
    by_cases hlt : k < n
    · obtain ⟨b1, o1, rfl, hck⟩ := HC.out k hlt
      have hmem : (L k).data.toList ∈ split s.data.toList [47] := by rw [HL.out]; exact List.mem_of_getElem? (lstF_get n L k hlt)
      have HM := Lib.hid hmem
      have hp9 := hLs9 k hlt
      have HT : Hid ((lstF n L).take (k + 1) = (lstF n L).take k ++ [(L k).data.toList]) := Lib.hid (lstF_take_succ n L k hlt)
      clear hmem
      generalize L k = p at hck HM hp9 HT
      go_upto_block 2 with fail
      go_cut [6, 7, 8, 9, 10] from 22 to 83 (fun d _ _ _ _ wx => ∃ D : Bool, d = .bool D ∧ wx = w1 ∧ Hid (p.data.toList.all (· == 46) = D) ∧ Hid (p.data.toList.all isElemByte = true) ∧ Hid (NoOcc p.data.toList dots (p.size - 2)))
      case first =>
        go_wp2_with fail
        go_loop [6, 7, 8, 9, 10] (fun d i _ _ _ => ∃ (m : Nat) (D : Bool), m ≤ p.size ∧ i = .int .i64 m ∧ d = .bool D ∧ Hid ((p.data.toList.take m).all (· == 46) = D) ∧ Hid ((p.data.toList.take m).all isElemByte = true) ∧ Hid (NoOcc p.data.toList dots (m - 2))) (fun _ i _ _ _ => p.size - (intOf i).toNat)
        case atStart => exact ⟨0, true, Nat.zero_le _, rfl, rfl, Lib.hid rfl, Lib.hid rfl, Lib.hid (NoOcc.zero _ _)⟩
        case round =>
          obtain ⟨m, D, hm, rfl, rfl, HD, HE, HO⟩ := hrel
          by_cases hml : m < p.size
          · have hip := isElemByte_iff p[m]
            rcases elem_classes (p[m].toNat : Int) with h | h
            · have hyes : isElemByte p[m] = true := hip.2 (by omega)
              have HN : Hid ((p.data.toList.take (m + 1)).all isElemByte = true) := Lib.hid (by rw [take_snoc p m hml, List.all_append, HE.out]; simp [hyes])
              have HDn : Hid ((p.data.toList.take (m + 1)).all (· == 46) = (D && p[m] == 46)) := Lib.hid (by rw [take_snoc p m hml, List.all_append, HD.out]; simp)
              clear hip hyes
              by_cases h2 : m < 2
              · have HOn : Hid (NoOcc p.data.toList dots (m + 1 - 2)) := Lib.hid (noOcc_step HO.out (fun h => by omega))
                have h2' : ¬ (2 : Int) ≤ (m : Int) := by omega
                have HDa : Hid ((p[m].toNat : Int) = 46 → (p.data.toList.take (m + 1)).all (· == 46) = D) := Lib.hid (fun e => by rw [HDn.out, show p[m] = 46 from UInt8.toNat_inj.1 (by exact_mod_cast e)]; simp)
                have HDb : Hid ((p[m].toNat : Int) ≠ 46 → (p.data.toList.take (m + 1)).all (· == 46) = false) := Lib.hid (fun e => by rw [HDn.out, Bool.and_eq_false_iff]; right; exact beq_eq_false_iff_ne.2 (fun h => e (by rw [h]; rfl)))
                clear HDn
                cases D
                all_goals rcases h with ⟨c1, c2, c3, c4, c5⟩ | ⟨c1, c2, c3, c4, c5⟩ | h | h | h
                all_goals
                  go_wp2_with fail
                  go_round
                  case rel => exact ⟨m + 1, _, by omega, by go_num, rfl, Lib.hid (by first | exact HDa.out h | exact HDb.out (beq_eq_false_iff_ne.1 c5) | exact HDb.out (by omega)), HN, HOn⟩
                  case measure => simp [intOf]; omega
              · obtain ⟨m', rfl⟩ : ∃ m', m = m' + 2 := ⟨m - 2, by omega⟩
                have h2' : (2 : Int) ≤ ((m' + 2 : Nat) : Int) := by omega
                by_cases ho : (p.extract m' (m' + 3)).data.toList = dots
                · have HF : Hid (pathErr s.data.toList = 1) := Lib.hid (pathErr_elem HM.out (elem_occ (k := m') (by omega) (occ_dots.2 ho)))
                  have ho1 : p.extract m' (m' + 3) = ⟨#[46, 46, 46]⟩ := bytes_ext.1 ho
                  clear ho
                  cases D
                  all_goals rcases h with ⟨c1, c2, c3, c4, c5⟩ | ⟨c1, c2, c3, c4, c5⟩ | h | h | h
                  all_goals
                    go_wp2_with fail
                    go_ret
                    rw [HF.out]
                    exact ⟨rfl, hb1⟩
                · have HOn : Hid (NoOcc p.data.toList dots (m' + 2 + 1 - 2)) := Lib.hid (noOcc_step HO.out (fun _ => by
                    rw [Bool.eq_false_iff]; intro e; exact ho (occ_dots.1 e)))
                  have ho1 : p.extract m' (m' + 3) ≠ ⟨#[46, 46, 46]⟩ := fun e => ho (by rw [e]; rfl)
                  have ho2 : ((p.extract m' (m' + 3)).toList == [46, 46, 46]) = false := by rw [toList_data]; exact beq_eq_false_iff_ne.2 ho
                  clear ho
                  have HDa : Hid ((p[m' + 2].toNat : Int) = 46 → (p.data.toList.take (m' + 2 + 1)).all (· == 46) = D) := Lib.hid (fun e => by rw [HDn.out, show p[m' + 2] = 46 from UInt8.toNat_inj.1 (by exact_mod_cast e)]; simp)
                  have HDb : Hid ((p[m' + 2].toNat : Int) ≠ 46 → (p.data.toList.take (m' + 2 + 1)).all (· == 46) = false) := Lib.hid (fun e => by rw [HDn.out, Bool.and_eq_false_iff]; right; exact beq_eq_false_iff_ne.2 (fun h => e (by rw [h]; rfl)))
                  clear HDn
                  cases D
                  all_goals rcases h with ⟨c1, c2, c3, c4, c5⟩ | ⟨c1, c2, c3, c4, c5⟩ | h | h | h
                  all_goals
                    go_wp2_with fail
                    go_round
                    case rel => exact ⟨m' + 2 + 1, _, by omega, by go_num, rfl, Lib.hid (by first | exact HDa.out h | exact HDb.out (beq_eq_false_iff_ne.1 c5) | exact HDb.out (by omega)), HN, HOn⟩
                    case measure => simp [intOf]; omega
            · obtain ⟨⟨hd46, hd45, hd95⟩, hno, h⟩ := h
              have hnot : isElemByte p[m] = false := by
                rw [Bool.eq_false_iff]
                intro e
                have := hip.1 e
                have n46 : (p[m].toNat : Int) ≠ 46 := beq_eq_false_iff_ne.1 hd46
                have n45 : (p[m].toNat : Int) ≠ 45 := beq_eq_false_iff_ne.1 hd45
                have n95 : (p[m].toNat : Int) ≠ 95 := beq_eq_false_iff_ne.1 hd95
                omega
              have HF : Hid (pathErr s.data.toList = 1) := Lib.hid (pathErr_elem HM.out (elem_byte hml hnot))
              have hn46 : ((p[m].toNat : Int) != 46) = true := by unfold bne; rw [hd46]; rfl
              have hn45 : ((p[m].toNat : Int) != 45) = true := by unfold bne; rw [hd45]; rfl
              have hn95 : ((p[m].toNat : Int) != 95) = true := by unfold bne; rw [hd95]; rfl
              clear hip hnot hno
              rcases h with ⟨h1, h2, h3, h4⟩ | ⟨h1, h2, h3, h4⟩ | ⟨h1, h2, h3, h4⟩
              all_goals
                go_wp2_with fail
                go_ret
                rw [HF.out]
                exact ⟨rfl, hb1⟩
          · obtain rfl : m = p.size := by omega
            have HD2 : Hid (p.data.toList.all (· == 46) = D) := Lib.hid (by rw [← HD.out, take_size])
            have HE2 : Hid (p.data.toList.all isElemByte = true) := Lib.hid (by rw [← HE.out, take_size])
            go_wp2_with fail
            go_meet
            exact ⟨D, rfl, rfl, HD2, HE2, HO⟩
      case rest =>
        obtain ⟨D, rfl, rfl, HD, HE, HO⟩ := hcut
        cases D with
        | true =>
          have HF : Hid (pathErr s.data.toList = 1) := Lib.hid (pathErr_elem HM.out (elem_dot HD.out))
          go_wp2_with fail
          go_ret
          rw [HF.out]
          exact ⟨rfl, hb1⟩
        | false =>
          have HN : Hid (((lstF n L).take (k + 1)).all elemOk = true) := Lib.hid (by rw [HT.out, List.all_append, HA.out]; simp [elem_yes HE.out HD.out (by rw [← size_eq]; exact HO.out)])
          have HBn : Hid ((decide ((5 : Int) < (n : Int)) || ((lstF n L).take (k + 1)).any (fun w => decide (10 < w.length))) = (C || decide (10 < p.size))) := Lib.hid (by rw [HT.out, List.any_append, ← Bool.or_assoc, HB.out, size_eq]; simp)
          have HT2 : Hid (10 < p.size → (C || decide (10 < p.size)) = true) := Lib.hid (fun h => by simp [h])
          have HF2 : Hid (¬ 10 < p.size → (C || decide (10 < p.size)) = C) := Lib.hid (fun h => by simp [h])
          by_cases h10 : 10 < p.size
          · have h10' : (10 : Int) < (p.size : Int) := by omega
            rw [HT2.out h10] at HBn
            clear HT2 HF2
            cases C
            all_goals
              go_wp2_with fail
              go_round
              case rel => exact ⟨k + 1, true, by omega, by go_num, rfl, HBn, HN⟩
              case measure => simp [intOf]; omega
          · have h10' : ¬ (10 : Int) < (p.size : Int) := by omega
            rw [HF2.out h10] at HBn
            clear HT2 HF2
            cases C
            all_goals
              go_wp2_with fail
              go_round
              case rel => exact ⟨k + 1, _, by omega, by go_num, rfl, HBn, HN⟩
              case measure => simp [intOf]; omega
    · obtain rfl : k = n := by omega
      have HAll : Hid ((split s.data.toList [47]).all elemOk = true) := Lib.hid (by rw [HL.out, ← HA.out, lstF_take_all])
      have HLen : Hid ((split s.data.toList [47]).length = k) := Lib.hid (by rw [HL.out, lstF_length])
      have HBo : Hid ((5 < (split s.data.toList [47]).length ∨ (split s.data.toList [47]).any (fun w => decide (10 < w.length)) = true) ↔ C = true) := Lib.hid (by
        rw [HLen.out, ← long_eq, ← HB.out, lstF_take_all, HL.out])
      cases C with
      | true =>
        have HF : Hid (pathErr s.data.toList = 2) := Lib.hid (pathErr_bound HAll.out (HBo.out.2 rfl))
        go_wp2_with fail
        go_ret
        rw [HF.out]
        exact ⟨rfl, hb1⟩
      | false =>
        have HR : Hid (pathErr s.data.toList = if 1 < k ∧ sufWell ((L (k - 1)).data.toList) = false then 4 else 0) := Lib.hid (by
          rw [pathErr_rest HAll.out (fun h => by cases HBo.out.1 h), HLen.out, HL.out, getLast_lstF k L hn1])
        by_cases h1 : 1 < k
        · have h1' : (1 : Int) < (k : Int) := by omega
          obtain ⟨b1, o1, rfl, hck⟩ := HC.out (k - 1) (by omega)
          have hi : ((k : Int) - 1).toNat = k - 1 := by omega
          have hp9 := hLs9 (k - 1) (by omega)
          have hsu := refSuffix_calls (L (k - 1)) w1 hp9
          have hneg := refSuf_neg (L (k - 1)).data.toList
          generalize L (k - 1) = p at hck HR hsu hneg
          generalize refSuf p.data.toList = z at hsu hneg
          obtain ⟨k', rfl⟩ : ∃ k', k = k' + 1 := ⟨k - 1, by omega⟩
          simp only [Nat.add_sub_cancel] at hck
          have hk' : ((k' + 1 : Nat) : Int) - 1 = (k' : Int) := by omega
          have hk0 : (0 : Int) ≤ (k' : Int) := by omega
          clear hi
          by_cases hz : z < 0
          · have HF : Hid (pathErr s.data.toList = 4) := Lib.hid (by rw [HR.out, if_pos ⟨h1, hneg.1 hz⟩])
            clear hneg
            go_wp2_with fail
            refine hsu.mono ?_
            rintro e w' ⟨rfl, rfl⟩
            go_wp2_with fail
            go_ret
            rw [HF.out]
            exact ⟨rfl, hb1⟩
          · have HF : Hid (pathErr s.data.toList = 0) := Lib.hid (by rw [HR.out, if_neg (fun h => hz (hneg.2 h.2))])
            clear hneg
            go_wp2_with fail
            refine hsu.mono ?_
            rintro e w' ⟨rfl, rfl⟩
            go_wp2_with fail
            go_ret
            rw [HF.out]
            exact ⟨rfl, hb1⟩
        · have HF : Hid (pathErr s.data.toList = 0) := Lib.hid (by rw [HR.out, if_neg (fun h => h1 h.1)])
          have h1' : ¬ (1 : Int) < (k : Int) := by omega
          go_wp2_with fail
          go_ret
          rw [HF.out]
          exact ⟨rfl, hb1⟩
end Go.Proofs.Pw

namespace Go.Proofs.Pw
open Go.RowKit
open Go.Lib hiding intOf
theorem occ_slash {s : ByteArray} {k : Nat} (h : k < s.size) : occAt s.data.toList [47] k = decide (s[k] = 47) := by
  unfold occAt
  rw [drop_cons s k h, Bool.eq_iff_iff]
  simp only [List.isPrefixOf, Bool.and_true, decide_eq_true_eq, beq_iff_eq]
  exact eq_comm
theorem refSuf_pos {x : Str} (h : isSuf x = true) : refSuf x = (sufNum x : Int) ∧ (2 : Int) ≤ (sufNum x : Int) := by
  have hl : looksSuf x = true ∧ 2 ≤ (numberOf (sufD x)).1 := by
    unfold isSuf at h
    simp only [Bool.and_eq_true, decide_eq_true_eq] at h
    exact ⟨h.1, h.2.2⟩
  unfold refSuf
  rw [hl.1, h]
  exact ⟨rfl, by have := hl.2; unfold sufNum; omega⟩
theorem refSuf_not {x : Str} (h : isSuf x = false) : refSuf x ≤ 0 := by
  unfold refSuf
  rw [h]
  cases looksSuf x <;> simp
theorem bytes_take (s : ByteArray) (k : Nat) : s.extract 0 k = ⟨(s.data.toList.take k).toArray⟩ := by
  apply ByteArray.ext
  apply Array.ext'
  simp
set_option maxHeartbeats 400000 in
theorem refSplit_calls (s : ByteArray) (w : World) (hs : s.size ≤ 1000000000) :
    Calls Tryz.prog 136 #[.string s] w fun e w' => e = .returned (.tuple #[.string ⟨(modSplit s.data.toList).1.toArray⟩, .int .i64 ((modSplit s.data.toList).2 : Nat)]) ∧ Below w.heap.size w w' := by
  have hp := refPath_calls s w hs
  by_cases h0 : pathErr s.data.toList = 0
  · rw [h0] at hp
    have hne := fun (h : lastIndex s.data.toList [47] < 0) => modSplit_no h0 h
    have hat := fun (k : Nat) (h : lastIndex s.data.toList [47] = k) => modSplit_at h0 h
    have hst : lastOcc s.data.toList [47] s.size = lastIndex s.data.toList [47] := by
      unfold lastIndex
      rw [← size_eq]
      show _ = if 1 ≤ s.size then lastOcc s.data.toList [47] (s.size - 1 + 1) else -1
      by_cases h : 1 ≤ s.size
      · rw [if_pos h, Nat.sub_add_cancel h]
      · rw [if_neg h, show s.size = 0 by omega]; rfl
    replace hp := Lib.hid hp
    replace hne := Lib.hid hne
    replace hat := Lib.hid hat
    replace hst := Lib.hid hst
    clear h0
    go_enter Tryz.func136, Tryz.ntmps136
    go_wp2_with fail
    refine hp.out.mono ?_
    rintro e w1 ⟨rfl, hb1⟩
    go_wp2_with fail
    go_loop [4] (fun i => ∃ m : Nat, m ≤ s.size ∧ i = .int .i64 ((m : Int) - 1) ∧ Hid (lastOcc s.data.toList [47] m = lastIndex s.data.toList [47])) (fun i => (intOf i + 1).toNat)
    case atStart => exact ⟨s.size, Nat.le_refl _, rfl, hst⟩
    case round =>
      obtain ⟨m, hm, rfl, H⟩ := hrel
      rcases Nat.eq_zero_or_pos m with rfl | hm0
      · have HF := Lib.hid (hne.out (by rw [← H.out]; show (-1 : Int) < 0; decide))
        have hz : ((0 : Nat) : Int) - 1 = -1 := rfl
        simp only [hz]
        clear hz
        go_wp2_with fail
        go_ret2
        rw [HF.out]
        exact ⟨rfl, hb1⟩
      · obtain ⟨k, rfl⟩ : ∃ k, m = k + 1 := ⟨m - 1, by omega⟩
        have hz : ((k + 1 : Nat) : Int) - 1 = (k : Int) := by omega
        simp only [hz]
        clear hz
        have ho := occ_slash (s := s) (k := k) (by omega)
        by_cases hc : s[k] = 47
        · have hc1 : (s[k].toNat : Int) = 47 := by rw [hc]; rfl
          have hL : lastIndex s.data.toList [47] = k := by rw [← H.out]; exact lastOcc_hit _ _ _ (by rw [ho, decide_eq_true hc])
          have hsp := hat.out k hL
          have hsz : (s.extract (k + 1) s.size).size ≤ 1000000000 := Nat.le_trans (extract_size_le s _ _) hs
          have hsu := refSuffix_calls (s.extract (k + 1) s.size) w1 hsz
          have hdr : (s.extract (k + 1) s.size).data.toList = s.data.toList.drop (k + 1) := extract_to_end s (k + 1)
          rw [hdr] at hsu
          clear ho hc hL hdr
          cases hi : isSuf (s.data.toList.drop (k + 1)) with
          | true =>
            obtain ⟨h1, h2⟩ := refSuf_pos hi
            rw [hi, if_pos rfl] at hsp
            rw [h1] at hsu
            generalize sufNum (s.data.toList.drop (k + 1)) = q at hsp hsu h2
            replace hsp := Lib.hid hsp
            replace hsu := Lib.hid hsu
            clear hi h1
            go_wp2_with fail
            refine hsu.out.mono ?_
            rintro e w' ⟨rfl, rfl⟩
            go_wp2_with fail
            go_ret2
            rw [hsp.out, bytes_take]
            exact ⟨rfl, hb1⟩
          | false =>
            have h1 := refSuf_not hi
            rw [hi, if_neg (by decide)] at hsp
            generalize refSuf (s.data.toList.drop (k + 1)) = q at hsu h1
            replace hsp := Lib.hid hsp
            replace hsu := Lib.hid hsu
            clear hi
            go_wp2_with fail
            refine hsu.out.mono ?_
            rintro e w' ⟨rfl, rfl⟩
            go_wp2_with fail
            go_ret2
            rw [hsp.out]
            exact ⟨rfl, hb1⟩
        · have hc1 : ((s[k].toNat : Int) == 47) = false := byte_ne_int (c := 47) rfl hc
          have hc2 : ((s[k].toNat : Int) != 47) = true := by unfold bne; rw [hc1]; rfl
          have H1 : Hid (lastOcc s.data.toList [47] k = lastIndex s.data.toList [47]) := Lib.hid (by rw [← H.out]; exact (lastOcc_miss _ _ _ (by rw [ho, decide_eq_false hc])).symm)
          clear ho hc
          go_wp2_with fail
          go_round
          case rel => exact ⟨k, by omega, by go_num, H1⟩
          case measure => simp [intOf]
  · rw [modSplit_bad h0]
    have hpos : (0 : Int) < (pathErr s.data.toList : Int) := by omega
    generalize pathErr s.data.toList = q at hp hpos
    replace hp := Lib.hid hp
    clear h0
    go_enter Tryz.func136, Tryz.ntmps136
    go_wp2_with fail
    refine hp.out.mono ?_
    rintro e w1 ⟨rfl, hb1⟩
    go_wp2_with fail
    go_ret2
    exact ⟨rfl, hb1⟩
set_option maxHeartbeats 1000000 in
theorem refModErr_calls (p v : ByteArray) (w : World) (hp : p.size ≤ 1000000000) (hv : v.size ≤ 1000000000) :
    Calls Tryz.prog 97 #[.agg #[.string p, .string v]] w fun e w' => e = .returned (.int .i64 (modErr p.data.toList v.data.toList : Nat)) ∧ Below w.heap.size w w' := by
  have hB := below_alloc w (.cells #[.string p, .string v] 38)
  have hz := box2_alloc w (.string p) (.string v) 38
  have hpa := fun W => refPath_calls p W hp
  have hvo := fun W => refVerOf_calls v W hv
  have hsp := fun W => refSplit_calls p W hp
  by_cases h1 : pathErr p.data.toList = 0
  · rw [h1] at hpa
    by_cases h2 : verErr v.data.toList = 0
    · have hm := modErr_major h1 h2
      have hmc : ((modSplit p.data.toList).2 = 0 ∧ 1 < verNum v.data.toList 0) ∨ ((modSplit p.data.toList).2 = 0 ∧ ¬ 1 < verNum v.data.toList 0) ∨ (0 < (modSplit p.data.toList).2 ∧ verNum v.data.toList 0 ≠ (modSplit p.data.toList).2) ∨ (0 < (modSplit p.data.toList).2 ∧ verNum v.data.toList 0 = (modSplit p.data.toList).2) := by omega
      generalize modErr p.data.toList v.data.toList = R at hm ⊢
      rw [h2] at hvo
      generalize verNum v.data.toList 0 = n0 at hm hmc hvo
      generalize verNum v.data.toList 1 = n1 at hvo
      generalize verNum v.data.toList 2 = n2 at hvo
      generalize verPre v.data.toList = pre at hvo
      generalize (modSplit p.data.toList).1 = q1 at hsp
      generalize (modSplit p.data.toList).2 = q at hm hmc hsp
      replace hpa := Lib.hid hpa
      replace hvo := Lib.hid hvo
      replace hsp := Lib.hid hsp
      replace hm := Lib.hid hm
      replace hmc := Lib.hid hmc
      clear h1 h2
      go_enter Tryz.func97, Tryz.ntmps97
      go_wp2_with fail
      refine (hpa.out _).mono ?_
      rintro e w1 ⟨rfl, hb⟩
      replace hB := below_step hB hb
      replace hz := hz.below hb
      clear hb
      have c0 := hz.c0
      have c1 := hz.c1
      go_wp2_with fail
      refine (hvo.out _).mono ?_
      rintro e w2 ⟨⟨vv, rfl, hS⟩, hb⟩
      replace hB := below_step hB hb
      replace hz := hz.below hb
      clear hb
      obtain ⟨a, n, cap, L, rfl, _, _, _, _⟩ := hS
      clear c0 c1
      have hb := below_alloc w2 (.cells #[.int .i64 (n0 : Nat), .int .i64 (n1 : Nat), .int .i64 (n2 : Nat), .slice a n cap] 108)
      have hy := box4_alloc w2 (.int .i64 (n0 : Nat)) (.int .i64 (n1 : Nat)) (.int .i64 (n2 : Nat)) (.slice a n cap) 108
      replace hB := below_step hB hb
      replace hz := hz.below hb
      clear hb
      have c0 := hz.c0
      have c1 := hz.c1
      go_wp2_with fail
      refine (hsp.out _).mono ?_
      rintro e w4 ⟨rfl, hb⟩
      clear c0 c1
      replace hB := below_step hB hb
      replace hz := hz.below hb
      replace hy := hy.below hb
      clear hb
      have z0 := hy.c0
      clear hy hz
      rcases hmc.out with ⟨rfl, h⟩ | ⟨rfl, h⟩ | ⟨h, h'⟩ | ⟨h, rfl⟩
      · have HF : Hid (R = 4) := Lib.hid (by rw [hm.out, if_pos (.inl ⟨rfl, h⟩)])
        have hi : (1 : Int) < (n0 : Int) := by omega
        clear hm hmc h
        go_wp2_with fail
        go_ret
        rw [HF.out]
        exact ⟨rfl, hB⟩
      · have HF : Hid (R = 0) := Lib.hid (by rw [hm.out, if_neg (by omega)])
        have hi : ¬ (1 : Int) < (n0 : Int) := by omega
        clear hm hmc h
        go_wp2_with fail
        go_ret
        rw [HF.out]
        exact ⟨rfl, hB⟩
      · have HF : Hid (R = 4) := Lib.hid (by rw [hm.out, if_pos (.inr ⟨h, h'⟩)])
        have hi : (0 : Int) < (q : Int) := by omega
        have hi0 : ((q : Int) == 0) = false := beq_eq_false_iff_ne.2 (by omega)
        have hi1 : ((n0 : Int) == (q : Int)) = false := beq_eq_false_iff_ne.2 (by omega)
        have hi2 : ((n0 : Int) != (q : Int)) = true := bne_iff_ne.2 (by omega)
        clear hm hmc h h'
        go_wp2_with fail
        go_ret
        rw [HF.out]
        exact ⟨rfl, hB⟩
      · have HF : Hid (R = 0) := Lib.hid (by rw [hm.out, if_neg (by omega)])
        have hi : (0 : Int) < (n0 : Int) := by omega
        have hi0 : ((n0 : Int) == 0) = false := beq_eq_false_iff_ne.2 (by omega)
        clear hm hmc h
        go_wp2_with fail
        go_ret
        rw [HF.out]
        exact ⟨rfl, hB⟩
    · rw [modErr_ver h1 h2]
      have hpos : (0 : Int) < (verErr v.data.toList : Int) := by omega
      generalize verErr v.data.toList = q at hvo hpos
      replace hpa := Lib.hid hpa
      replace hvo := Lib.hid hvo
      clear h1 h2 hsp
      go_enter Tryz.func97, Tryz.ntmps97
      go_wp2_with fail
      refine (hpa.out _).mono ?_
      rintro e w1 ⟨rfl, hb⟩
      replace hB := below_step hB hb
      replace hz := hz.below hb
      clear hb
      have c0 := hz.c0
      have c1 := hz.c1
      go_wp2_with fail
      refine (hvo.out _).mono ?_
      rintro e w2 ⟨⟨vv, rfl, hS⟩, hb⟩
      replace hB := below_step hB hb
      clear hb
      obtain ⟨a, n, cap, L, rfl, _, _, _, _⟩ := hS
      clear c0 c1 hz
      go_wp2_with fail
      go_ret
      exact ⟨rfl, hB.alloc hB.size _⟩
  · rw [modErr_path h1]
    have hpos : (0 : Int) < (pathErr p.data.toList : Int) := by omega
    generalize pathErr p.data.toList = q at hpa hpos
    replace hpa := Lib.hid hpa
    clear h1 hvo hsp
    go_enter Tryz.func97, Tryz.ntmps97
    go_wp2_with fail
    refine (hpa.out _).mono ?_
    rintro e w1 ⟨rfl, hb⟩
    replace hB := below_step hB hb
    clear hb
    go_wp2_with fail
    go_ret
    exact ⟨rfl, hB⟩
end Go.Proofs.Pw

namespace Go.Proofs.Pw
open Go.RowKit
open Go.Lib hiding intOf
set_option maxHeartbeats 1000000 in
theorem isAhead_calls (p v q u : ByteArray) (w : World) (hv : v.size ≤ 1000000000) (hu : u.size ≤ 1000000000) :
    Calls Tryz.prog 160 #[.agg #[.string p, .string v], .agg #[.string q, .string u]] w fun e w' => e = .returned (.bool (modAhead (p.data.toList, v.data.toList) (q.data.toList, u.data.toList))) ∧ Below w.heap.size w w' := by
  have hm := ahead_eq p v q u
  have hl := fun W => isLess_calls v u W hv hu
  have hb1 := below_alloc w (.cells #[.string p, .string v] 38)
  have hB := below_step hb1 (below_alloc _ (.cells #[.string q, .string u] 38))
  generalize modAhead (p.data.toList, v.data.toList) (q.data.toList, u.data.toList) = R at hm ⊢
  generalize verLess v.data.toList u.data.toList = X at hl hm
  replace hm := Lib.hid hm
  replace hl := Lib.hid hl
  clear hb1
  cases h2 : (p.toList == q.toList) with
  | true =>
    have h3 : p.toList = q.toList := beq_iff_eq.1 h2
    have h4 : p = q := by rw [toList_data, toList_data] at h3; exact bytes_ext.1 h3
    subst h4
    have HF : Hid (R = X) := Lib.hid (by rw [hm.out, toList_data, bytesLess_iff, compareBytes_ord.self]; simp)
    clear h2 h3
    go_enter Tryz.func160, Tryz.ntmps160
    go_wp2_with fail
    refine (hl.out _).mono ?_
    rintro e w1 ⟨rfl, hb⟩
    replace hB := below_step hB hb
    clear hb
    go_wp2_with fail
    go_ret
    rw [HF.out]
    exact ⟨rfl, hB⟩
  | false =>
    have HF : Hid (R = Op.bytesLess p.toList q.toList) := Lib.hid (by rw [hm.out, h2]; simp)
    have h3 : p.toList ≠ q.toList := beq_eq_false_iff_ne.1 h2
    have h4 : p ≠ q := fun e => h3 (by rw [e])
    have h5 : (p.toList != q.toList) = true := bne_iff_ne.2 h3
    go_enter Tryz.func160, Tryz.ntmps160
    go_wp2_with fail
    go_ret
    rw [HF.out]
    exact ⟨rfl, hB⟩
end Go.Proofs.Pw

namespace Go.Proofs.Pw
open Go.RowKit
open Go.Lib hiding intOf
def fltV (r : Nat × Int) : Value := .agg #[.int .i64 (r.1 : Nat), .int .i64 r.2]
theorem refBare_calls (k : Nat) (w : World) : Calls Tryz.prog 75 #[.int .i64 (k : Nat)] w fun e w' => e = .returned (fltV (k, -1)) ∧ Below w.heap.size w w' := by
  have hB := below_alloc w (.cells #[.int .i64 0, .int .i64 0] 49)
  obtain ⟨z0, z1, zf⟩ := box2_alloc w (.int .i64 0) (.int .i64 0) 49
  go_enter Tryz.func75, Tryz.ntmps75
  go_wp2_with fail
  refine bodyPost_ret (v := .agg #[.int .i64 (k : Nat), .int .i64 (-1)]) (by simp [results, Tryz.results75, go_sem, *]) rfl ?_
  first
  | exact ⟨rfl, (hB.setCell (Nat.le_refl _) _).setCell (Nat.le_refl _) _⟩
  | exact ⟨rfl, below_alloc _ _⟩
theorem refFine_calls (w : World) : Calls Tryz.prog 72 #[] w fun e w' => e = .returned (fltV (0, -1)) ∧ Below w.heap.size w w' := by
  have hB := below_alloc w (.cells #[.int .i64 0, .int .i64 0] 49)
  obtain ⟨z0, z1, zf⟩ := box2_alloc w (.int .i64 0) (.int .i64 0) 49
  go_enter Tryz.func72, Tryz.ntmps72
  go_wp2_with fail
  refine bodyPost_ret (v := .agg #[.int .i64 0, .int .i64 (-1)]) (by simp [results, Tryz.results72, go_sem, *]) rfl ?_
  first
  | exact ⟨rfl, (hB.setCell (Nat.le_refl _) _).setCell (Nat.le_refl _) _⟩
  | exact ⟨rfl, below_alloc _ _⟩
def rqP (r : Nat × Int) : Nat × Int := if r.1 = 0 then (0, 0) else r
set_option maxHeartbeats 4000000 in
set_option maxRecDepth 100000 in
theorem reqsError_calls (own : ByteArray) (rv : Value) (R : List Md) (w : World) (hr : ModsAt w rv R) (hs : Short R) :
    Calls Tryz.prog 161 #[rv, .string own] w fun e w' => e = .returned (.tuple #[.int .i64 ((rqP (firstE (reqE own.data.toList R) R.length)).1 : Nat), .int .i64 (rqP (firstE (reqE own.data.toList R) R.length)).2]) ∧ Below w.heap.size w w' := by
  obtain ⟨a, n, cap, P, V, rfl, rfl, hnc, hcap, hc⟩ := hr
  have hP : Hid (∀ j, j < n → (P j).size ≤ 1000000 ∧ (V j).size ≤ 1000000) := Lib.hid (short_F hs).2
  have hn : n ≤ 1000000 := (short_F hs).1
  rw [mdF_length]
  replace hc := Lib.hid hc
  clear hs
  go_enter Tryz.func161, Tryz.ntmps161
  go_wp2_with fail
  go_loopw [6] (fun i wr => ∃ k : Nat, k ≤ n ∧ i = .int .i64 k ∧ Below w.heap.size w wr ∧ Hid (∀ j, j < k → reqE own.data.toList (mdF n P V) j = 0)) (fun i _ => n - (intOf i).toNat)
  case atStart => exact ⟨0, Nat.zero_le _, rfl, Below.refl _ _, Lib.hid (fun j hj => absurd hj (Nat.not_lt_zero _))⟩
  case round =>
    obtain ⟨k, hk, rfl, hBk, HA⟩ := hrel
    by_cases hlt : k < n
    · have hkn : (k : Int) < (n : Int) := by omega
      obtain ⟨b1, o1, ea, c0, c1⟩ := hc.out k hlt
      replace c0 := Below.cell_some hBk c0
      replace c1 := Below.cell_some hBk c1
      have hme := refModErr_calls (P k) (V k) wr (by have := (hP.out k hlt).1; omega) (by have := (hP.out k hlt).2; omega)
      have hR : reqE own.data.toList (mdF n P V) k = if modErr (P k).data.toList (V k).data.toList ≠ 0 then modErr (P k).data.toList (V k).data.toList else if (P k).data.toList = own.data.toList then 3 else if 0 < k ∧ compareBytes (P k).data.toList (mdAt (mdF n P V) (k - 1)).1 ≤ 0 then 8 else 0 := by
        unfold reqE
        rw [mdAt_mdF hlt]; rfl
      subst ea
      by_cases h0 : modErr (P k).data.toList (V k).data.toList = 0
      · rw [if_neg (by simp [h0])] at hR
        rw [h0] at hme
        by_cases hp : (P k).data.toList = own.data.toList
        · rw [if_pos hp] at hR
          have HF : Hid (rqP (firstE (reqE own.data.toList (mdF n P V)) n) = (3, (k : Int))) := Lib.hid (by rw [firstE_hit (by rw [hR]; decide) HA.out hlt, hR]; rfl)
          have hpb := bytes_eq.1 hp
          have hp1 : ((P k).toList == own.toList) = true := by rw [hpb]; simp
          replace hme := Lib.hid hme
          clear h0 hp hR hpb
          go_wp2_with fail
          refine hme.out.mono ?_
          rintro e w2 ⟨rfl, hb⟩
          replace c0 := Below.cell_some hb c0
          have hB2 := below_step hBk hb
          clear hb
          go_wp2_with fail
          go_ret2
          rw [HF.out]
          exact ⟨rfl, hB2⟩
        · rw [if_neg hp] at hR
          have hp1 : ((P k).toList == own.toList) = false := by rw [toList_data, toList_data]; exact beq_eq_false_iff_ne.2 hp
          have hp2 : (P k).toList ≠ own.toList := by rw [toList_data, toList_data]; exact hp
          have hp3 : P k ≠ own := fun e => hp (by rw [e])
          by_cases hi0 : k = 0
          · subst hi0
            rw [if_neg (by omega)] at hR
            have HN : Hid (∀ j, j < 0 + 1 → reqE own.data.toList (mdF n P V) j = 0) := Lib.hid (fun j hj => by
              obtain rfl : j = 0 := by omega
              exact hR)
            replace hme := Lib.hid hme
            simp only [Nat.zero_mul, Nat.add_zero] at c0 c1
            clear h0 hp hR
            go_wp2_with fail
            refine hme.out.mono ?_
            rintro e w2 ⟨rfl, hb⟩
            replace c0 := Below.cell_some hb c0
            have hB2 := below_step hBk hb
            clear hb
            go_wp2_with fail
            refine wp_region_quiet_patch (by kernel_rfl) (by kernel_rfl) ?_
            repeat (go_big_quiet_step (fail))
            refine wpQuiet_nil ?_
            intro _ hw'
            obtain ⟨⟨dq, osq⟩, hw''⟩ := hw'
            subst hw''
            have hb := below_patch w2 dq osq
            replace hB2 := below_step hB2 hb
            clear hb
            generalize patch w2 dq osq = w3 at hB2 ⊢
            clear c0
            go_wp2_with fail
            go_roundw
            case rel => exact ⟨1, by omega, by go_num, hB2, HN⟩
            case measure => simp [intOf]; omega
          · obtain ⟨m, rfl⟩ : ∃ m, k = m + 1 := ⟨k - 1, by omega⟩
            rw [Nat.add_sub_cancel, mdAt_mdF (show m < n by omega)] at hR
            have hle := leq_eq (P (m + 1)) (P m)
            have hk0 : (0 : Int) < ((m + 1 : Nat) : Int) := by omega
            have hk1 : ((m + 1 : Nat) : Int) - 1 = (m : Int) := by omega
            have hkw := wrap_nat m (by omega)
            have hkn2 : (m : Int) < (n : Int) := by omega
            obtain ⟨b2, o2, e1, c3, _⟩ := hc.out m (by omega)
            injection e1 with e1
            injection e1 with e1 e2
            subst e1 e2
            replace c3 := Below.cell_some hBk c3
            by_cases hc0 : compareBytes (P (m + 1)).data.toList (P m).data.toList ≤ 0
            · rw [if_pos ⟨Nat.succ_pos m, hc0⟩] at hR
              rw [decide_eq_true hc0] at hle
              have HF : Hid (rqP (firstE (reqE own.data.toList (mdF n P V)) n) = (8, ((m + 1 : Nat) : Int))) := Lib.hid (by rw [firstE_hit (by rw [hR]; decide) HA.out hlt, hR]; rfl)
              replace hme := Lib.hid hme
              clear h0 hp hR hc0
              go_wp2_with fail
              refine hme.out.mono ?_
              rintro e w2 ⟨rfl, hb⟩
              replace c0 := Below.cell_some hb c0
              replace c3 := Below.cell_some hb c3
              have hB2 := below_step hBk hb
              clear hb
              go_wp2_with fail
              have kqc0 := fun d os => cell_patch (d := d) (os := os) c0
              have kqc3 := fun d os => cell_patch (d := d) (os := os) c3
              refine wp_region_quiet_patch (by kernel_rfl) (by kernel_rfl) ?_
              repeat (go_big_quiet_step (fail))
              refine wpQuiet_nil ?_
              intro _ hw'
              obtain ⟨⟨dq, osq⟩, hw''⟩ := hw'
              subst hw''
              clear kqc0 kqc3
              have hb := below_patch w2 dq osq
              replace hB2 := below_step hB2 hb
              clear hb
              generalize patch w2 dq osq = w3 at hB2 ⊢
              clear c0 c3
              go_wp2_with fail
              go_ret2
              rw [HF.out]
              exact ⟨rfl, hB2⟩
            · rw [if_neg (fun h => hc0 h.2)] at hR
              rw [decide_eq_false hc0] at hle
              have HN : Hid (∀ j, j < m + 1 + 1 → reqE own.data.toList (mdF n P V) j = 0) := Lib.hid (fun j hj => by
                by_cases e : j = m + 1
                · subst e; exact hR
                · exact HA.out j (by omega))
              replace hme := Lib.hid hme
              clear h0 hp hR hc0
              go_wp2_with fail
              refine hme.out.mono ?_
              rintro e w2 ⟨rfl, hb⟩
              replace c0 := Below.cell_some hb c0
              replace c3 := Below.cell_some hb c3
              have hB2 := below_step hBk hb
              clear hb
              go_wp2_with fail
              have kqc0 := fun d os => cell_patch (d := d) (os := os) c0
              have kqc3 := fun d os => cell_patch (d := d) (os := os) c3
              refine wp_region_quiet_patch (by kernel_rfl) (by kernel_rfl) ?_
              repeat (go_big_quiet_step (fail))
              refine wpQuiet_nil ?_
              intro _ hw'
              obtain ⟨⟨dq, osq⟩, hw''⟩ := hw'
              subst hw''
              clear kqc0 kqc3
              have hb := below_patch w2 dq osq
              replace hB2 := below_step hB2 hb
              clear hb
              generalize patch w2 dq osq = w3 at hB2 ⊢
              clear c0 c3
              go_wp2_with fail
              go_roundw
              case rel => exact ⟨m + 1 + 1, by omega, by go_num, hB2, HN⟩
              case measure => simp [intOf]; omega
      · rw [if_pos h0] at hR
        have HF : Hid (rqP (firstE (reqE own.data.toList (mdF n P V)) n) = (modErr (P k).data.toList (V k).data.toList, (k : Int))) := Lib.hid (by rw [firstE_hit (by rw [hR]; exact h0) HA.out hlt, hR]; unfold rqP; rw [if_neg h0])
        generalize modErr (P k).data.toList (V k).data.toList = c at *
        have hc9 : (0 : Int) < (c : Int) := by omega
        replace hme := Lib.hid hme
        clear h0 hR
        go_wp2_with fail
        refine hme.out.mono ?_
        rintro e w2 ⟨rfl, hb⟩
        have hB2 := below_step hBk hb
        clear hb
        go_wp2_with fail
        go_ret2
        rw [HF.out]
        exact ⟨rfl, hB2⟩
    · obtain rfl : n = k := by omega
      have HF : Hid (rqP (firstE (reqE own.data.toList (mdF n P V)) n) = (0, 0)) := Lib.hid (by rw [firstE_none HA.out]; rfl)
      go_wp2_with fail
      go_ret2
      rw [HF.out]
      exact ⟨rfl, hBk⟩
end Go.Proofs.Pw

namespace Go.Proofs.Pw
open Go.RowKit
open Go.Lib hiding intOf
structure Box5 (w : World) (b : Nat) (v0 v1 v2 v3 v4 : Value) : Prop where
  c0 : w.cell? ⟨b, 0, none⟩ = some v0
  c1 : w.cell? ⟨b, 1, none⟩ = some v1
  c2 : w.cell? ⟨b, 2, none⟩ = some v2
  c3 : w.cell? ⟨b, 3, none⟩ = some v3
  c4 : w.cell? ⟨b, 4, none⟩ = some v4
theorem Box5.below {w w' : World} {b : Nat} {v0 v1 v2 v3 v4 : Value} (h : Box5 w b v0 v1 v2 v3 v4) (hb : Below w.heap.size w w') : Box5 w' b v0 v1 v2 v3 v4 :=
  ⟨Below.cell_some hb h.c0, Below.cell_some hb h.c1, Below.cell_some hb h.c2, Below.cell_some hb h.c3, Below.cell_some hb h.c4⟩
theorem box5_alloc (w : World) (v0 v1 v2 v3 v4 : Value) (t : TypeId) : Box5 (w.alloc (.cells #[v0, v1, v2, v3, v4] t)) w.heap.size v0 v1 v2 v3 v4 := ⟨by simp, by simp, by simp, by simp, by simp⟩
theorem all_lstF {n : Nat} {L : Nat → ByteArray} {p : Str → Bool} : (lstF n L).all p = true ↔ ∀ j, j < n → p (L j).data.toList = true := by
  simp [lstF]
set_option maxHeartbeats 8000000 in
set_option maxRecDepth 100000 in
theorem entryError_in (a : Option Addr) (n cap : Nat) (P V : Nat → ByteArray) (R : Nat → List Md) (K : Nat → List Str) (B : Nat → Bool) (Rv Kv : Nat → Value) (i : Nat) (w : World) (h : EntsIn w a n cap P V R K B Rv Kv) (hs : ShortI (enF n P V R K B)) (hi : i < n) :
    Calls Tryz.prog 115 #[.slice a n cap, .int .i64 i] w fun e w' => e = .returned (.int .i64 (entErr (enF n P V R K B) i : Nat)) ∧ Below w.heap.size w w' := by
  obtain ⟨hn, hp1, hv1, hsr, hk1, hk2⟩ := hs.at_ hi
  have HS0 := entErr_stages (enF n P V R K B) i
  rw [reqsE_of, packsE_of, enAt_enF hi] at HS0
  obtain ⟨b1, o1, ea, hcell⟩ := h.at_ i hi
  obtain ⟨a1, n1, s1, a2, n2, s2, e1, e2⟩ := h.forms hi
  have hM := h.reqs i hi
  have hK := h.packs i hi
  rw [e1] at hM
  rw [e2] at hK
  rw [e1, e2] at hcell
  have hre := fun W (hb : Below w.heap.size w W) => reqsError_calls (P i) (.slice a1 n1 s1) (R i) W (hM.below hb) hsr
  have HLR : Hid ((R i).length = n1) := Lib.hid (by
    obtain ⟨_, _, _, _, _, e, e', _⟩ := id hM
    injection e with _ en _
    rw [e', mdF_length]
    exact en.symm)
  obtain ⟨_, _, _, L, e3, hKL, _, _, hkc⟩ := hK
  injection e3 with e3 e4 e5
  subst e3 e4 e5
  rw [hKL] at hk1 hk2 HS0
  have hme := fun W => refModErr_calls (P i) (V i) W (by omega) (by omega)
  have hB := below_alloc w (.cells #[.string (P i), .string (V i), .slice a1 n1 s1, .slice a2 n2 s2, .bool (B i)] 43)
  have hz := box5_alloc w (.string (P i)) (.string (V i)) (.slice a1 n1 s1) (.slice a2 n2 s2) (.bool (B i)) 43
  have hki : (i : Int) < (n : Int) := by omega
  replace hre := Lib.hid hre
  replace hkc := Lib.hid hkc
  replace hk2 := Lib.hid hk2
  have HSH := Lib.hid hs
  clear e1 e2 hM hsr hs hKL hk1
  by_cases h0 : modErr (P i).data.toList (V i).data.toList = 0
  · rw [h0] at hme
    have h0' : mdErr ((P i).data.toList, (V i).data.toList) = 0 := h0
    by_cases hi0 : i = 0
    · subst hi0
      have HS : Hid (entErr (enF n P V R K B) 0 = if reqsE (P 0).data.toList (R 0) ≠ 0 then reqsE (P 0).data.toList (R 0) else packsE (lstF n2 L)) := Lib.hid (by
        rw [HS0, decide_eq_false (p := _ ∧ _) (fun h => absurd h.1 (by omega))]
        unfold stagesE
        rw [if_neg (fun h => h h0'), if_neg (by simp)])
      simp only [Nat.zero_mul, Nat.add_zero] at hcell
      subst ea
      replace hme := Lib.hid hme
      obtain ⟨c0, c1, c2, c3, c4⟩ := hcell
      obtain ⟨z0, z1, z2, z3, z4⟩ := id hz
      clear HS0 h h0 h0'
      go_enter Tryz.func115, Tryz.ntmps115
      go_wp2_with fail
      generalize w.alloc (.cells #[.string (P 0), .string (V 0), .slice a1 n1 s1, .slice a2 n2 s2, .bool (B 0)] 43) = w1 at *
      refine (hme.out _).mono ?_
      rintro e w2 ⟨rfl, hb⟩
      replace hB := below_step hB hb
      replace hz := hz.below hb
      clear hb
      clear z0 z1 z2 z3 z4 c0 c1 c2 c3 c4 hme
      obtain ⟨z0, z1, z2, z3, z4⟩ := id hz
      by_cases g1 : 20 < n1
      · have HF : Hid (entErr (enF n P V R K B) 0 = 7) := Lib.hid (by rw [HS.out, show reqsE (P 0).data.toList (R 0) = 7 by unfold reqsE; rw [if_pos (by rw [HLR.out]; exact g1)], if_pos (by decide)])
        have g1' : (20 : Int) < (n1 : Int) := by omega
        clear g1
        go_wp2_with fail
        go_ret
        rw [HF.out]
        exact ⟨rfl, hB⟩
      · have g1' : ¬ (20 : Int) < (n1 : Int) := by omega
        obtain ⟨r, hr⟩ : ∃ r, firstE (reqE (P 0).data.toList (R 0)) (R 0).length = r := ⟨_, rfl⟩
        have hre1 := hre.out _ hB
        rw [hr] at hre1
        have hrE : reqsE (P 0).data.toList (R 0) = r.1 := by unfold reqsE; rw [if_neg (by rw [HLR.out]; exact g1), hr]
        by_cases g2 : r.1 = 0
        · have HS2 : Hid (entErr (enF n P V R K B) 0 = packsE (lstF n2 L)) := Lib.hid (by rw [HS.out, hrE, if_neg (by simp [g2])])
          have hrq : rqP r = (0, 0) := by unfold rqP; rw [if_pos g2]
          rw [hrq] at hre1
          simp only at hre1
          replace hre1 := Lib.hid hre1
          clear g1 g2 hr hrq hrE
          go_wp2_with fail
          refine hre1.out.mono ?_
          rintro e w5 ⟨rfl, hb⟩
          replace hB := below_step hB hb
          replace hz := hz.below hb
          clear hb
          clear z0 z1 z2 z3 z4 hre1
          obtain ⟨z0, z1, z2, z3, z4⟩ := id hz
          by_cases g3 : 10 < n2
          · have HF : Hid (entErr (enF n P V R K B) 0 = 7) := Lib.hid (by rw [HS2.out]; unfold packsE; rw [lstF_length, if_pos g3])
            have g3' : (10 : Int) < (n2 : Int) := by omega
            clear g3
            go_wp2_with fail
            go_ret
            rw [HF.out]
            exact ⟨rfl, hB⟩
          · have g3' : ¬ (10 : Int) < (n2 : Int) := by omega
            have HS3 : Hid (entErr (enF n P V R K B) 0 = if (lstF n2 L).all packOk then (firstE (packE (lstF n2 L)) n2).1 else 1) := Lib.hid (by rw [HS2.out]; unfold packsE; rw [lstF_length, if_neg g3])
            have HN2 := Lib.hid g3
            clear g3
            go_wp2_with fail
            clear g1' g3' z0 z1 z2 z3 z4
            go_loopw [8] (fun x wr => ∃ q : Nat, q ≤ n2 ∧ x = .int .i64 q ∧ Below w5.heap.size w5 wr ∧ Hid (∀ j, j < q → packOk (L j).data.toList = true)) (fun x _ => n2 - (intOf x).toNat)
            case atStart => exact ⟨0, Nat.zero_le _, rfl, Below.refl _ _, Lib.hid (fun j hj => absurd hj (Nat.not_lt_zero _))⟩
            case round =>
              obtain ⟨q, hq, rfl, hBk, HA⟩ := hrel
              have hn2 := HN2.out
              have hBw := below_step hB hBk
              obtain ⟨z0, z1, z2, z3, z4⟩ := hz.below hBk
              by_cases hlt : q < n2
              · have hkn : (q : Int) < (n2 : Int) := by omega
                obtain ⟨b2, o2, e3, d0⟩ := hkc.out q hlt
                replace d0 := Below.cell_some hBw d0
                subst e3
                have hpl := (hk2.out _ (List.mem_of_getElem? (lstF_get n2 L q hlt)))
                by_cases m1 : (L q).data.toList = [46]
                · have HN : Hid (∀ j, j < q + 1 → packOk (L j).data.toList = true) := Lib.hid (fun j hj => by
                    by_cases e : j = q
                    · subst e; unfold packOk; rw [decide_eq_true m1]; rfl
                    · exact HA.out j (by omega))
                  have m2 : ((L q).toList != [46]) = false := by rw [toList_data, m1]; rfl
                  have m3 : (L q).toList = [46] := by rw [toList_data, m1]
                  clear m1 hpl hn2
                  go_wp2_with fail
                  go_roundw
                  case rel => exact ⟨q + 1, by omega, by go_num, hBk, HN⟩
                  case measure => simp [intOf]; omega
                · have m2 : ((L q).toList != [46]) = true := by rw [toList_data]; exact bne_iff_ne.2 m1
                  have m3 : (L q).toList ≠ [46] := by rw [toList_data]; exact m1
                  have m5 : ((L q).toList == [46]) = false := beq_eq_false_iff_ne.2 m3
                  have hpa := refPath_calls (L q) wr (by rw [size_eq]; omega)
                  by_cases m0 : pathErr (L q).data.toList = 0
                  · have HN : Hid (∀ j, j < q + 1 → packOk (L j).data.toList = true) := Lib.hid (fun j hj => by
                      by_cases e : j = q
                      · subst e; unfold packOk; rw [decide_eq_true m0, Bool.or_true]
                      · exact HA.out j (by omega))
                    rw [m0] at hpa
                    replace hpa := Lib.hid hpa
                    clear m0 m1 hpl hn2
                    go_wp2_with fail
                    refine hpa.out.mono ?_
                    rintro e w6 ⟨rfl, hb⟩
                    replace hBk := below_step hBk hb
                    clear hb hpa
                    go_wp2_with fail
                    go_roundw
                    case rel => exact ⟨q + 1, by omega, by go_num, hBk, HN⟩
                    case measure => simp [intOf]; omega
                  · have HF : Hid (entErr (enF n P V R K B) 0 = 1) := Lib.hid (by
                      rw [HS3.out, if_neg]
                      intro hall
                      have := all_lstF.1 hall q hlt
                      unfold packOk at this
                      rw [decide_eq_false m0, decide_eq_false m1] at this
                      cases this)
                    generalize pathErr (L q).data.toList = c at *
                    have hc9 : (0 : Int) < (c : Int) := by omega
                    replace hpa := Lib.hid hpa
                    clear m0 m1 hpl hn2
                    go_wp2_with fail
                    refine hpa.out.mono ?_
                    rintro e w6 ⟨rfl, hb⟩
                    replace hBw := below_step hBw hb
                    clear hb hpa
                    go_wp2_with fail
                    go_ret
                    rw [HF.out]
                    exact ⟨rfl, hBw⟩
              · have hqn : q = n2 := by omega
                have HS4 : Hid (entErr (enF n P V R K B) 0 = (firstE (packE (lstF n2 L)) n2).1) := Lib.hid (by rw [HS3.out, if_pos (all_lstF.2 (fun j hj => HA.out j (by omega)))])
                have hnq : ¬ (q : Int) < (n2 : Int) := by omega
                have hzk := hz.below hBk
                clear hqn HA hn2 hq hlt
                go_wp2_with fail
                generalize wr = wl at *
                clear z0 z1 z2 z3 z4 hnq
                go_loopw [9] (fun x wr => ∃ q : Nat, (q + 1 ≤ n2 ∨ q = 0) ∧ x = .int .i64 ((q + 1 : Nat) : Int) ∧ Below wl.heap.size wl wr ∧ Hid (∀ j, j < q + 1 → packE (lstF n2 L) j = 0)) (fun x _ => n2 - (intOf x).toNat)
                case atStart =>
                  exact ⟨0, .inr rfl, rfl, Below.refl _ _, Lib.hid (fun j hj => by
                    obtain rfl : j = 0 := by omega
                    unfold packE
                    rw [if_neg (fun h => absurd h.1 (Nat.lt_irrefl _))])⟩
                case round =>
                  obtain ⟨q2, hq2, rfl, hBm, HA2⟩ := hrel
                  have hn2 := HN2.out
                  have hBx := below_step hBw hBm
                  obtain ⟨z0, z1, z2, z3, z4⟩ := hzk.below hBm
                  by_cases hlt : q2 + 1 < n2
                  · have hkn : ((q2 + 1 : Nat) : Int) < (n2 : Int) := by omega
                    have hk1 : ((q2 + 1 : Nat) : Int) - 1 = (q2 : Int) := by omega
                    have hkw := wrap_nat q2 (by omega)
                    have hkw1 := wrap_nat (q2 + 1) (by omega)
                    have hkn2 : (q2 : Int) < (n2 : Int) := by omega
                    have hkn3 : (q2 : Int) + 1 < (n2 : Int) := by omega
                    have hkn4 : ((q2 : Int) + 1).toNat = q2 + 1 := by omega
                    have hkn5 : (0 : Int) ≤ (q2 : Int) + 1 := by omega
                    have hkn6 : ¬ ((q2 : Int) + 1 < 0) := by omega
                    obtain ⟨b2, o2, e3, d0⟩ := hkc.out (q2 + 1) hlt
                    obtain ⟨b3, o3, e4, d1⟩ := hkc.out q2 (by omega)
                    rw [e3] at e4
                    injection e4 with e4
                    injection e4 with e5 e6
                    subst e5 e6
                    subst e3
                    replace d0 := Below.cell_some hBx d0
                    replace d1 := Below.cell_some hBx d1
                    have hle := leq_eq (L (q2 + 1)) (L q2)
                    have hR : packE (lstF n2 L) (q2 + 1) = if compareBytes (L (q2 + 1)).data.toList (L q2).data.toList ≤ 0 then 8 else 0 := by
                      unfold packE
                      rw [Nat.add_sub_cancel, getD_lstF hlt, getD_lstF (by omega)]
                      simp only [Nat.succ_pos, true_and]
                    by_cases hc0 : compareBytes (L (q2 + 1)).data.toList (L q2).data.toList ≤ 0
                    · rw [if_pos hc0] at hR
                      rw [decide_eq_true hc0] at hle
                      have HF : Hid (entErr (enF n P V R K B) 0 = 8) := Lib.hid (by rw [HS4.out, firstE_hit (by rw [hR]; decide) HA2.out hlt, hR])
                      clear hR hc0 hn2 hq2
                      go_wp2_with fail
                      have kqz3 := fun d os => cell_patch (d := d) (os := os) z3
                      have kqd0 := fun d os => cell_patch (d := d) (os := os) d0
                      have kqd1 := fun d os => cell_patch (d := d) (os := os) d1
                      refine wp_region_quiet_patch (by kernel_rfl) (by kernel_rfl) ?_
                      repeat (go_big_quiet_step (fail))
                      refine wpQuiet_nil ?_
                      intro _ hw'
                      obtain ⟨⟨dq, osq⟩, hw''⟩ := hw'
                      subst hw''
                      clear kqz3 kqd0 kqd1
                      have hb := below_patch wr dq osq
                      replace hBx := below_step hBx hb
                      clear hb
                      generalize patch wr dq osq = wq1 at hBx ⊢
                      go_wp2_with fail
                      go_ret
                      rw [HF.out]
                      exact ⟨rfl, hBx⟩
                    · rw [if_neg hc0] at hR
                      rw [decide_eq_false hc0] at hle
                      have HN : Hid (∀ j, j < q2 + 1 + 1 → packE (lstF n2 L) j = 0) := Lib.hid (fun j hj => by
                        by_cases e : j = q2 + 1
                        · subst e; exact hR
                        · exact HA2.out j (by omega))
                      clear hR hc0 hq2
                      go_wp2_with fail
                      have kqz3 := fun d os => cell_patch (d := d) (os := os) z3
                      have kqd0 := fun d os => cell_patch (d := d) (os := os) d0
                      have kqd1 := fun d os => cell_patch (d := d) (os := os) d1
                      refine wp_region_quiet_patch (by kernel_rfl) (by kernel_rfl) ?_
                      repeat (go_big_quiet_step (fail))
                      refine wpQuiet_nil ?_
                      intro _ hw'
                      obtain ⟨⟨dq, osq⟩, hw''⟩ := hw'
                      subst hw''
                      clear kqz3 kqd0 kqd1
                      have hb := below_patch wr dq osq
                      replace hBm := below_step hBm hb
                      clear hb
                      generalize patch wr dq osq = wq1 at hBm ⊢
                      go_wp2_with fail
                      go_roundw
                      case rel => exact ⟨q2 + 1, .inl (by omega), by go_num, hBm, HN⟩
                      case measure => simp [intOf]; omega
                  · have HF : Hid (entErr (enF n P V R K B) 0 = 0) := Lib.hid (by rw [HS4.out, firstE_none (fun j hj => HA2.out j (by omega))])
                    have hnk : ¬ ((q2 + 1 : Nat) : Int) < (n2 : Int) := by omega
                    have hnk2 : ¬ (q2 : Int) + 1 < (n2 : Int) := by omega
                    clear hlt hn2 hq2
                    go_wp2_with fail
                    go_ret
                    rw [HF.out]
                    exact ⟨rfl, hBx⟩
        · have HF : Hid (entErr (enF n P V R K B) 0 = r.1) := Lib.hid (by rw [HS.out, hrE, if_pos g2])
          have hrq : rqP r = r := by unfold rqP; rw [if_neg g2]
          rw [hrq] at hre1
          have g4 : (0 : Int) < (r.1 : Int) := by omega
          generalize r.1 = r1 at *
          replace hre1 := Lib.hid hre1
          clear g1 g2 hr hrq hrE
          go_wp2_with fail
          refine hre1.out.mono ?_
          rintro e w5 ⟨rfl, hb⟩
          have hB5 := below_step hB hb
          go_wp2_with fail
          go_ret
          rw [HF.out]
          exact ⟨rfl, hB5⟩
    · obtain ⟨k, rfl⟩ : ∃ k, i = k + 1 := ⟨i - 1, by omega⟩
      have hkn : k < n := by omega
      obtain ⟨b2, o2, eb, hcell2⟩ := h.at_ k hkn
      rw [Nat.add_sub_cancel, enAt_enF hkn] at HS0
      have hk0 : (0 : Int) < ((k + 1 : Nat) : Int) := by omega
      have hk1' : ((k + 1 : Nat) : Int) - 1 = (k : Int) := by omega
      have hkw := wrap_nat k (by omega)
      have hkw1 := wrap_nat (k + 1) (by omega)
      have hkn2 : (k : Int) < (n : Int) := by omega
      have hkn3 : (k : Int) + 1 < (n : Int) := by omega
      have hkn4 : ((k : Int) + 1).toNat = k + 1 := by omega
      have hkn5 : (0 : Int) ≤ (k : Int) + 1 := by omega
      have hkn6 : ¬ ((k : Int) + 1 < 0) := by omega
      rw [ea] at eb
      injection eb with eb
      injection eb with eb1 eb2
      subst eb1 eb2
      obtain ⟨d0, d1, d2, d3, d4⟩ := hcell2
      subst ea
      have hvk := (HSH.out.at_ hkn).2.2.1
      have hia := fun W => isAhead_calls (P k) (V k) (P (k + 1)) (V (k + 1)) W (by omega) (by omega)
      clear hvk
      obtain ⟨c0, c1, c2, c3, c4⟩ := hcell
      obtain ⟨z0, z1, z2, z3, z4⟩ := id hz
      have dB := below_alloc w (.cells #[.string (P (k + 1)), .string (V (k + 1)), .slice a1 n1 s1, .slice a2 n2 s2, .bool (B (k + 1))] 43)
      replace d0 := Below.cell_some dB d0
      replace d1 := Below.cell_some dB d1
      cases hX : modAhead ((P k).data.toList, (V k).data.toList) ((P (k + 1)).data.toList, (V (k + 1)).data.toList) with
      | true =>
        rw [hX] at hia
        have HS : Hid (entErr (enF n P V R K B) (k + 1) = if reqsE (P (k + 1)).data.toList (R (k + 1)) ≠ 0 then reqsE (P (k + 1)).data.toList (R (k + 1)) else packsE (lstF n2 L)) := Lib.hid (by
          rw [HS0, decide_eq_false (p := _ ∧ _) (fun h => by rw [hX] at h; cases h.2)]
          unfold stagesE
          rw [if_neg (fun h => h h0'), if_neg (by simp)])
        replace hme := Lib.hid hme
        replace hia := Lib.hid hia
        clear HS0 h h0 h0' hX d2 d3 d4 dB
        go_enter Tryz.func115, Tryz.ntmps115
        go_wp2_with fail
        generalize w.alloc (.cells #[.string (P (k + 1)), .string (V (k + 1)), .slice a1 n1 s1, .slice a2 n2 s2, .bool (B (k + 1))] 43) = w1 at *
        refine (hme.out _).mono ?_
        rintro e w2 ⟨rfl, hb⟩
        replace hB := below_step hB hb
        replace hz := hz.below hb
        replace d0 := Below.cell_some hb d0
        replace d1 := Below.cell_some hb d1
        clear hb
        clear z0 z1 z2 z3 z4 c0 c1 c2 c3 c4 hme
        obtain ⟨z0, z1, z2, z3, z4⟩ := id hz
        go_wp2_with fail
        have kqd0 := fun d os => cell_patch (d := d) (os := os) d0
        have kqd1 := fun d os => cell_patch (d := d) (os := os) d1
        have kqz0 := fun d os => cell_patch (d := d) (os := os) z0
        have kqz1 := fun d os => cell_patch (d := d) (os := os) z1
        refine wp_region_quiet_patch (by kernel_rfl) (by kernel_rfl) ?_
        repeat (go_big_quiet_step ((go_at_call 160; exact Calls.patch_of (hia.out _))))
        refine wpQuiet_nil ?_
        intro _ hw'
        obtain ⟨⟨dq, osq⟩, hw''⟩ := hw'
        subst hw''
        clear kqd0 kqd1 kqz0 kqz1
        have hb := below_patch w2 dq osq
        replace hB := below_step hB hb
        replace hz := hz.below hb
        clear hb
        generalize patch w2 dq osq = w3 at hB hz ⊢
        clear d0 d1 z0 z1 z2 z3 z4 hia
        obtain ⟨z0, z1, z2, z3, z4⟩ := id hz
        by_cases g1 : 20 < n1
        · have HF : Hid (entErr (enF n P V R K B) (k + 1) = 7) := Lib.hid (by rw [HS.out, show reqsE (P (k + 1)).data.toList (R (k + 1)) = 7 by unfold reqsE; rw [if_pos (by rw [HLR.out]; exact g1)], if_pos (by decide)])
          have g1' : (20 : Int) < (n1 : Int) := by omega
          clear g1
          go_wp2_with fail
          go_ret
          rw [HF.out]
          exact ⟨rfl, hB⟩
        · have g1' : ¬ (20 : Int) < (n1 : Int) := by omega
          obtain ⟨r, hr⟩ : ∃ r, firstE (reqE (P (k + 1)).data.toList (R (k + 1))) (R (k + 1)).length = r := ⟨_, rfl⟩
          have hre1 := hre.out _ hB
          rw [hr] at hre1
          have hrE : reqsE (P (k + 1)).data.toList (R (k + 1)) = r.1 := by unfold reqsE; rw [if_neg (by rw [HLR.out]; exact g1), hr]
          by_cases g2 : r.1 = 0
          · have HS2 : Hid (entErr (enF n P V R K B) (k + 1) = packsE (lstF n2 L)) := Lib.hid (by rw [HS.out, hrE, if_neg (by simp [g2])])
            have hrq : rqP r = (0, 0) := by unfold rqP; rw [if_pos g2]
            rw [hrq] at hre1
            simp only at hre1
            replace hre1 := Lib.hid hre1
            clear g1 g2 hr hrq hrE
            go_wp2_with fail
            refine hre1.out.mono ?_
            rintro e w5 ⟨rfl, hb⟩
            replace hB := below_step hB hb
            replace hz := hz.below hb
            clear hb
            clear z0 z1 z2 z3 z4 hre1
            obtain ⟨z0, z1, z2, z3, z4⟩ := id hz
            by_cases g3 : 10 < n2
            · have HF : Hid (entErr (enF n P V R K B) (k + 1) = 7) := Lib.hid (by rw [HS2.out]; unfold packsE; rw [lstF_length, if_pos g3])
              have g3' : (10 : Int) < (n2 : Int) := by omega
              clear g3
              go_wp2_with fail
              go_ret
              rw [HF.out]
              exact ⟨rfl, hB⟩
            · have g3' : ¬ (10 : Int) < (n2 : Int) := by omega
              have HS3 : Hid (entErr (enF n P V R K B) (k + 1) = if (lstF n2 L).all packOk then (firstE (packE (lstF n2 L)) n2).1 else 1) := Lib.hid (by rw [HS2.out]; unfold packsE; rw [lstF_length, if_neg g3])
              have HN2 := Lib.hid g3
              clear g3
              go_wp2_with fail
              clear g1' g3' z0 z1 z2 z3 z4
              go_loopw [8] (fun x wr => ∃ q : Nat, q ≤ n2 ∧ x = .int .i64 q ∧ Below w5.heap.size w5 wr ∧ Hid (∀ j, j < q → packOk (L j).data.toList = true)) (fun x _ => n2 - (intOf x).toNat)
              case atStart => exact ⟨0, Nat.zero_le _, rfl, Below.refl _ _, Lib.hid (fun j hj => absurd hj (Nat.not_lt_zero _))⟩
              case round =>
                obtain ⟨q, hq, rfl, hBk, HA⟩ := hrel
                have hn2 := HN2.out
                have hBw := below_step hB hBk
                obtain ⟨z0, z1, z2, z3, z4⟩ := hz.below hBk
                by_cases hlt : q < n2
                · have hkn : (q : Int) < (n2 : Int) := by omega
                  obtain ⟨b2, o2, e3, d0⟩ := hkc.out q hlt
                  replace d0 := Below.cell_some hBw d0
                  subst e3
                  have hpl := (hk2.out _ (List.mem_of_getElem? (lstF_get n2 L q hlt)))
                  by_cases m1 : (L q).data.toList = [46]
                  · have HN : Hid (∀ j, j < q + 1 → packOk (L j).data.toList = true) := Lib.hid (fun j hj => by
                      by_cases e : j = q
                      · subst e; unfold packOk; rw [decide_eq_true m1]; rfl
                      · exact HA.out j (by omega))
                    have m2 : ((L q).toList != [46]) = false := by rw [toList_data, m1]; rfl
                    have m3 : (L q).toList = [46] := by rw [toList_data, m1]
                    clear m1 hpl hn2
                    go_wp2_with fail
                    go_roundw
                    case rel => exact ⟨q + 1, by omega, by go_num, hBk, HN⟩
                    case measure => simp [intOf]; omega
                  · have m2 : ((L q).toList != [46]) = true := by rw [toList_data]; exact bne_iff_ne.2 m1
                    have m3 : (L q).toList ≠ [46] := by rw [toList_data]; exact m1
                    have m5 : ((L q).toList == [46]) = false := beq_eq_false_iff_ne.2 m3
                    have hpa := refPath_calls (L q) wr (by rw [size_eq]; omega)
                    by_cases m0 : pathErr (L q).data.toList = 0
                    · have HN : Hid (∀ j, j < q + 1 → packOk (L j).data.toList = true) := Lib.hid (fun j hj => by
                        by_cases e : j = q
                        · subst e; unfold packOk; rw [decide_eq_true m0, Bool.or_true]
                        · exact HA.out j (by omega))
                      rw [m0] at hpa
                      replace hpa := Lib.hid hpa
                      clear m0 m1 hpl hn2
                      go_wp2_with fail
                      refine hpa.out.mono ?_
                      rintro e w6 ⟨rfl, hb⟩
                      replace hBk := below_step hBk hb
                      clear hb hpa
                      go_wp2_with fail
                      go_roundw
                      case rel => exact ⟨q + 1, by omega, by go_num, hBk, HN⟩
                      case measure => simp [intOf]; omega
                    · have HF : Hid (entErr (enF n P V R K B) (k + 1) = 1) := Lib.hid (by
                        rw [HS3.out, if_neg]
                        intro hall
                        have := all_lstF.1 hall q hlt
                        unfold packOk at this
                        rw [decide_eq_false m0, decide_eq_false m1] at this
                        cases this)
                      generalize pathErr (L q).data.toList = c at *
                      have hc9 : (0 : Int) < (c : Int) := by omega
                      replace hpa := Lib.hid hpa
                      clear m0 m1 hpl hn2
                      go_wp2_with fail
                      refine hpa.out.mono ?_
                      rintro e w6 ⟨rfl, hb⟩
                      replace hBw := below_step hBw hb
                      clear hb hpa
                      go_wp2_with fail
                      go_ret
                      rw [HF.out]
                      exact ⟨rfl, hBw⟩
                · have hqn : q = n2 := by omega
                  have HS4 : Hid (entErr (enF n P V R K B) (k + 1) = (firstE (packE (lstF n2 L)) n2).1) := Lib.hid (by rw [HS3.out, if_pos (all_lstF.2 (fun j hj => HA.out j (by omega)))])
                  have hnq : ¬ (q : Int) < (n2 : Int) := by omega
                  have hzk := hz.below hBk
                  clear hqn HA hn2 hq hlt
                  go_wp2_with fail
                  generalize wr = wl at *
                  clear z0 z1 z2 z3 z4 hnq
                  go_loopw [9] (fun x wr => ∃ q : Nat, (q + 1 ≤ n2 ∨ q = 0) ∧ x = .int .i64 ((q + 1 : Nat) : Int) ∧ Below wl.heap.size wl wr ∧ Hid (∀ j, j < q + 1 → packE (lstF n2 L) j = 0)) (fun x _ => n2 - (intOf x).toNat)
                  case atStart =>
                    exact ⟨0, .inr rfl, rfl, Below.refl _ _, Lib.hid (fun j hj => by
                      obtain rfl : j = 0 := by omega
                      unfold packE
                      rw [if_neg (fun h => absurd h.1 (Nat.lt_irrefl _))])⟩
                  case round =>
                    obtain ⟨q2, hq2, rfl, hBm, HA2⟩ := hrel
                    have hn2 := HN2.out
                    have hBx := below_step hBw hBm
                    obtain ⟨z0, z1, z2, z3, z4⟩ := hzk.below hBm
                    by_cases hlt : q2 + 1 < n2
                    · have hkn : ((q2 + 1 : Nat) : Int) < (n2 : Int) := by omega
                      have hk1 : ((q2 + 1 : Nat) : Int) - 1 = (q2 : Int) := by omega
                      have hkw := wrap_nat q2 (by omega)
                      have hkw1 := wrap_nat (q2 + 1) (by omega)
                      have hkn2 : (q2 : Int) < (n2 : Int) := by omega
                      have hkn3 : (q2 : Int) + 1 < (n2 : Int) := by omega
                      have hkn4 : ((q2 : Int) + 1).toNat = q2 + 1 := by omega
                      have hkn5 : (0 : Int) ≤ (q2 : Int) + 1 := by omega
                      have hkn6 : ¬ ((q2 : Int) + 1 < 0) := by omega
                      obtain ⟨b2, o2, e3, d0⟩ := hkc.out (q2 + 1) hlt
                      obtain ⟨b3, o3, e4, d1⟩ := hkc.out q2 (by omega)
                      rw [e3] at e4
                      injection e4 with e4
                      injection e4 with e5 e6
                      subst e5 e6
                      subst e3
                      replace d0 := Below.cell_some hBx d0
                      replace d1 := Below.cell_some hBx d1
                      have hle := leq_eq (L (q2 + 1)) (L q2)
                      have hR : packE (lstF n2 L) (q2 + 1) = if compareBytes (L (q2 + 1)).data.toList (L q2).data.toList ≤ 0 then 8 else 0 := by
                        unfold packE
                        rw [Nat.add_sub_cancel, getD_lstF hlt, getD_lstF (by omega)]
                        simp only [Nat.succ_pos, true_and]
                      by_cases hc0 : compareBytes (L (q2 + 1)).data.toList (L q2).data.toList ≤ 0
                      · rw [if_pos hc0] at hR
                        rw [decide_eq_true hc0] at hle
                        have HF : Hid (entErr (enF n P V R K B) (k + 1) = 8) := Lib.hid (by rw [HS4.out, firstE_hit (by rw [hR]; decide) HA2.out hlt, hR])
                        clear hR hc0 hn2 hq2
                        go_wp2_with fail
                        have kqz3 := fun d os => cell_patch (d := d) (os := os) z3
                        have kqd0 := fun d os => cell_patch (d := d) (os := os) d0
                        have kqd1 := fun d os => cell_patch (d := d) (os := os) d1
                        refine wp_region_quiet_patch (by kernel_rfl) (by kernel_rfl) ?_
                        repeat (go_big_quiet_step (fail))
                        refine wpQuiet_nil ?_
                        intro _ hw'
                        obtain ⟨⟨dq, osq⟩, hw''⟩ := hw'
                        subst hw''
                        clear kqz3 kqd0 kqd1
                        have hb := below_patch wr dq osq
                        replace hBx := below_step hBx hb
                        clear hb
                        generalize patch wr dq osq = wq1 at hBx ⊢
                        go_wp2_with fail
                        go_ret
                        rw [HF.out]
                        exact ⟨rfl, hBx⟩
                      · rw [if_neg hc0] at hR
                        rw [decide_eq_false hc0] at hle
                        have HN : Hid (∀ j, j < q2 + 1 + 1 → packE (lstF n2 L) j = 0) := Lib.hid (fun j hj => by
                          by_cases e : j = q2 + 1
                          · subst e; exact hR
                          · exact HA2.out j (by omega))
                        clear hR hc0 hq2
                        go_wp2_with fail
                        have kqz3 := fun d os => cell_patch (d := d) (os := os) z3
                        have kqd0 := fun d os => cell_patch (d := d) (os := os) d0
                        have kqd1 := fun d os => cell_patch (d := d) (os := os) d1
                        refine wp_region_quiet_patch (by kernel_rfl) (by kernel_rfl) ?_
                        repeat (go_big_quiet_step (fail))
                        refine wpQuiet_nil ?_
                        intro _ hw'
                        obtain ⟨⟨dq, osq⟩, hw''⟩ := hw'
                        subst hw''
                        clear kqz3 kqd0 kqd1
                        have hb := below_patch wr dq osq
                        replace hBm := below_step hBm hb
                        clear hb
                        generalize patch wr dq osq = wq1 at hBm ⊢
                        go_wp2_with fail
                        go_roundw
                        case rel => exact ⟨q2 + 1, .inl (by omega), by go_num, hBm, HN⟩
                        case measure => simp [intOf]; omega
                    · have HF : Hid (entErr (enF n P V R K B) (k + 1) = 0) := Lib.hid (by rw [HS4.out, firstE_none (fun j hj => HA2.out j (by omega))])
                      have hnk : ¬ ((q2 + 1 : Nat) : Int) < (n2 : Int) := by omega
                      have hnk2 : ¬ (q2 : Int) + 1 < (n2 : Int) := by omega
                      clear hlt hn2 hq2
                      go_wp2_with fail
                      go_ret
                      rw [HF.out]
                      exact ⟨rfl, hBx⟩
          · have HF : Hid (entErr (enF n P V R K B) (k + 1) = r.1) := Lib.hid (by rw [HS.out, hrE, if_pos g2])
            have hrq : rqP r = r := by unfold rqP; rw [if_neg g2]
            rw [hrq] at hre1
            have g4 : (0 : Int) < (r.1 : Int) := by omega
            generalize r.1 = r1 at *
            replace hre1 := Lib.hid hre1
            clear g1 g2 hr hrq hrE
            go_wp2_with fail
            refine hre1.out.mono ?_
            rintro e w5 ⟨rfl, hb⟩
            have hB5 := below_step hB hb
            go_wp2_with fail
            go_ret
            rw [HF.out]
            exact ⟨rfl, hB5⟩
      | false =>
        rw [hX] at hia
        have HF : Hid (entErr (enF n P V R K B) (k + 1) = 8) := Lib.hid (by
          rw [HS0, decide_eq_true (p := _ ∧ _) ⟨Nat.succ_pos k, hX⟩]
          unfold stagesE
          rw [if_neg (fun h => h h0'), if_pos rfl])
        replace hme := Lib.hid hme
        replace hia := Lib.hid hia
        clear HS0 h h0 h0' hX d2 d3 d4 dB
        go_enter Tryz.func115, Tryz.ntmps115
        go_wp2_with fail
        generalize w.alloc (.cells #[.string (P (k + 1)), .string (V (k + 1)), .slice a1 n1 s1, .slice a2 n2 s2, .bool (B (k + 1))] 43) = w1 at *
        refine (hme.out _).mono ?_
        rintro e w2 ⟨rfl, hb⟩
        replace hB := below_step hB hb
        replace hz := hz.below hb
        replace d0 := Below.cell_some hb d0
        replace d1 := Below.cell_some hb d1
        clear hb
        clear z0 z1 z2 z3 z4 c0 c1 c2 c3 c4 hme
        obtain ⟨z0, z1, z2, z3, z4⟩ := id hz
        go_wp2_with fail
        have kqd0 := fun d os => cell_patch (d := d) (os := os) d0
        have kqd1 := fun d os => cell_patch (d := d) (os := os) d1
        have kqz0 := fun d os => cell_patch (d := d) (os := os) z0
        have kqz1 := fun d os => cell_patch (d := d) (os := os) z1
        refine wp_region_quiet_patch (by kernel_rfl) (by kernel_rfl) ?_
        repeat (go_big_quiet_step ((go_at_call 160; exact Calls.patch_of (hia.out _))))
        refine wpQuiet_nil ?_
        intro _ hw'
        obtain ⟨⟨dq, osq⟩, hw''⟩ := hw'
        subst hw''
        clear kqd0 kqd1 kqz0 kqz1
        have hb := below_patch w2 dq osq
        replace hB := below_step hB hb
        replace hz := hz.below hb
        clear hb
        generalize patch w2 dq osq = w3 at hB hz ⊢
        clear d0 d1 z0 z1 z2 z3 z4 hia
        go_wp2_with fail
        go_ret
        rw [HF.out]
        exact ⟨rfl, hB⟩
  · have HF : Hid (entErr (enF n P V R K B) i = modErr (P i).data.toList (V i).data.toList) := Lib.hid (by
      rw [HS0]
      unfold stagesE
      rw [if_pos (by exact h0)]
      rfl)
    generalize modErr (P i).data.toList (V i).data.toList = c at *
    have hc9 : (0 : Int) < (c : Int) := by omega
    subst ea
    replace hme := Lib.hid hme
    obtain ⟨c0, c1, c2, c3, c4⟩ := hcell
    obtain ⟨z0, z1, z2, z3, z4⟩ := id hz
    clear HS0 h h0
    go_enter Tryz.func115, Tryz.ntmps115
    go_wp2_with fail
    generalize w.alloc (.cells #[.string (P i), .string (V i), .slice a1 n1 s1, .slice a2 n2 s2, .bool (B i)] 43) = w1 at *
    refine (hme.out _).mono ?_
    rintro e w2 ⟨rfl, hb⟩
    replace hB := below_step hB hb
    clear hb z0 z1 z2 z3 z4 c0 c1 c2 c3 c4
    go_wp2_with fail
    go_ret
    rw [HF.out]
    exact ⟨rfl, hB⟩
end Go.Proofs.Pw

namespace Go.Proofs.Pw
open Go.RowKit
open Go.Lib hiding intOf
set_option maxHeartbeats 4000000 in
set_option maxRecDepth 100000 in
theorem rootsFault_in (a : Option Addr) (n cap : Nat) (P V : Nat → ByteArray) (R : Nat → List Md) (K : Nat → List Str) (B : Nat → Bool) (Rv Kv : Nat → Value) (rv : Value) (roots : List Md) (w : World) (h : EntsIn w a n cap P V R K B Rv Kv) (hr : ModsAt w rv roots) (hl : n ≤ 1000000) (hl2 : roots.length ≤ 1000000) :
    Calls Tryz.prog 70 #[.slice a n cap, rv] w fun e w' => e = .returned (fltV (rootsErr (enF n P V R K B) roots)) ∧ Below w.heap.size w w' := by
  obtain ⟨a2, m, cap2, Q, U, rfl, rfl, hmc, hcap2, hc2⟩ := hr
  rw [mdF_length] at hl2
  have hB := below_alloc w (.cells #[.int .i64 0, .int .i64 0] 49)
  have hz := box2_alloc w (.int .i64 0) (.int .i64 0) 49
  have HFE : Hid (rootsErr (enF n P V R K B) (mdF m Q U) = firstE (rootE (enF n P V R K B) (mdF m Q U)) m) := Lib.hid (by unfold rootsErr; rw [mdF_length])
  have hfo := fun (p v : ByteArray) (W : World) (hb : Below w.heap.size w W) => findOf_in a n cap P V R K B Rv Kv p v W (h.below hb) hl
  have HL := Lib.hid hl
  replace hc2 := Lib.hid hc2
  replace hfo := Lib.hid hfo
  clear h hl
  go_enter Tryz.func70, Tryz.ntmps70
  go_wp2_with fail
  generalize w.alloc (.cells #[.int .i64 0, .int .i64 0] 49) = w1 at *
  go_loopw [5] (fun i wr => ∃ k : Nat, k ≤ m ∧ i = .int .i64 k ∧ Below w1.heap.size w1 wr ∧ Hid (∀ j, j < k → rootE (enF n P V R K B) (mdF m Q U) j = 0)) (fun i _ => m - (intOf i).toNat)
  case atStart => exact ⟨0, Nat.zero_le _, rfl, Below.refl _ _, Lib.hid (fun j hj => absurd hj (Nat.not_lt_zero _))⟩
  case round =>
    obtain ⟨k, hk, rfl, hBk, HA⟩ := hrel
    have hBw := below_step hB hBk
    have hzk := hz.below hBk
    by_cases hlt : k < m
    · have hkn : (k : Int) < (m : Int) := by omega
      obtain ⟨b1, o1, ea, c0, c1⟩ := hc2.out k hlt
      replace c0 := Below.cell_some hBw c0
      replace c1 := Below.cell_some hBw c1
      subst ea
      have hR : rootE (enF n P V R K B) (mdF m Q U) k = if findE (enF n P V R K B) ((Q k).data.toList, (U k).data.toList) < 0 then 5 else 0 := by
        unfold rootE
        rw [mdAt_mdF hlt]
      have hf := hfo.out (Q k) (U k) wr hBw
      obtain ⟨x, hx⟩ : ∃ x, findE (enF n P V R K B) ((Q k).data.toList, (U k).data.toList) = x := ⟨_, rfl⟩
      rw [hx] at hR hf
      by_cases h0 : x < 0
      · rw [if_pos h0] at hR
        have HF : Hid (rootsErr (enF n P V R K B) (mdF m Q U) = (5, (k : Int))) := Lib.hid (by rw [HFE.out, firstE_hit (by rw [hR]; decide) HA.out hlt, hR])
        replace hf := Lib.hid hf
        clear hx hR
        go_wp2_with fail
        refine hf.out.mono ?_
        rintro e w2 ⟨rfl, hb⟩
        have hB2 := below_step hBw hb
        obtain ⟨z0, z1, zf⟩ := hzk.below hb
        clear hb hf c0 c1
        go_wp2_with fail
        refine bodyPost_ret (v := fltV (5, (k : Int))) (by simp [results, Tryz.results70, fltV, go_sem, *]) rfl ?_
        rw [HF.out]
        exact ⟨rfl, (hB2.setCell (p := ⟨w.heap.size, 0, none⟩) (Nat.le_refl _) _).setCell (p := ⟨w.heap.size, 1, none⟩) (Nat.le_refl _) _⟩
      · rw [if_neg h0] at hR
        have HN : Hid (∀ j, j < k + 1 → rootE (enF n P V R K B) (mdF m Q U) j = 0) := Lib.hid (fun j hj => by
          by_cases e : j = k
          · subst e; exact hR
          · exact HA.out j (by omega))
        have hq : decide (x < 0) = false := decide_eq_false h0
        replace hf := Lib.hid hf
        clear hx hR h0
        go_wp2_with fail
        refine hf.out.mono ?_
        rintro e w2 ⟨rfl, hb⟩
        replace hBk := below_step hBk hb
        clear hb hf c0 c1
        go_wp2_with fail
        go_roundw
        case rel => exact ⟨k + 1, by omega, by go_num, hBk, HN⟩
        case measure => simp [intOf]; omega
    · obtain rfl : m = k := by omega
      have HF : Hid (rootsErr (enF n P V R K B) (mdF m Q U) = (0, -1)) := Lib.hid (by rw [HFE.out, firstE_none HA.out])
      have hfi := fun W => refFine_calls W
      unfold fltV at hfi
      replace hfi := Lib.hid hfi
      go_wp2_with fail
      refine (hfi.out _).mono ?_
      rintro e w2 ⟨rfl, hb⟩
      have hB2 := below_step hBw hb
      obtain ⟨z0, z1, zf⟩ := hzk.below hb
      clear hb hfi
      go_wp2_with fail
      refine bodyPost_ret (v := fltV (0, -1)) (by simp [results, Tryz.results70, fltV, go_sem, *]) rfl ?_
      rw [HF.out]
      exact ⟨rfl, (hB2.setCell (p := ⟨w.heap.size, 0, none⟩) (Nat.le_refl _) _).setCell (p := ⟨w.heap.size, 1, none⟩) (Nat.le_refl _) _⟩
end Go.Proofs.Pw
