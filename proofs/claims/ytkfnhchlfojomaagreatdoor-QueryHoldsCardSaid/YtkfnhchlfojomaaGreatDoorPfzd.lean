/- Pf: walks and plain laws, joined: RefPick. Conditions: at each theorem. -/
import Derived.Test.YtkfnhchlfojomaaGreatDoorPfy
import Derived.Test.YtkfnhchlfojomaaGreatDoorPfz
import Derived.Test.YtkfnhchlfojomaaGreatDoorPfzc
import Derived.Test.YtkfnhchlfojomaaGreatDoorPfza
import Derived.Test.YtkfnhchlfojomaaGreatDoorPfh

namespace Go.Proofs.Pw
open Go.RowKit Go.Sort
open Go.Lib hiding intOf
theorem likedF_text (l : List En) (p : Str) (vs : List Str) (b : Bool) : (likedF l p vs b).getD [] = if b then (likedL l p vs).headD [] else lastS (likedL l p vs) := by
  unfold likedF
  by_cases h : likedL l p vs = []
  · rw [if_pos h, h]
    cases b <;> rfl
  · rw [if_neg h]
    rfl
theorem likedOfB_in (a : Option Addr) (n cap : Nat) (P V : Nat → ByteArray) (R : Nat → List Md) (K : Nat → List Str) (Bk : Nat → Bool) (Rv Kv : Nat → Value) (p : ByteArray) (sv : Value) (l : List Str) (least : Bool) (w : World) (h : EntsIn w a n cap P V R K Bk Rv Kv) (hn : n ≤ 1000000) (hv : StrsAt w sv l) (hl : l.length ≤ 1000000) (hls : ∀ x ∈ l, x.length ≤ 1000000) :
    Calls Tryz.prog 104 #[.slice a n cap, .string p, sv, .bool least] w fun e w' => e = .returned (.string ⟨((likedF (enF n P V R K Bk) p.data.toList l least).getD []).toArray⟩) ∧ Below w.heap.size w w' := by
  rw [likedF_text]
  cases least with
  | true => exact likedOfL_in a n cap P V R K Bk Rv Kv p sv l w h hn hv hl hls
  | false => exact likedOf_in a n cap P V R K Bk Rv Kv p sv l w h hn hv hl hls
set_option maxHeartbeats 8000000 in
set_option maxRecDepth 100000 in
theorem refPick_in (a : Option Addr) (n cap : Nat) (P V : Nat → ByteArray) (R : Nat → List Md) (K : Nat → List Str) (Bk : Nat → Bool) (Rv Kv : Nat → Value) (p q now : ByteArray) (w : World) (h : EntsIn w a n cap P V R K Bk Rv Kv) (hs : ShortI (enF n P V R K Bk)) (hq : q.size ≤ 1000000) (hnow : now.size ≤ 1000000) :
    Calls Tryz.prog 39 #[.slice a n cap, .string p, .string q, .string now] w fun e w' => e = .returned (.tuple #[.string ⟨(pickS (enF n P V R K Bk) p.data.toList q.data.toList now.data.toList).toArray⟩, fltV (pickErr (enF n P V R K Bk) p.data.toList q.data.toList now.data.toList)]) ∧ Below w.heap.size w w' := by
  obtain ⟨i0, hi, hz0, hz1, hz2⟩ := info_parts Tryz.infoString
  have hn : n ≤ 1000000 := by have := hs.len; rwa [enF_length] at this
  have hB := below_alloc w (.cells #[.int .i64 0, .int .i64 0] 46)
  have hz := box2_alloc w (.int .i64 0) (.int .i64 0) 46
  have hqe := fun W => refQErr_calls q W hq
  have hif := fun (W : World) (hb : Below w.heap.size w W) => indexFault_in a n cap P V R K Bk Rv Kv W (h.below hb) hs
  have H := Lib.hid (fun (W : World) (hb : Below w.heap.size w W) => h.below hb)
  have hPE : pickErr (enF n P V R K Bk) p.data.toList q.data.toList now.data.toList = if qErr q.data.toList ≠ 0 then (qErr q.data.toList, -1) else orE (idxErr (enF n P V R K Bk)) (if (pickF (enF n P V R K Bk) p.data.toList q.data.toList now.data.toList).isNone then (5, -1) else (0, -1)) := rfl
  have hPS : pickS (enF n P V R K Bk) p.data.toList q.data.toList now.data.toList = if (pickErr (enF n P V R K Bk) p.data.toList q.data.toList now.data.toList).1 = 0 then (pickF (enF n P V R K Bk) p.data.toList q.data.toList now.data.toList).getD [] else [] := rfl
  generalize pickErr (enF n P V R K Bk) p.data.toList q.data.toList now.data.toList = PE at hPE hPS ⊢
  generalize pickS (enF n P V R K Bk) p.data.toList q.data.toList now.data.toList = PS at hPS ⊢
  obtain ⟨F, hF⟩ : ∃ F, idxErr (enF n P V R K Bk) = F := ⟨_, rfl⟩
  simp only [hF] at hif hPE
  obtain ⟨fc, fa⟩ := F
  unfold fltV at hif
  simp only at hif
  generalize qErr q.data.toList = qe at hqe hPE
  have HPE := Lib.hid hPE
  have HPS := Lib.hid hPS
  have HSH := Lib.hid hs
  have HFI := Lib.hid hF
  replace hqe := Lib.hid hqe
  replace hif := Lib.hid hif
  clear h hs hPE hPS hF
  go_enter Tryz.func39, Tryz.ntmps39
  go_wp2_with fail
  generalize w.alloc (.cells #[.int .i64 0, .int .i64 0] 46) = w1 at *
  refine (hqe.out _).mono ?_
  rintro e w2 ⟨rfl, hb⟩
  have hs2 : w.heap.size < w2.heap.size := Nat.lt_of_lt_of_le (lt_of_cell hz.c0) hb.size
  replace hz := hz.below hb
  replace hB := below_step hB hb
  clear hb hqe
  by_cases hq0 : qe = 0
  · subst hq0
    have HPE1 : Hid (PE = orE (fc, fa) (if (pickF (enF n P V R K Bk) p.data.toList q.data.toList now.data.toList).isNone then (5, -1) else (0, -1))) := Lib.hid (by rw [HPE.out, if_neg (by simp)])
    clear HPE
    go_wp2_with fail
    refine (hif.out _ hB).mono ?_
    rintro e w3 ⟨rfl, hb⟩
    have hba := below_alloc w3 (.cells #[.int .i64 (fc : Nat), .int .i64 fa] 46)
    have hx := box2_alloc w3 (.int .i64 (fc : Nat)) (.int .i64 fa) 46
    have hs3 : w.heap.size < w3.heap.size := Nat.lt_of_lt_of_le (lt_of_cell hz.c0) hb.size
    replace hb := below_step hb hba
    replace hz := hz.below hb
    replace hB := below_step hB hb
    clear hb hba hif
    obtain ⟨x0, x1, xf⟩ := id hx
    have nx1 : w.heap.size ≠ w3.heap.size := by omega
    have nx2 : w3.heap.size ≠ w.heap.size := by omega
    by_cases h0 : fc = 0
    · subst h0
      have HPE2 : Hid (PE = if (pickF (enF n P V R K Bk) p.data.toList q.data.toList now.data.toList).isNone then (5, -1) else (0, -1)) := Lib.hid (by rw [HPE1.out]; unfold orE; rw [if_neg (by simp)])
      clear HPE1
      by_cases hqn : q.data.toList = wNone
      · have HPF : Hid (pickF (enF n P V R K Bk) p.data.toList q.data.toList now.data.toList = some wNone) := Lib.hid (by rw [hqn]; rfl)
        have q1 : (q.toList == [110, 111, 110, 101]) = true := by rw [toList_data, hqn]; rfl
        have hfi := fun W => refFine_calls W
        unfold fltV at hfi
        simp only at hfi
        replace hfi := Lib.hid hfi
        clear hqn
        go_wp2_with fail
        generalize w3.alloc (.cells #[.int .i64 ((0 : Nat) : Int), .int .i64 fa] 46) = w4 at *
        refine (hfi.out _).mono ?_
        rintro e w5 ⟨rfl, hb⟩
        replace hz := hz.below hb
        replace hB := below_step hB hb
        clear x0 x1 xf hx
        obtain ⟨x0, x1, xf⟩ := id hz
        clear hb hfi hz
        go_wp2_with fail
        refine bodyPost_ret (v := .tuple #[(.string ⟨#[110, 111, 110, 101]⟩), fltV ((0 : Nat), -1)]) (by simp [results, Tryz.results39, fltV, go_sem, *]) rfl ?_
        rw [HPS.out, HPE2.out, HPF.out]
        exact ⟨rfl, (hB.setCell (p := ⟨w.heap.size, 0, none⟩) (Nat.le_refl _) _).setCell (p := ⟨w.heap.size, 1, none⟩) (Nat.le_refl _) _⟩
      · have q1 : (q.toList == [110, 111, 110, 101]) = false := by rw [toList_data]; exact beq_eq_false_iff_ne.2 hqn
        have hvs := refVersOf_in a n cap P V R K Bk Rv Kv p (w3.alloc (.cells #[.int .i64 ((0 : Nat) : Int), .int .i64 fa] 46)) (H.out _ hB) HSH.out
        have hvo := fun W => refVerOf_calls now W (by omega)
        obtain ⟨N0, hN0⟩ : ∃ x, verNum now.data.toList 0 = x := ⟨_, rfl⟩
        obtain ⟨N1, hN1⟩ : ∃ x, verNum now.data.toList 1 = x := ⟨_, rfl⟩
        obtain ⟨VE, hVE⟩ : ∃ x, verErr now.data.toList = x := ⟨_, rfl⟩
        simp only [hN0, hN1, hVE] at hvo
        generalize verNum now.data.toList 2 = N2 at hvo
        have HN0 := Lib.hid hN0
        have HN1 := Lib.hid hN1
        have HVE := Lib.hid hVE
        clear hN0 hN1 hVE
        have hsz := versL_size (p := p.data.toList) HSH.out
        have HVL : Hid ((vsort (versL (enF n P V R K Bk) p.data.toList)).length ≤ 1000000 ∧ ∀ x ∈ vsort (versL (enF n P V R K Bk) p.data.toList), x.length ≤ 1000000 ∧ verErr x = 0) := Lib.hid ⟨Nat.le_trans (vsort_len _) hsz.1, fun x hx => ⟨hsz.2 x ((vsort_mem _ _).1 hx).1, ((vsort_mem _ _).1 hx).2⟩⟩
        have HPR : Hid (pickF (enF n P V R K Bk) p.data.toList q.data.toList now.data.toList = (likedF (enF n P V R K Bk) p.data.toList ((vsort (versL (enF n P V R K Bk) p.data.toList)).filter (okF q.data.toList now.data.toList)) (leastF q.data.toList)).map fun s => if q.data.toList = wUpgrade then verMax s now.data.toList else s) := Lib.hid (by
          rw [pick_ref _ _ _ _ (by
            have := vsort_rises (versL (enF n P V R K Bk) p.data.toList)
            unfold Rises at this
            exact this.imp fun {x y} h e => by subst e; rw [verCmp_ord.self] at h; omega)]
          unfold pickR
          rw [if_neg hqn])
        generalize vsort (versL (enF n P V R K Bk) p.data.toList) = VL at *
        replace hvs := Lib.hid hvs
        replace hvo := Lib.hid hvo
        clear hqn hsz
        go_wp2_with fail
        generalize w3.alloc (.cells #[.int .i64 ((0 : Nat) : Int), .int .i64 fa] 46) = w4 at *
        refine hvs.out.mono ?_
        rintro e w5 ⟨⟨v5, rfl, hv5⟩, hb⟩
        obtain ⟨a5, m, c5, L5, rfl, eVL, -, -, hc5⟩ := hv5
        replace hz := hz.below hb
        replace hB := below_step hB hb
        clear hb hvs x0 x1 xf hx
        go_wp2_with fail
        refine (hvo.out _).mono ?_
        rintro e w6 ⟨⟨v6, rfl, hs6⟩, hb⟩
        obtain ⟨a6, m6, c6, _, rfl, -⟩ := hs6
        have hba := below_alloc w6 (.cells #[.int .i64 (N0 : Nat), .int .i64 (N1 : Nat), .int .i64 (N2 : Nat), .slice a6 m6 c6] 149)
        have hc6 : Hid (∀ j, j < m → ∃ b o, a5 = some ⟨b, o, none⟩ ∧ (w6.alloc (.cells #[.int .i64 (N0 : Nat), .int .i64 (N1 : Nat), .int .i64 (N2 : Nat), .slice a6 m6 c6] 149)).cell? ⟨b, o + j, none⟩ = some (.string (L5 j))) := Lib.hid (fun j hj => let ⟨b, o, e1, e2⟩ := hc5 j hj; ⟨b, o, e1, Below.cell_some hba (Below.cell_some hb e2)⟩)
        replace hz := hz.below (below_step hb hba)
        replace hB := below_step hB (below_step hb hba)
        clear hb hvo hc5 hba
        have HEV := Lib.hid eVL
        clear eVL
        go_wp2_with fail
        have X0 : (w6.alloc (.cells #[.int .i64 (N0 : Nat), .int .i64 (N1 : Nat), .int .i64 (N2 : Nat), .slice a6 m6 c6] 149)).cell? ⟨w6.heap.size, 0, none⟩ = some (.int .i64 (N0 : Nat)) := by simp
        have X1 : (w6.alloc (.cells #[.int .i64 (N0 : Nat), .int .i64 (N1 : Nat), .int .i64 (N2 : Nat), .slice a6 m6 c6] 149)).cell? ⟨w6.heap.size, 1, none⟩ = some (.int .i64 (N1 : Nat)) := by simp
        replace X0 := Lib.hid X0
        replace X1 := Lib.hid X1
        generalize hW7 : w6.alloc (.cells #[.int .i64 (N0 : Nat), .int .i64 (N1 : Nat), .int .i64 (N2 : Nat), .slice a6 m6 c6] 149) = w7 at *
        clear hW7
        go_loopw [15, 16, 17, 18, 19, 20] (fun o i _ _ _ _ wr => ∃ (k : Nat) (L : List ByteArray), k ≤ m ∧ i = .int .i64 k ∧ Hid (wr.ownsRow w7.heap.size 9 1 o L.length (strVs L)) ∧ L.length ≤ k ∧ Hid (strTs L = ((lstF m L5).take k).filter (okF q.data.toList now.data.toList)) ∧ Below w7.heap.size w7 wr) (fun _ i _ _ _ _ _ => m - (intOf i).toNat)
        case atStart => exact ⟨0, [], Nat.zero_le _, rfl, Lib.hid (World.ownsRow_nil _ _ _ _), Nat.le_refl _, Lib.hid rfl, Below.refl _ _⟩
        case round =>
          obtain ⟨k, L, hk, rfl, hO, hLk, hT, hBr⟩ := hrel
          obtain ⟨ao, no, co, rfl⟩ := own_form hO.out
          by_cases hlt : k < m
          · have hkn : (k : Int) < (m : Int) := by omega
            have hmm : m ≤ 1000000 := by have h1 := HVL.out.1; rw [HEV.out, lstF_length] at h1; exact h1
            obtain ⟨b1, o1, ea, c0⟩ := hc6.out k hlt
            replace c0 := Below.cell_some hBr c0
            subst ea
            have hTk : ((lstF m L5).take (k + 1)).filter (okF q.data.toList now.data.toList) = ((lstF m L5).take k).filter (okF q.data.toList now.data.toList) ++ (if okF q.data.toList now.data.toList (L5 k).data.toList then [(L5 k).data.toList] else []) := by
              rw [List.take_add_one, lstF_get m L5 k hlt]
              show List.filter _ (_ ++ [_]) = _
              rw [List.filter_append]
              congr 1
              cases h : okF q.data.toList now.data.toList (L5 k).data.toList <;> simp [h]
            have hgk := HVL.out.2 (L5 k).data.toList (by rw [HEV.out]; exact lstF_mem'.2 ⟨k, hlt, rfl⟩)
            have hzk : (L5 k).size ≤ 1000000 := by rw [size_eq]; exact hgk.1
            cases hw : qWord q.data.toList with
            | true =>
              have hwo := fun W => refIsWord_calls q W
              rw [hw] at hwo
              by_cases hpa : q.data.toList = wPatch
              · have q4 : (q.toList == [112, 97, 116, 99, 104]) = true := by rw [toList_data, hpa]; rfl
                rcases Nat.eq_zero_or_pos VE with hbd | hbd
                · have hok : okF q.data.toList now.data.toList (L5 k).data.toList = (decide (verNum (L5 k).data.toList 0 = N0) && decide (verNum (L5 k).data.toList 1 = N1) && !verLess (L5 k).data.toList now.data.toList) := by
                    unfold okF
                    rw [hw, if_pos rfl, if_pos ⟨hpa, by rw [HVE.out]; exact hbd⟩, HN0.out, HN1.out]
                  rw [hok] at hTk
                  have hvk := fun W => refVerOf_calls (L5 k) W (by omega)
                  have hle := fun W => isLess_calls (L5 k) now W (by omega) (by omega)
                  generalize verNum (L5 k).data.toList 0 = M0 at hvk hTk
                  generalize verNum (L5 k).data.toList 1 = M1 at hvk hTk
                  generalize verNum (L5 k).data.toList 2 = M2 at hvk
                  generalize verLess (L5 k).data.toList now.data.toList = LS at hle hTk
                  have hbd0 : ((VE : Int) == 0) = true := by rw [hbd]; rfl
                  replace hwo := Lib.hid hwo
                  replace hvk := Lib.hid hvk
                  replace hle := Lib.hid hle
                  clear hbd
                  clear hw hok hgk hzk hpa
                  by_cases e0 : M0 = N0
                  · subst e0
                    by_cases e1 : M1 = N1
                    · subst e1
                      cases LS with
                      | true =>
                        have HN : Hid (strTs L = ((lstF m L5).take (k + 1)).filter (okF q.data.toList now.data.toList)) := Lib.hid (by rw [hTk, hT.out]; simp)
                        clear hTk hT
                        go_wp2_with fail
                        refine (hvk.out _).mono ?_
                        rintro e w8 ⟨⟨v8, rfl, hs8⟩, hb⟩
                        obtain ⟨a8, m8, c8, _, rfl, -⟩ := hs8
                        have hba := below_alloc w8 (.cells #[.int .i64 (M0 : Nat), .int .i64 (M1 : Nat), .int .i64 (M2 : Nat), .slice a8 m8 c8] 149)
                        have y0 : (w8.alloc (.cells #[.int .i64 (M0 : Nat), .int .i64 (M1 : Nat), .int .i64 (M2 : Nat), .slice a8 m8 c8] 149)).cell? ⟨w8.heap.size, 0, none⟩ = some (.int .i64 (M0 : Nat)) := by simp
                        have y1 : (w8.alloc (.cells #[.int .i64 (M0 : Nat), .int .i64 (M1 : Nat), .int .i64 (M2 : Nat), .slice a8 m8 c8] 149)).cell? ⟨w8.heap.size, 1, none⟩ = some (.int .i64 (M1 : Nat)) := by simp
                        have hO9 := hO.out.below (below_step hb hba)
                        replace hBr := below_step hBr (below_step hb hba)
                        replace c0 := Below.cell_some (below_step hb hba) c0
                        clear hb hba hO hvk
                        go_wp2_with fail
                        generalize w8.alloc (.cells #[.int .i64 (M0 : Nat), .int .i64 (M1 : Nat), .int .i64 (M2 : Nat), .slice a8 m8 c8] 149) = w9 at *
                        generalize w8.heap.size = by8 at *
                        refine (hle.out _).mono ?_
                        rintro e w10 ⟨rfl, hb⟩
                        replace hO9 := Lib.hid (hO9.below hb)
                        replace hBr := below_step hBr hb
                        replace c0 := Below.cell_some hb c0
                        replace y0 := Below.cell_some hb y0
                        replace y1 := Below.cell_some hb y1
                        have x0 := Below.cell_some hBr X0.out
                        have x1 := Below.cell_some hBr X1.out
                        clear hb hle
                        go_wp2_with fail
                        refine (hwo.out _).mono ?_
                        rintro e w11 ⟨rfl, rfl⟩
                        go_wp2_with fail
                        go_roundw
                        case rel => exact ⟨k + 1, L, by omega, by go_num, hO9, by omega, HN, hBr⟩
                        case measure => simp [intOf]; omega
                      | false =>
                        have HN : Hid (strTs (L ++ [L5 k]) = ((lstF m L5).take (k + 1)).filter (okF q.data.toList now.data.toList)) := Lib.hid (by rw [hTk, strTs_snoc, hT.out]; simp)
                        clear hTk hT
                        go_wp2_with fail
                        refine (hvk.out _).mono ?_
                        rintro e w8 ⟨⟨v8, rfl, hs8⟩, hb⟩
                        obtain ⟨a8, m8, c8, _, rfl, -⟩ := hs8
                        have hba := below_alloc w8 (.cells #[.int .i64 (M0 : Nat), .int .i64 (M1 : Nat), .int .i64 (M2 : Nat), .slice a8 m8 c8] 149)
                        have y0 : (w8.alloc (.cells #[.int .i64 (M0 : Nat), .int .i64 (M1 : Nat), .int .i64 (M2 : Nat), .slice a8 m8 c8] 149)).cell? ⟨w8.heap.size, 0, none⟩ = some (.int .i64 (M0 : Nat)) := by simp
                        have y1 : (w8.alloc (.cells #[.int .i64 (M0 : Nat), .int .i64 (M1 : Nat), .int .i64 (M2 : Nat), .slice a8 m8 c8] 149)).cell? ⟨w8.heap.size, 1, none⟩ = some (.int .i64 (M1 : Nat)) := by simp
                        have hO9 := hO.out.below (below_step hb hba)
                        replace hBr := below_step hBr (below_step hb hba)
                        replace c0 := Below.cell_some (below_step hb hba) c0
                        clear hb hba hO hvk
                        go_wp2_with fail
                        generalize w8.alloc (.cells #[.int .i64 (M0 : Nat), .int .i64 (M1 : Nat), .int .i64 (M2 : Nat), .slice a8 m8 c8] 149) = w9 at *
                        generalize w8.heap.size = by8 at *
                        refine (hle.out _).mono ?_
                        rintro e w10 ⟨rfl, hb⟩
                        replace hO9 := Lib.hid (hO9.below hb)
                        replace hBr := below_step hBr hb
                        replace c0 := Below.cell_some hb c0
                        replace y0 := Below.cell_some hb y0
                        replace y1 := Below.cell_some hb y1
                        have x0 := Below.cell_some hBr X0.out
                        have x1 := Below.cell_some hBr X1.out
                        clear hb hle
                        go_wp2_with fail
                        refine (hwo.out _).mono ?_
                        rintro e w11 ⟨rfl, rfl⟩
                        go_wp2_with (at_builtin; refine wpList_append_own _ rfl _ _ 35 rfl w7.heap.size 9 i0 (.string ⟨#[]⟩) 1 16 Tryz.underlying35 hi hz0 hz1 hz2 rfl (by decide) _ _ _ rfl (hO9.out.alloc _) ⟨w10.heap.size, 0, none⟩ 1 1 [.string (L5 k)] rfl rfl (cell_one_new _ _ _) (fun x hx => by simp at hx; subst hx; rfl) (by unfold maxLen; omega) (by omega) (by have := hBr.size; simp; omega) ?_; intro o' wA hown4 hgrow4 _)
                        go_roundw
                        case rel =>
                          refine ⟨k + 1, L ++ [L5 k], by omega, by go_num, Lib.hid ?_, by simp; omega, HN, ?_⟩
                          · rw [List.length_append, List.length_singleton, ← strVs_snoc]; exact hown4
                          · exact (hBr.alloc hBr.size _).grown hgrow4 (by have := hBr.size; simp; omega) (fun q hq => (hO9.out.lt q hq).1)
                        case measure => simp [intOf]; omega
                    · have e1' : ¬ ((M1 : Int) = (N1 : Int)) := by omega
                      have HN : Hid (strTs L = ((lstF m L5).take (k + 1)).filter (okF q.data.toList now.data.toList)) := Lib.hid (by rw [hTk, hT.out]; simp [e1])
                      clear hTk hT e1
                      go_wp2_with fail
                      refine (hvk.out _).mono ?_
                      rintro e w8 ⟨⟨v8, rfl, hs8⟩, hb⟩
                      obtain ⟨a8, m8, c8, _, rfl, -⟩ := hs8
                      have hba := below_alloc w8 (.cells #[.int .i64 (M0 : Nat), .int .i64 (M1 : Nat), .int .i64 (M2 : Nat), .slice a8 m8 c8] 149)
                      have y0 : (w8.alloc (.cells #[.int .i64 (M0 : Nat), .int .i64 (M1 : Nat), .int .i64 (M2 : Nat), .slice a8 m8 c8] 149)).cell? ⟨w8.heap.size, 0, none⟩ = some (.int .i64 (M0 : Nat)) := by simp
                      have y1 : (w8.alloc (.cells #[.int .i64 (M0 : Nat), .int .i64 (M1 : Nat), .int .i64 (M2 : Nat), .slice a8 m8 c8] 149)).cell? ⟨w8.heap.size, 1, none⟩ = some (.int .i64 (M1 : Nat)) := by simp
                      have hO9 := hO.out.below (below_step hb hba)
                      replace hBr := below_step hBr (below_step hb hba)
                      replace c0 := Below.cell_some (below_step hb hba) c0
                      clear hb hba hO hvk
                      go_wp2_with fail
                      generalize w8.alloc (.cells #[.int .i64 (M0 : Nat), .int .i64 (M1 : Nat), .int .i64 (M2 : Nat), .slice a8 m8 c8] 149) = w9 at *
                      generalize w8.heap.size = by8 at *
                      refine (hle.out _).mono ?_
                      rintro e w10 ⟨rfl, hb⟩
                      replace hO9 := Lib.hid (hO9.below hb)
                      replace hBr := below_step hBr hb
                      replace c0 := Below.cell_some hb c0
                      replace y0 := Below.cell_some hb y0
                      replace y1 := Below.cell_some hb y1
                      have x0 := Below.cell_some hBr X0.out
                      have x1 := Below.cell_some hBr X1.out
                      clear hb hle
                      go_wp2_with fail
                      refine (hwo.out _).mono ?_
                      rintro e w11 ⟨rfl, rfl⟩
                      go_wp2_with fail
                      go_roundw
                      case rel => exact ⟨k + 1, L, by omega, by go_num, hO9, by omega, HN, hBr⟩
                      case measure => simp [intOf]; omega
                  · have e0' : ¬ ((M0 : Int) = (N0 : Int)) := by omega
                    have HN : Hid (strTs L = ((lstF m L5).take (k + 1)).filter (okF q.data.toList now.data.toList)) := Lib.hid (by rw [hTk, hT.out]; simp [e0])
                    clear hTk hT e0
                    go_wp2_with fail
                    refine (hvk.out _).mono ?_
                    rintro e w8 ⟨⟨v8, rfl, hs8⟩, hb⟩
                    obtain ⟨a8, m8, c8, _, rfl, -⟩ := hs8
                    have hba := below_alloc w8 (.cells #[.int .i64 (M0 : Nat), .int .i64 (M1 : Nat), .int .i64 (M2 : Nat), .slice a8 m8 c8] 149)
                    have y0 : (w8.alloc (.cells #[.int .i64 (M0 : Nat), .int .i64 (M1 : Nat), .int .i64 (M2 : Nat), .slice a8 m8 c8] 149)).cell? ⟨w8.heap.size, 0, none⟩ = some (.int .i64 (M0 : Nat)) := by simp
                    have y1 : (w8.alloc (.cells #[.int .i64 (M0 : Nat), .int .i64 (M1 : Nat), .int .i64 (M2 : Nat), .slice a8 m8 c8] 149)).cell? ⟨w8.heap.size, 1, none⟩ = some (.int .i64 (M1 : Nat)) := by simp
                    have hO9 := hO.out.below (below_step hb hba)
                    replace hBr := below_step hBr (below_step hb hba)
                    replace c0 := Below.cell_some (below_step hb hba) c0
                    clear hb hba hO hvk
                    go_wp2_with fail
                    generalize w8.alloc (.cells #[.int .i64 (M0 : Nat), .int .i64 (M1 : Nat), .int .i64 (M2 : Nat), .slice a8 m8 c8] 149) = w9 at *
                    generalize w8.heap.size = by8 at *
                    refine (hle.out _).mono ?_
                    rintro e w10 ⟨rfl, hb⟩
                    replace hO9 := Lib.hid (hO9.below hb)
                    replace hBr := below_step hBr hb
                    replace c0 := Below.cell_some hb c0
                    replace y0 := Below.cell_some hb y0
                    replace y1 := Below.cell_some hb y1
                    have x0 := Below.cell_some hBr X0.out
                    have x1 := Below.cell_some hBr X1.out
                    clear hb hle
                    go_wp2_with fail
                    refine (hwo.out _).mono ?_
                    rintro e w11 ⟨rfl, rfl⟩
                    go_wp2_with fail
                    go_roundw
                    case rel => exact ⟨k + 1, L, by omega, by go_num, hO9, by omega, HN, hBr⟩
                    case measure => simp [intOf]; omega
                · have hok : okF q.data.toList now.data.toList (L5 k).data.toList = true := by
                    unfold okF
                    rw [hw, if_pos rfl, if_neg (fun h => by rw [HVE.out] at h; omega)]
                  have hbd' : ¬ ((VE : Int) = 0) := by omega
                  have HN : Hid (strTs (L ++ [L5 k]) = ((lstF m L5).take (k + 1)).filter (okF q.data.toList now.data.toList)) := Lib.hid (by rw [hTk, hok, strTs_snoc, hT.out]; simp)
                  replace hwo := Lib.hid hwo
                  clear hw hok hgk hzk hpa hTk hT
                  go_wp2_with fail
                  refine (hwo.out _).mono ?_
                  rintro e w11 ⟨rfl, rfl⟩
                  go_wp2_with (at_builtin; refine wpList_append_own _ rfl _ _ 35 rfl w7.heap.size 9 i0 (.string ⟨#[]⟩) 1 16 Tryz.underlying35 hi hz0 hz1 hz2 rfl (by decide) _ _ _ rfl (hO.out.alloc _) ⟨wr.heap.size, 0, none⟩ 1 1 [.string (L5 k)] rfl rfl (cell_one_new _ _ _) (fun x hx => by simp at hx; subst hx; rfl) (by unfold maxLen; omega) (by omega) (by have := hBr.size; simp; omega) ?_; intro o' wA hown4 hgrow4 _)
                  go_roundw
                  case rel =>
                    refine ⟨k + 1, L ++ [L5 k], by omega, by go_num, Lib.hid ?_, by simp; omega, HN, ?_⟩
                    · rw [List.length_append, List.length_singleton, ← strVs_snoc]; exact hown4
                    · exact (hBr.alloc hBr.size _).grown hgrow4 (by have := hBr.size; simp; omega) (fun q hq => (hO.out.lt q hq).1)
                  case measure => simp [intOf]; omega
              · have q4 : (q.toList == [112, 97, 116, 99, 104]) = false := by rw [toList_data]; exact beq_eq_false_iff_ne.2 hpa
                have hok : okF q.data.toList now.data.toList (L5 k).data.toList = true := by
                  unfold okF
                  rw [hw, if_pos rfl, if_neg (fun h => hpa h.1)]
                have HN : Hid (strTs (L ++ [L5 k]) = ((lstF m L5).take (k + 1)).filter (okF q.data.toList now.data.toList)) := Lib.hid (by rw [hTk, hok, strTs_snoc, hT.out]; simp)
                replace hwo := Lib.hid hwo
                clear hw hok hgk hzk hpa hTk hT
                go_wp2_with fail
                refine (hwo.out _).mono ?_
                rintro e w11 ⟨rfl, rfl⟩
                go_wp2_with (at_builtin; refine wpList_append_own _ rfl _ _ 35 rfl w7.heap.size 9 i0 (.string ⟨#[]⟩) 1 16 Tryz.underlying35 hi hz0 hz1 hz2 rfl (by decide) _ _ _ rfl (hO.out.alloc _) ⟨wr.heap.size, 0, none⟩ 1 1 [.string (L5 k)] rfl rfl (cell_one_new _ _ _) (fun x hx => by simp at hx; subst hx; rfl) (by unfold maxLen; omega) (by omega) (by have := hBr.size; simp; omega) ?_; intro o' wA hown4 hgrow4 _)
                go_roundw
                case rel =>
                  refine ⟨k + 1, L ++ [L5 k], by omega, by go_num, Lib.hid ?_, by simp; omega, HN, ?_⟩
                  · rw [List.length_append, List.length_singleton, ← strVs_snoc]; exact hown4
                  · exact (hBr.alloc hBr.size _).grown hgrow4 (by have := hBr.size; simp; omega) (fun q hq => (hO.out.lt q hq).1)
                case measure => simp [intOf]; omega
            | false =>
              have hsu := fun W => suits_calls q (L5 k) W hq hzk
              have hwo := fun W => refIsWord_calls q W
              rw [hw] at hwo
              have q4 : (q.toList == [112, 97, 116, 99, 104]) = false := by
                rw [toList_data]
                exact beq_eq_false_iff_ne.2 (fun e => by
                  have e' : q.data.toList = wPatch := e
                  rw [e'] at hw
                  exact absurd hw (by decide))
              have hok : okF q.data.toList now.data.toList (L5 k).data.toList = suitsF q.data.toList (L5 k).data.toList := by unfold okF; rw [hw]; rfl
              rw [hok] at hTk
              generalize suitsF q.data.toList (L5 k).data.toList = SU at hsu hTk
              replace hsu := Lib.hid hsu
              replace hwo := Lib.hid hwo
              clear hw hok hgk hzk
              cases SU with
              | false =>
                have HN : Hid (strTs L = ((lstF m L5).take (k + 1)).filter (okF q.data.toList now.data.toList)) := Lib.hid (by rw [hTk, hT.out]; simp)
                clear hTk hT
                go_wp2_with fail
                refine (hwo.out _).mono ?_
                rintro e w8 ⟨rfl, rfl⟩
                go_wp2_with fail
                refine (hsu.out _).mono ?_
                rintro e w9 ⟨rfl, hb⟩
                have hO9 := Lib.hid (hO.out.below hb)
                replace hBr := below_step hBr hb
                clear hb hO
                go_wp2_with fail
                go_roundw
                case rel => exact ⟨k + 1, L, by omega, by go_num, hO9, by omega, HN, hBr⟩
                case measure => simp [intOf]; omega
              | true =>
                have HN : Hid (strTs (L ++ [L5 k]) = ((lstF m L5).take (k + 1)).filter (okF q.data.toList now.data.toList)) := Lib.hid (by rw [hTk, strTs_snoc, hT.out]; simp)
                clear hTk hT
                go_wp2_with fail
                refine (hwo.out _).mono ?_
                rintro e w8 ⟨rfl, rfl⟩
                go_wp2_with fail
                refine (hsu.out _).mono ?_
                rintro e w9 ⟨rfl, hb⟩
                have hO9 := Lib.hid (hO.out.below hb)
                replace hBr := below_step hBr hb
                replace c0 := Below.cell_some hb c0
                clear hb hO
                go_wp2_with (at_builtin; refine wpList_append_own _ rfl _ _ 35 rfl w7.heap.size 9 i0 (.string ⟨#[]⟩) 1 16 Tryz.underlying35 hi hz0 hz1 hz2 rfl (by decide) _ _ _ rfl (hO9.out.alloc _) ⟨w9.heap.size, 0, none⟩ 1 1 [.string (L5 k)] rfl rfl (cell_one_new _ _ _) (fun x hx => by simp at hx; subst hx; rfl) (by unfold maxLen; omega) (by omega) (by have := hBr.size; simp; omega) ?_; intro o' wA hown4 hgrow4 _)
                go_roundw
                case rel =>
                  refine ⟨k + 1, L ++ [L5 k], by omega, by go_num, Lib.hid ?_, by simp; omega, HN, ?_⟩
                  · rw [List.length_append, List.length_singleton, ← strVs_snoc]; exact hown4
                  · exact (hBr.alloc hBr.size _).grown hgrow4 (by have := hBr.size; simp; omega) (fun q hq => (hO9.out.lt q hq).1)
                case measure => simp [intOf]; omega
          · have hkm : k = m := by omega
            have hSo := strsAt_own hO.out
            rw [hT.out, List.take_of_length_le (by rw [lstF_length]; omega), ← HEV.out] at hSo
            have hso := fun W => signOf_calls q W hq
            have hnk : ¬ (k : Int) < (m : Int) := by omega
            have HNN := Lib.hid hn
            have HFL : Hid ((VL.filter (okF q.data.toList now.data.toList)).length ≤ 1000000 ∧ ∀ x ∈ VL.filter (okF q.data.toList now.data.toList), x.length ≤ 1000000) := Lib.hid ⟨Nat.le_trans (List.length_filter_le _ _) HVL.out.1, fun x hx => (HVL.out.2 x (List.mem_filter.1 hx).1).1⟩
            replace hSo := Lib.hid hSo
            clear hkm hlt hT hO hLk
            cases hqb : qBound q.data.toList with
            | some b =>
              rw [hqb] at hso
              have hls : leastF q.data.toList = decide (b.1.headD 0 = 62) := by unfold leastF; rw [hqb]
              have hsg := boundF_sign hqb
              obtain ⟨b1, b2⟩ := b
              simp only at hsg hls
              rw [hls] at HPR
              unfold signV at hso
              simp only at hso
              generalize (⟨b2.toArray⟩ : ByteArray) = bb at hso
              clear hqb hls
              rcases hsg with rfl | rfl | rfl | rfl
              · rw [show decide (([60, 61] : Str).headD 0 = 62) = false from rfl] at HPR
                replace hso := Lib.hid hso
                go_wp2_with fail
                refine (hso.out _).mono ?_
                rintro e w8 ⟨rfl, hb⟩
                have hBw := below_step hB (below_step hBr hb)
                replace hz := hz.below (below_step hBr hb)
                have hlk := likedOfB_in a n cap P V R K Bk Rv Kv p (.slice ao no co) _ false w8 (H.out _ hBw) HNN.out (hSo.out.below hb) HFL.out.1 HFL.out.2
                replace hlk := Lib.hid hlk
                clear hb hso
                go_wp2_with fail
                refine hlk.out.mono ?_
                rintro e w9 ⟨rfl, hb⟩
                replace hz := hz.below hb
                replace hBw := below_step hBw hb
                clear hb hlk
                obtain ⟨LF, hLF⟩ : ∃ x, x = likedF (enF n P V R K Bk) p.data.toList (VL.filter (okF q.data.toList now.data.toList)) false := ⟨_, rfl⟩
                have hSS : ∀ s, LF = some s → s ∈ VL.filter (okF q.data.toList now.data.toList) := fun s e => by
                  rw [hLF] at e
                  unfold likedF at e
                  split at e
                  · cases e
                  · rename_i h0
                    obtain rfl := Option.some.inj e
                    first
                      | exact likedL_sub (lastS_mem h0)
                      | exact likedL_sub (by cases hL : likedL (enF n P V R K Bk) p.data.toList (VL.filter (okF q.data.toList now.data.toList)) with
                          | nil => exact absurd hL h0
                          | cons x r => simp)
                rw [← hLF] at HPR
                rw [← hLF]
                clear hLF
                cases LF with
                | none =>
                  have HPE3 : Hid (PE = (5, -1)) := Lib.hid (by rw [HPE2.out, HPR.out]; rfl)
                  have HPS3 : Hid (PS = []) := Lib.hid (by rw [HPS.out, HPE3.out]; rfl)
                  have hbr := fun W => refBare_calls 5 W
                  unfold fltV at hbr
                  simp only at hbr
                  replace hbr := Lib.hid hbr
                  clear hSS
                  go_wp2_with fail
                  refine (hbr.out _).mono ?_
                  rintro e w10 ⟨rfl, hb⟩
                  replace hz := hz.below hb
                  replace hBw := below_step hBw hb
                  obtain ⟨x0, x1, xf⟩ := id hz
                  clear hb hz
                  go_wp2_with fail
                  refine bodyPost_ret (v := .tuple #[(.string ⟨#[]⟩), fltV ((5 : Nat), -1)]) (by simp [results, Tryz.results39, fltV, go_sem, *]) rfl ?_
                  rw [HPS3.out, HPE3.out]
                  exact ⟨rfl, (hBw.setCell (p := ⟨w.heap.size, 0, none⟩) (Nat.le_refl _) _).setCell (p := ⟨w.heap.size, 1, none⟩) (Nat.le_refl _) _⟩
                | some s =>
                  have hm := List.mem_filter.1 (hSS s rfl)
                  have hg := HVL.out.2 s hm.1
                  have hne : s ≠ [] := fun e => by rw [e] at hg; exact absurd hg.2 (by decide)
                  obtain ⟨sb, hsb⟩ : ∃ x : ByteArray, x = ⟨s.toArray⟩ := ⟨_, rfl⟩
                  have hsd : sb.data.toList = s := by rw [hsb]
                  have hs1 : sb.size ≤ 1000000 := by rw [hsb]; simpa [ByteArray.size] using hg.1
                  have q2 : (sb.toList == []) = false := by rw [toList_data, hsd]; exact beq_eq_false_iff_ne.2 hne
                  rw [show (some s : Option Str).getD [] = s from rfl, ← hsb]
                  have HSD := Lib.hid hsd
                  have hmx := fun W => maxOf_calls sb now W (by omega) (by omega)
                  have hfi := fun W => refFine_calls W
                  unfold fltV at hfi
                  simp only at hfi
                  rw [hsd] at hmx
                  have HSB := Lib.hid hsb
                  replace hmx := Lib.hid hmx
                  replace hfi := Lib.hid hfi
                  clear hSS hm hg hne hsb hs1 hsd
                  by_cases hqu : q.data.toList = wUpgrade
                  · have HPF : Hid (pickF (enF n P V R K Bk) p.data.toList q.data.toList now.data.toList = some (verMax s now.data.toList)) := Lib.hid (by rw [HPR.out]; simp [hqu])
                    have HPE3 : Hid (PE = (0, -1)) := Lib.hid (by rw [HPE2.out, HPF.out]; rfl)
                    have HPS3 : Hid (PS = verMax s now.data.toList) := Lib.hid (by rw [HPS.out, HPE3.out, HPF.out]; rfl)
                    have q3 : (q.toList == [117, 112, 103, 114, 97, 100, 101]) = true := by rw [toList_data, hqu]; rfl
                    clear hqu
                    go_wp2_with fail
                    refine (hmx.out _).mono ?_
                    rintro e w10 ⟨rfl, hb⟩
                    replace hz := hz.below hb
                    replace hBw := below_step hBw hb
                    clear hb
                    go_wp2_with fail
                    refine (hfi.out _).mono ?_
                    rintro e w11 ⟨rfl, hb⟩
                    replace hz := hz.below hb
                    replace hBw := below_step hBw hb
                    obtain ⟨x0, x1, xf⟩ := id hz
                    clear hb hz
                    go_wp2_with fail
                    refine bodyPost_ret (v := .tuple #[(.string ⟨(verMax s now.data.toList).toArray⟩), fltV ((0 : Nat), -1)]) (by simp [results, Tryz.results39, fltV, go_sem, *]) rfl ?_
                    rw [HPS3.out, HPE3.out]
                    exact ⟨rfl, (hBw.setCell (p := ⟨w.heap.size, 0, none⟩) (Nat.le_refl _) _).setCell (p := ⟨w.heap.size, 1, none⟩) (Nat.le_refl _) _⟩
                  · have HPF : Hid (pickF (enF n P V R K Bk) p.data.toList q.data.toList now.data.toList = some s) := Lib.hid (by rw [HPR.out]; simp [hqu])
                    have HPE3 : Hid (PE = (0, -1)) := Lib.hid (by rw [HPE2.out, HPF.out]; rfl)
                    have HPS3 : Hid (PS = s) := Lib.hid (by rw [HPS.out, HPE3.out, HPF.out]; rfl)
                    have q3 : (q.toList == [117, 112, 103, 114, 97, 100, 101]) = false := by rw [toList_data]; exact beq_eq_false_iff_ne.2 hqu
                    clear hqu
                    go_wp2_with fail
                    refine (hfi.out _).mono ?_
                    rintro e w10 ⟨rfl, hb⟩
                    replace hz := hz.below hb
                    replace hBw := below_step hBw hb
                    obtain ⟨x0, x1, xf⟩ := id hz
                    clear hb hz
                    go_wp2_with fail
                    refine bodyPost_ret (v := .tuple #[(.string sb), fltV ((0 : Nat), -1)]) (by simp [results, Tryz.results39, fltV, go_sem, *]) rfl ?_
                    rw [HPS3.out, HPE3.out, HSB.out]
                    exact ⟨rfl, (hBw.setCell (p := ⟨w.heap.size, 0, none⟩) (Nat.le_refl _) _).setCell (p := ⟨w.heap.size, 1, none⟩) (Nat.le_refl _) _⟩
              · rw [show decide (([62, 61] : Str).headD 0 = 62) = true from rfl] at HPR
                replace hso := Lib.hid hso
                go_wp2_with fail
                refine (hso.out _).mono ?_
                rintro e w8 ⟨rfl, hb⟩
                have hBw := below_step hB (below_step hBr hb)
                replace hz := hz.below (below_step hBr hb)
                have hlk := likedOfB_in a n cap P V R K Bk Rv Kv p (.slice ao no co) _ true w8 (H.out _ hBw) HNN.out (hSo.out.below hb) HFL.out.1 HFL.out.2
                replace hlk := Lib.hid hlk
                clear hb hso
                go_wp2_with fail
                refine hlk.out.mono ?_
                rintro e w9 ⟨rfl, hb⟩
                replace hz := hz.below hb
                replace hBw := below_step hBw hb
                clear hb hlk
                obtain ⟨LF, hLF⟩ : ∃ x, x = likedF (enF n P V R K Bk) p.data.toList (VL.filter (okF q.data.toList now.data.toList)) true := ⟨_, rfl⟩
                have hSS : ∀ s, LF = some s → s ∈ VL.filter (okF q.data.toList now.data.toList) := fun s e => by
                  rw [hLF] at e
                  unfold likedF at e
                  split at e
                  · cases e
                  · rename_i h0
                    obtain rfl := Option.some.inj e
                    first
                      | exact likedL_sub (lastS_mem h0)
                      | exact likedL_sub (by cases hL : likedL (enF n P V R K Bk) p.data.toList (VL.filter (okF q.data.toList now.data.toList)) with
                          | nil => exact absurd hL h0
                          | cons x r => simp)
                rw [← hLF] at HPR
                rw [← hLF]
                clear hLF
                cases LF with
                | none =>
                  have HPE3 : Hid (PE = (5, -1)) := Lib.hid (by rw [HPE2.out, HPR.out]; rfl)
                  have HPS3 : Hid (PS = []) := Lib.hid (by rw [HPS.out, HPE3.out]; rfl)
                  have hbr := fun W => refBare_calls 5 W
                  unfold fltV at hbr
                  simp only at hbr
                  replace hbr := Lib.hid hbr
                  clear hSS
                  go_wp2_with fail
                  refine (hbr.out _).mono ?_
                  rintro e w10 ⟨rfl, hb⟩
                  replace hz := hz.below hb
                  replace hBw := below_step hBw hb
                  obtain ⟨x0, x1, xf⟩ := id hz
                  clear hb hz
                  go_wp2_with fail
                  refine bodyPost_ret (v := .tuple #[(.string ⟨#[]⟩), fltV ((5 : Nat), -1)]) (by simp [results, Tryz.results39, fltV, go_sem, *]) rfl ?_
                  rw [HPS3.out, HPE3.out]
                  exact ⟨rfl, (hBw.setCell (p := ⟨w.heap.size, 0, none⟩) (Nat.le_refl _) _).setCell (p := ⟨w.heap.size, 1, none⟩) (Nat.le_refl _) _⟩
                | some s =>
                  have hm := List.mem_filter.1 (hSS s rfl)
                  have hg := HVL.out.2 s hm.1
                  have hne : s ≠ [] := fun e => by rw [e] at hg; exact absurd hg.2 (by decide)
                  obtain ⟨sb, hsb⟩ : ∃ x : ByteArray, x = ⟨s.toArray⟩ := ⟨_, rfl⟩
                  have hsd : sb.data.toList = s := by rw [hsb]
                  have hs1 : sb.size ≤ 1000000 := by rw [hsb]; simpa [ByteArray.size] using hg.1
                  have q2 : (sb.toList == []) = false := by rw [toList_data, hsd]; exact beq_eq_false_iff_ne.2 hne
                  rw [show (some s : Option Str).getD [] = s from rfl, ← hsb]
                  have HSD := Lib.hid hsd
                  have hmx := fun W => maxOf_calls sb now W (by omega) (by omega)
                  have hfi := fun W => refFine_calls W
                  unfold fltV at hfi
                  simp only at hfi
                  rw [hsd] at hmx
                  have HSB := Lib.hid hsb
                  replace hmx := Lib.hid hmx
                  replace hfi := Lib.hid hfi
                  clear hSS hm hg hne hsb hs1 hsd
                  by_cases hqu : q.data.toList = wUpgrade
                  · have HPF : Hid (pickF (enF n P V R K Bk) p.data.toList q.data.toList now.data.toList = some (verMax s now.data.toList)) := Lib.hid (by rw [HPR.out]; simp [hqu])
                    have HPE3 : Hid (PE = (0, -1)) := Lib.hid (by rw [HPE2.out, HPF.out]; rfl)
                    have HPS3 : Hid (PS = verMax s now.data.toList) := Lib.hid (by rw [HPS.out, HPE3.out, HPF.out]; rfl)
                    have q3 : (q.toList == [117, 112, 103, 114, 97, 100, 101]) = true := by rw [toList_data, hqu]; rfl
                    clear hqu
                    go_wp2_with fail
                    refine (hmx.out _).mono ?_
                    rintro e w10 ⟨rfl, hb⟩
                    replace hz := hz.below hb
                    replace hBw := below_step hBw hb
                    clear hb
                    go_wp2_with fail
                    refine (hfi.out _).mono ?_
                    rintro e w11 ⟨rfl, hb⟩
                    replace hz := hz.below hb
                    replace hBw := below_step hBw hb
                    obtain ⟨x0, x1, xf⟩ := id hz
                    clear hb hz
                    go_wp2_with fail
                    refine bodyPost_ret (v := .tuple #[(.string ⟨(verMax s now.data.toList).toArray⟩), fltV ((0 : Nat), -1)]) (by simp [results, Tryz.results39, fltV, go_sem, *]) rfl ?_
                    rw [HPS3.out, HPE3.out]
                    exact ⟨rfl, (hBw.setCell (p := ⟨w.heap.size, 0, none⟩) (Nat.le_refl _) _).setCell (p := ⟨w.heap.size, 1, none⟩) (Nat.le_refl _) _⟩
                  · have HPF : Hid (pickF (enF n P V R K Bk) p.data.toList q.data.toList now.data.toList = some s) := Lib.hid (by rw [HPR.out]; simp [hqu])
                    have HPE3 : Hid (PE = (0, -1)) := Lib.hid (by rw [HPE2.out, HPF.out]; rfl)
                    have HPS3 : Hid (PS = s) := Lib.hid (by rw [HPS.out, HPE3.out, HPF.out]; rfl)
                    have q3 : (q.toList == [117, 112, 103, 114, 97, 100, 101]) = false := by rw [toList_data]; exact beq_eq_false_iff_ne.2 hqu
                    clear hqu
                    go_wp2_with fail
                    refine (hfi.out _).mono ?_
                    rintro e w10 ⟨rfl, hb⟩
                    replace hz := hz.below hb
                    replace hBw := below_step hBw hb
                    obtain ⟨x0, x1, xf⟩ := id hz
                    clear hb hz
                    go_wp2_with fail
                    refine bodyPost_ret (v := .tuple #[(.string sb), fltV ((0 : Nat), -1)]) (by simp [results, Tryz.results39, fltV, go_sem, *]) rfl ?_
                    rw [HPS3.out, HPE3.out, HSB.out]
                    exact ⟨rfl, (hBw.setCell (p := ⟨w.heap.size, 0, none⟩) (Nat.le_refl _) _).setCell (p := ⟨w.heap.size, 1, none⟩) (Nat.le_refl _) _⟩
              · rw [show decide (([60] : Str).headD 0 = 62) = false from rfl] at HPR
                replace hso := Lib.hid hso
                go_wp2_with fail
                refine (hso.out _).mono ?_
                rintro e w8 ⟨rfl, hb⟩
                have hBw := below_step hB (below_step hBr hb)
                replace hz := hz.below (below_step hBr hb)
                have hlk := likedOfB_in a n cap P V R K Bk Rv Kv p (.slice ao no co) _ false w8 (H.out _ hBw) HNN.out (hSo.out.below hb) HFL.out.1 HFL.out.2
                replace hlk := Lib.hid hlk
                clear hb hso
                go_wp2_with fail
                refine hlk.out.mono ?_
                rintro e w9 ⟨rfl, hb⟩
                replace hz := hz.below hb
                replace hBw := below_step hBw hb
                clear hb hlk
                obtain ⟨LF, hLF⟩ : ∃ x, x = likedF (enF n P V R K Bk) p.data.toList (VL.filter (okF q.data.toList now.data.toList)) false := ⟨_, rfl⟩
                have hSS : ∀ s, LF = some s → s ∈ VL.filter (okF q.data.toList now.data.toList) := fun s e => by
                  rw [hLF] at e
                  unfold likedF at e
                  split at e
                  · cases e
                  · rename_i h0
                    obtain rfl := Option.some.inj e
                    first
                      | exact likedL_sub (lastS_mem h0)
                      | exact likedL_sub (by cases hL : likedL (enF n P V R K Bk) p.data.toList (VL.filter (okF q.data.toList now.data.toList)) with
                          | nil => exact absurd hL h0
                          | cons x r => simp)
                rw [← hLF] at HPR
                rw [← hLF]
                clear hLF
                cases LF with
                | none =>
                  have HPE3 : Hid (PE = (5, -1)) := Lib.hid (by rw [HPE2.out, HPR.out]; rfl)
                  have HPS3 : Hid (PS = []) := Lib.hid (by rw [HPS.out, HPE3.out]; rfl)
                  have hbr := fun W => refBare_calls 5 W
                  unfold fltV at hbr
                  simp only at hbr
                  replace hbr := Lib.hid hbr
                  clear hSS
                  go_wp2_with fail
                  refine (hbr.out _).mono ?_
                  rintro e w10 ⟨rfl, hb⟩
                  replace hz := hz.below hb
                  replace hBw := below_step hBw hb
                  obtain ⟨x0, x1, xf⟩ := id hz
                  clear hb hz
                  go_wp2_with fail
                  refine bodyPost_ret (v := .tuple #[(.string ⟨#[]⟩), fltV ((5 : Nat), -1)]) (by simp [results, Tryz.results39, fltV, go_sem, *]) rfl ?_
                  rw [HPS3.out, HPE3.out]
                  exact ⟨rfl, (hBw.setCell (p := ⟨w.heap.size, 0, none⟩) (Nat.le_refl _) _).setCell (p := ⟨w.heap.size, 1, none⟩) (Nat.le_refl _) _⟩
                | some s =>
                  have hm := List.mem_filter.1 (hSS s rfl)
                  have hg := HVL.out.2 s hm.1
                  have hne : s ≠ [] := fun e => by rw [e] at hg; exact absurd hg.2 (by decide)
                  obtain ⟨sb, hsb⟩ : ∃ x : ByteArray, x = ⟨s.toArray⟩ := ⟨_, rfl⟩
                  have hsd : sb.data.toList = s := by rw [hsb]
                  have hs1 : sb.size ≤ 1000000 := by rw [hsb]; simpa [ByteArray.size] using hg.1
                  have q2 : (sb.toList == []) = false := by rw [toList_data, hsd]; exact beq_eq_false_iff_ne.2 hne
                  rw [show (some s : Option Str).getD [] = s from rfl, ← hsb]
                  have HSD := Lib.hid hsd
                  have hmx := fun W => maxOf_calls sb now W (by omega) (by omega)
                  have hfi := fun W => refFine_calls W
                  unfold fltV at hfi
                  simp only at hfi
                  rw [hsd] at hmx
                  have HSB := Lib.hid hsb
                  replace hmx := Lib.hid hmx
                  replace hfi := Lib.hid hfi
                  clear hSS hm hg hne hsb hs1 hsd
                  by_cases hqu : q.data.toList = wUpgrade
                  · have HPF : Hid (pickF (enF n P V R K Bk) p.data.toList q.data.toList now.data.toList = some (verMax s now.data.toList)) := Lib.hid (by rw [HPR.out]; simp [hqu])
                    have HPE3 : Hid (PE = (0, -1)) := Lib.hid (by rw [HPE2.out, HPF.out]; rfl)
                    have HPS3 : Hid (PS = verMax s now.data.toList) := Lib.hid (by rw [HPS.out, HPE3.out, HPF.out]; rfl)
                    have q3 : (q.toList == [117, 112, 103, 114, 97, 100, 101]) = true := by rw [toList_data, hqu]; rfl
                    clear hqu
                    go_wp2_with fail
                    refine (hmx.out _).mono ?_
                    rintro e w10 ⟨rfl, hb⟩
                    replace hz := hz.below hb
                    replace hBw := below_step hBw hb
                    clear hb
                    go_wp2_with fail
                    refine (hfi.out _).mono ?_
                    rintro e w11 ⟨rfl, hb⟩
                    replace hz := hz.below hb
                    replace hBw := below_step hBw hb
                    obtain ⟨x0, x1, xf⟩ := id hz
                    clear hb hz
                    go_wp2_with fail
                    refine bodyPost_ret (v := .tuple #[(.string ⟨(verMax s now.data.toList).toArray⟩), fltV ((0 : Nat), -1)]) (by simp [results, Tryz.results39, fltV, go_sem, *]) rfl ?_
                    rw [HPS3.out, HPE3.out]
                    exact ⟨rfl, (hBw.setCell (p := ⟨w.heap.size, 0, none⟩) (Nat.le_refl _) _).setCell (p := ⟨w.heap.size, 1, none⟩) (Nat.le_refl _) _⟩
                  · have HPF : Hid (pickF (enF n P V R K Bk) p.data.toList q.data.toList now.data.toList = some s) := Lib.hid (by rw [HPR.out]; simp [hqu])
                    have HPE3 : Hid (PE = (0, -1)) := Lib.hid (by rw [HPE2.out, HPF.out]; rfl)
                    have HPS3 : Hid (PS = s) := Lib.hid (by rw [HPS.out, HPE3.out, HPF.out]; rfl)
                    have q3 : (q.toList == [117, 112, 103, 114, 97, 100, 101]) = false := by rw [toList_data]; exact beq_eq_false_iff_ne.2 hqu
                    clear hqu
                    go_wp2_with fail
                    refine (hfi.out _).mono ?_
                    rintro e w10 ⟨rfl, hb⟩
                    replace hz := hz.below hb
                    replace hBw := below_step hBw hb
                    obtain ⟨x0, x1, xf⟩ := id hz
                    clear hb hz
                    go_wp2_with fail
                    refine bodyPost_ret (v := .tuple #[(.string sb), fltV ((0 : Nat), -1)]) (by simp [results, Tryz.results39, fltV, go_sem, *]) rfl ?_
                    rw [HPS3.out, HPE3.out, HSB.out]
                    exact ⟨rfl, (hBw.setCell (p := ⟨w.heap.size, 0, none⟩) (Nat.le_refl _) _).setCell (p := ⟨w.heap.size, 1, none⟩) (Nat.le_refl _) _⟩
              · rw [show decide (([62] : Str).headD 0 = 62) = true from rfl] at HPR
                replace hso := Lib.hid hso
                go_wp2_with fail
                refine (hso.out _).mono ?_
                rintro e w8 ⟨rfl, hb⟩
                have hBw := below_step hB (below_step hBr hb)
                replace hz := hz.below (below_step hBr hb)
                have hlk := likedOfB_in a n cap P V R K Bk Rv Kv p (.slice ao no co) _ true w8 (H.out _ hBw) HNN.out (hSo.out.below hb) HFL.out.1 HFL.out.2
                replace hlk := Lib.hid hlk
                clear hb hso
                go_wp2_with fail
                refine hlk.out.mono ?_
                rintro e w9 ⟨rfl, hb⟩
                replace hz := hz.below hb
                replace hBw := below_step hBw hb
                clear hb hlk
                obtain ⟨LF, hLF⟩ : ∃ x, x = likedF (enF n P V R K Bk) p.data.toList (VL.filter (okF q.data.toList now.data.toList)) true := ⟨_, rfl⟩
                have hSS : ∀ s, LF = some s → s ∈ VL.filter (okF q.data.toList now.data.toList) := fun s e => by
                  rw [hLF] at e
                  unfold likedF at e
                  split at e
                  · cases e
                  · rename_i h0
                    obtain rfl := Option.some.inj e
                    first
                      | exact likedL_sub (lastS_mem h0)
                      | exact likedL_sub (by cases hL : likedL (enF n P V R K Bk) p.data.toList (VL.filter (okF q.data.toList now.data.toList)) with
                          | nil => exact absurd hL h0
                          | cons x r => simp)
                rw [← hLF] at HPR
                rw [← hLF]
                clear hLF
                cases LF with
                | none =>
                  have HPE3 : Hid (PE = (5, -1)) := Lib.hid (by rw [HPE2.out, HPR.out]; rfl)
                  have HPS3 : Hid (PS = []) := Lib.hid (by rw [HPS.out, HPE3.out]; rfl)
                  have hbr := fun W => refBare_calls 5 W
                  unfold fltV at hbr
                  simp only at hbr
                  replace hbr := Lib.hid hbr
                  clear hSS
                  go_wp2_with fail
                  refine (hbr.out _).mono ?_
                  rintro e w10 ⟨rfl, hb⟩
                  replace hz := hz.below hb
                  replace hBw := below_step hBw hb
                  obtain ⟨x0, x1, xf⟩ := id hz
                  clear hb hz
                  go_wp2_with fail
                  refine bodyPost_ret (v := .tuple #[(.string ⟨#[]⟩), fltV ((5 : Nat), -1)]) (by simp [results, Tryz.results39, fltV, go_sem, *]) rfl ?_
                  rw [HPS3.out, HPE3.out]
                  exact ⟨rfl, (hBw.setCell (p := ⟨w.heap.size, 0, none⟩) (Nat.le_refl _) _).setCell (p := ⟨w.heap.size, 1, none⟩) (Nat.le_refl _) _⟩
                | some s =>
                  have hm := List.mem_filter.1 (hSS s rfl)
                  have hg := HVL.out.2 s hm.1
                  have hne : s ≠ [] := fun e => by rw [e] at hg; exact absurd hg.2 (by decide)
                  obtain ⟨sb, hsb⟩ : ∃ x : ByteArray, x = ⟨s.toArray⟩ := ⟨_, rfl⟩
                  have hsd : sb.data.toList = s := by rw [hsb]
                  have hs1 : sb.size ≤ 1000000 := by rw [hsb]; simpa [ByteArray.size] using hg.1
                  have q2 : (sb.toList == []) = false := by rw [toList_data, hsd]; exact beq_eq_false_iff_ne.2 hne
                  rw [show (some s : Option Str).getD [] = s from rfl, ← hsb]
                  have HSD := Lib.hid hsd
                  have hmx := fun W => maxOf_calls sb now W (by omega) (by omega)
                  have hfi := fun W => refFine_calls W
                  unfold fltV at hfi
                  simp only at hfi
                  rw [hsd] at hmx
                  have HSB := Lib.hid hsb
                  replace hmx := Lib.hid hmx
                  replace hfi := Lib.hid hfi
                  clear hSS hm hg hne hsb hs1 hsd
                  by_cases hqu : q.data.toList = wUpgrade
                  · have HPF : Hid (pickF (enF n P V R K Bk) p.data.toList q.data.toList now.data.toList = some (verMax s now.data.toList)) := Lib.hid (by rw [HPR.out]; simp [hqu])
                    have HPE3 : Hid (PE = (0, -1)) := Lib.hid (by rw [HPE2.out, HPF.out]; rfl)
                    have HPS3 : Hid (PS = verMax s now.data.toList) := Lib.hid (by rw [HPS.out, HPE3.out, HPF.out]; rfl)
                    have q3 : (q.toList == [117, 112, 103, 114, 97, 100, 101]) = true := by rw [toList_data, hqu]; rfl
                    clear hqu
                    go_wp2_with fail
                    refine (hmx.out _).mono ?_
                    rintro e w10 ⟨rfl, hb⟩
                    replace hz := hz.below hb
                    replace hBw := below_step hBw hb
                    clear hb
                    go_wp2_with fail
                    refine (hfi.out _).mono ?_
                    rintro e w11 ⟨rfl, hb⟩
                    replace hz := hz.below hb
                    replace hBw := below_step hBw hb
                    obtain ⟨x0, x1, xf⟩ := id hz
                    clear hb hz
                    go_wp2_with fail
                    refine bodyPost_ret (v := .tuple #[(.string ⟨(verMax s now.data.toList).toArray⟩), fltV ((0 : Nat), -1)]) (by simp [results, Tryz.results39, fltV, go_sem, *]) rfl ?_
                    rw [HPS3.out, HPE3.out]
                    exact ⟨rfl, (hBw.setCell (p := ⟨w.heap.size, 0, none⟩) (Nat.le_refl _) _).setCell (p := ⟨w.heap.size, 1, none⟩) (Nat.le_refl _) _⟩
                  · have HPF : Hid (pickF (enF n P V R K Bk) p.data.toList q.data.toList now.data.toList = some s) := Lib.hid (by rw [HPR.out]; simp [hqu])
                    have HPE3 : Hid (PE = (0, -1)) := Lib.hid (by rw [HPE2.out, HPF.out]; rfl)
                    have HPS3 : Hid (PS = s) := Lib.hid (by rw [HPS.out, HPE3.out, HPF.out]; rfl)
                    have q3 : (q.toList == [117, 112, 103, 114, 97, 100, 101]) = false := by rw [toList_data]; exact beq_eq_false_iff_ne.2 hqu
                    clear hqu
                    go_wp2_with fail
                    refine (hfi.out _).mono ?_
                    rintro e w10 ⟨rfl, hb⟩
                    replace hz := hz.below hb
                    replace hBw := below_step hBw hb
                    obtain ⟨x0, x1, xf⟩ := id hz
                    clear hb hz
                    go_wp2_with fail
                    refine bodyPost_ret (v := .tuple #[(.string sb), fltV ((0 : Nat), -1)]) (by simp [results, Tryz.results39, fltV, go_sem, *]) rfl ?_
                    rw [HPS3.out, HPE3.out, HSB.out]
                    exact ⟨rfl, (hBw.setCell (p := ⟨w.heap.size, 0, none⟩) (Nat.le_refl _) _).setCell (p := ⟨w.heap.size, 1, none⟩) (Nat.le_refl _) _⟩
            | none =>
              rw [hqb] at hso
              have hls : leastF q.data.toList = false := by unfold leastF; rw [hqb]
              rw [hls] at HPR
              unfold signV at hso
              simp only at hso
              replace hso := Lib.hid hso
              clear hqb hls
              go_wp2_with fail
              refine (hso.out _).mono ?_
              rintro e w8 ⟨rfl, hb⟩
              have hBw := below_step hB (below_step hBr hb)
              replace hz := hz.below (below_step hBr hb)
              have hlk := likedOfB_in a n cap P V R K Bk Rv Kv p (.slice ao no co) _ false w8 (H.out _ hBw) HNN.out (hSo.out.below hb) HFL.out.1 HFL.out.2
              replace hlk := Lib.hid hlk
              clear hb hso
              go_wp2_with fail
              refine hlk.out.mono ?_
              rintro e w9 ⟨rfl, hb⟩
              replace hz := hz.below hb
              replace hBw := below_step hBw hb
              clear hb hlk
              obtain ⟨LF, hLF⟩ : ∃ x, x = likedF (enF n P V R K Bk) p.data.toList (VL.filter (okF q.data.toList now.data.toList)) false := ⟨_, rfl⟩
              have hSS : ∀ s, LF = some s → s ∈ VL.filter (okF q.data.toList now.data.toList) := fun s e => by
                rw [hLF] at e
                unfold likedF at e
                split at e
                · cases e
                · rename_i h0
                  obtain rfl := Option.some.inj e
                  first
                    | exact likedL_sub (lastS_mem h0)
                    | exact likedL_sub (by cases hL : likedL (enF n P V R K Bk) p.data.toList (VL.filter (okF q.data.toList now.data.toList)) with
                        | nil => exact absurd hL h0
                        | cons x r => simp)
              rw [← hLF] at HPR
              rw [← hLF]
              clear hLF
              cases LF with
              | none =>
                have HPE3 : Hid (PE = (5, -1)) := Lib.hid (by rw [HPE2.out, HPR.out]; rfl)
                have HPS3 : Hid (PS = []) := Lib.hid (by rw [HPS.out, HPE3.out]; rfl)
                have hbr := fun W => refBare_calls 5 W
                unfold fltV at hbr
                simp only at hbr
                replace hbr := Lib.hid hbr
                clear hSS
                go_wp2_with fail
                refine (hbr.out _).mono ?_
                rintro e w10 ⟨rfl, hb⟩
                replace hz := hz.below hb
                replace hBw := below_step hBw hb
                obtain ⟨x0, x1, xf⟩ := id hz
                clear hb hz
                go_wp2_with fail
                refine bodyPost_ret (v := .tuple #[(.string ⟨#[]⟩), fltV ((5 : Nat), -1)]) (by simp [results, Tryz.results39, fltV, go_sem, *]) rfl ?_
                rw [HPS3.out, HPE3.out]
                exact ⟨rfl, (hBw.setCell (p := ⟨w.heap.size, 0, none⟩) (Nat.le_refl _) _).setCell (p := ⟨w.heap.size, 1, none⟩) (Nat.le_refl _) _⟩
              | some s =>
                have hm := List.mem_filter.1 (hSS s rfl)
                have hg := HVL.out.2 s hm.1
                have hne : s ≠ [] := fun e => by rw [e] at hg; exact absurd hg.2 (by decide)
                obtain ⟨sb, hsb⟩ : ∃ x : ByteArray, x = ⟨s.toArray⟩ := ⟨_, rfl⟩
                have hsd : sb.data.toList = s := by rw [hsb]
                have hs1 : sb.size ≤ 1000000 := by rw [hsb]; simpa [ByteArray.size] using hg.1
                have q2 : (sb.toList == []) = false := by rw [toList_data, hsd]; exact beq_eq_false_iff_ne.2 hne
                rw [show (some s : Option Str).getD [] = s from rfl, ← hsb]
                have HSD := Lib.hid hsd
                have hmx := fun W => maxOf_calls sb now W (by omega) (by omega)
                have hfi := fun W => refFine_calls W
                unfold fltV at hfi
                simp only at hfi
                rw [hsd] at hmx
                have HSB := Lib.hid hsb
                replace hmx := Lib.hid hmx
                replace hfi := Lib.hid hfi
                clear hSS hm hg hne hsb hs1 hsd
                by_cases hqu : q.data.toList = wUpgrade
                · have HPF : Hid (pickF (enF n P V R K Bk) p.data.toList q.data.toList now.data.toList = some (verMax s now.data.toList)) := Lib.hid (by rw [HPR.out]; simp [hqu])
                  have HPE3 : Hid (PE = (0, -1)) := Lib.hid (by rw [HPE2.out, HPF.out]; rfl)
                  have HPS3 : Hid (PS = verMax s now.data.toList) := Lib.hid (by rw [HPS.out, HPE3.out, HPF.out]; rfl)
                  have q3 : (q.toList == [117, 112, 103, 114, 97, 100, 101]) = true := by rw [toList_data, hqu]; rfl
                  clear hqu
                  go_wp2_with fail
                  refine (hmx.out _).mono ?_
                  rintro e w10 ⟨rfl, hb⟩
                  replace hz := hz.below hb
                  replace hBw := below_step hBw hb
                  clear hb
                  go_wp2_with fail
                  refine (hfi.out _).mono ?_
                  rintro e w11 ⟨rfl, hb⟩
                  replace hz := hz.below hb
                  replace hBw := below_step hBw hb
                  obtain ⟨x0, x1, xf⟩ := id hz
                  clear hb hz
                  go_wp2_with fail
                  refine bodyPost_ret (v := .tuple #[(.string ⟨(verMax s now.data.toList).toArray⟩), fltV ((0 : Nat), -1)]) (by simp [results, Tryz.results39, fltV, go_sem, *]) rfl ?_
                  rw [HPS3.out, HPE3.out]
                  exact ⟨rfl, (hBw.setCell (p := ⟨w.heap.size, 0, none⟩) (Nat.le_refl _) _).setCell (p := ⟨w.heap.size, 1, none⟩) (Nat.le_refl _) _⟩
                · have HPF : Hid (pickF (enF n P V R K Bk) p.data.toList q.data.toList now.data.toList = some s) := Lib.hid (by rw [HPR.out]; simp [hqu])
                  have HPE3 : Hid (PE = (0, -1)) := Lib.hid (by rw [HPE2.out, HPF.out]; rfl)
                  have HPS3 : Hid (PS = s) := Lib.hid (by rw [HPS.out, HPE3.out, HPF.out]; rfl)
                  have q3 : (q.toList == [117, 112, 103, 114, 97, 100, 101]) = false := by rw [toList_data]; exact beq_eq_false_iff_ne.2 hqu
                  clear hqu
                  go_wp2_with fail
                  refine (hfi.out _).mono ?_
                  rintro e w10 ⟨rfl, hb⟩
                  replace hz := hz.below hb
                  replace hBw := below_step hBw hb
                  obtain ⟨x0, x1, xf⟩ := id hz
                  clear hb hz
                  go_wp2_with fail
                  refine bodyPost_ret (v := .tuple #[(.string sb), fltV ((0 : Nat), -1)]) (by simp [results, Tryz.results39, fltV, go_sem, *]) rfl ?_
                  rw [HPS3.out, HPE3.out, HSB.out]
                  exact ⟨rfl, (hBw.setCell (p := ⟨w.heap.size, 0, none⟩) (Nat.le_refl _) _).setCell (p := ⟨w.heap.size, 1, none⟩) (Nat.le_refl _) _⟩
    · have HPE2 : Hid (PE = (fc, fa)) := Lib.hid (by rw [HPE1.out]; unfold orE; rw [if_pos h0])
      have HPS2 : Hid (PS = []) := Lib.hid (by rw [HPS.out, HPE2.out, if_neg h0])
      have hfp : (0 : Int) < (fc : Int) := by omega
      obtain ⟨z0, z1, zf⟩ := id hz
      clear HPE1 h0
      go_wp2_with fail
      generalize w3.alloc (.cells #[.int .i64 (fc : Nat), .int .i64 fa] 46) = w4 at *
      generalize w3.heap.size = bx at *
      go_region
      all_goals
        go_wp2_with fail
        refine bodyPost_ret (v := .tuple #[(.string ⟨#[]⟩), fltV (fc, fa)]) (by simp [results, Tryz.results39, fltV, go_sem, *]) rfl ?_
        rw [HPS2.out, HPE2.out]
        exact ⟨rfl, (hB.drew.setCell (p := ⟨w.heap.size, 0, none⟩) (Nat.le_refl _) _).setCell (p := ⟨w.heap.size, 1, none⟩) (Nat.le_refl _) _⟩
  · have hqp : (0 : Int) < (qe : Int) := by omega
    have HPE1 : Hid (PE = (qe, -1)) := Lib.hid (by rw [HPE.out, if_pos hq0])
    have HPS1 : Hid (PS = []) := Lib.hid (by rw [HPS.out, HPE1.out, if_neg hq0])
    have hbr := fun W => refBare_calls qe W
    unfold fltV at hbr
    simp only at hbr
    replace hbr := Lib.hid hbr
    clear hq0 hif
    go_wp2_with fail
    refine (hbr.out _).mono ?_
    rintro e w3 ⟨rfl, hb⟩
    replace hz := hz.below hb
    replace hB := below_step hB hb
    obtain ⟨x0, x1, xf⟩ := id hz
    clear hb hbr hz
    go_wp2_with fail
    refine bodyPost_ret (v := .tuple #[(.string ⟨#[]⟩), fltV (qe, -1)]) (by simp [results, Tryz.results39, fltV, go_sem, *]) rfl ?_
    rw [HPS1.out, HPE1.out]
    exact ⟨rfl, (hB.setCell (p := ⟨w.heap.size, 0, none⟩) (Nat.le_refl _) _).setCell (p := ⟨w.heap.size, 1, none⟩) (Nat.le_refl _) _⟩
end Go.Proofs.Pw
