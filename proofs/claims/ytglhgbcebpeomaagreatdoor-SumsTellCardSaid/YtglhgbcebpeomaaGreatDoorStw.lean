/- St: walks and plain laws, joined: RefReadL. Conditions: at each theorem. -/
import Derived.Test.YtglhgbcebpeomaaGreatDoorStq
import Derived.Test.YtglhgbcebpeomaaGreatDoorSts
import Derived.Test.YtglhgbcebpeomaaGreatDoorStv
import Derived.Test.YtglhgbcebpeomaaGreatDoorStd

namespace Go.Proofs.Pw
open Go.RowKit
open Go.Lib hiding intOf
structure OwnG (B : Nat) (w : World) (v : Value) (T : List LnB) : Prop where
  out : w.ownsRow B 31 3 v T.length (lnVs .i64 T)
theorem OwnG.below {B : Nat} {w w' : World} {v : Value} {T : List LnB} (h : OwnG B w v T) (hb : Below w.heap.size w w') : OwnG B w' v T := ⟨ownsRow_kept h.out hb⟩
theorem lstF_dropS {n : Nat} {L : Nat → ByteArray} {k : Nat} (h : k < n) : (lstF n L).drop k = (L k).data.toList :: (lstF n L).drop (k + 1) := by
  have h1 := lstF_get n L k h
  obtain ⟨h2, h3⟩ := List.getElem?_eq_some_iff.1 h1
  rw [List.drop_eq_getElem_cons h2, h3]
theorem lstF_drop_ne {n : Nat} {L : Nat → ByteArray} {k : Nat} (h : k + 1 < n) : (lstF n L).drop (k + 1) ≠ [] := by
  intro h1
  have := congrArg List.length h1
  rw [List.length_drop, lstF_length] at this
  simp at this
  omega
theorem lstF_drop_last {n : Nat} {L : Nat → ByteArray} {k : Nat} (h : k + 1 = n) : (lstF n L).drop k = [(L k).data.toList] := by
  rw [lstF_dropS (by omega), List.drop_eq_nil_of_le (by rw [lstF_length]; omega)]
theorem readX_one {out : List Ln} {i : Nat} {t : Str} : readX out i [t] = if t ≠ [] then ([], 1, (i : Int)) else (out, 0, -1) := by rw [readX]
theorem decVal_bound10 {l : Str} (h : l.all isDig = true) (h6 : l.length ≤ 10) : decVal l ≤ 9999999999 := by
  have h1 := decVal_lt l h
  have := Nat.pow_le_pow_right (n := 10) (by decide) h6
  omega
theorem head_eq (s : ByteArray) (h : 0 < s.size) : s.data.toList.head? = some (s[0]'h) := by
  rw [List.head?_eq_getElem?, List.getElem?_eq_getElem (by rw [← size_eq]; exact h)]; rfl
set_option maxHeartbeats 16000000 in
set_option maxRecDepth 100000 in
theorem refReadL_calls (s : ByteArray) (w : World) (hs : s.size ≤ 1000000) :
    Calls Tryz.prog 24 #[.string s] w fun e w' => (∃ v, e = .returned (.tuple #[v, fltV ((readLs s.data.toList).2.1, (readLs s.data.toList).2.2)]) ∧ LnsAt .i64 w' v (readLs s.data.toList).1 ∧ NewRow w v) ∧ Below w.heap.size w w' := by
  obtain ⟨i0, hi, hz0, hz1, hz2⟩ := info_parts Tryz.infoLineG
  have hct := fun (s : ByteArray) (c : UInt8) W h => refCut_calls s c W h
  have hdg := fun (s : ByteArray) W h => refDigits_calls s W h
  have hck := fun p v W h1 h2 => refModErr_calls p v W h1 h2
  have hah := fun p v q u W h1 h2 => isAhead_calls p v q u W h1 h2
  have hB := below_alloc w (.cells #[.int .i64 0, .int .i64 0] 46)
  have hz := box2_alloc w (.int .i64 0) (.int .i64 0) 46
  obtain ⟨w1, hW⟩ : ∃ W, w.alloc (.cells #[.int .i64 0, .int .i64 0] 46) = W := ⟨_, rfl⟩
  rw [hW] at hB hz
  have hc1 := hct s 10 w1 (by omega)
  have hslt : w.heap.size < w1.heap.size := lt_of_cell hz.c0
  replace hct := Lib.hid hct
  replace hdg := Lib.hid hdg
  replace hck := Lib.hid hck
  replace hah := Lib.hid hah
  replace hc1 := Lib.hid hc1
  go_enter Tryz.func24, Tryz.ntmps24
  go_wp2_with fail
  clear hW
  refine hc1.out.mono ?_
  rintro e w2 ⟨⟨v2, rfl, hS, _⟩, hB2⟩
  have hslt2 : w.heap.size < w2.heap.size := Nat.lt_of_lt_of_le hslt hB2.size
  obtain ⟨ax, n, cx, Lx, rfl, hL, hcx⟩ := hS.cellsL
  have hn0 : 0 < n := by
    rcases Nat.eq_zero_or_pos n with h | h
    · subst h
      exact absurd hL (split_not_nil _ _)
    · exact h
  have hnl : n ≤ 1000001 := by
    have h1 := split_len 10 s.data.toList
    rw [hL, lstF_length, ← size_eq] at h1
    omega
  have HSZ : Hid (∀ j, j < n → (Lx j).size ≤ 1000000) := Lib.hid (fun j hj => by
    have hm : (Lx j).data.toList ∈ split s.data.toList [10] := by rw [hL]; exact List.mem_of_getElem? (lstF_get n Lx j hj)
    have := split_mem_le [10] (by simp) _ _ (Nat.le_refl _) _ hm
    rw [size_eq] at hs ⊢
    omega)
  have HRL : Hid (readLs s.data.toList = readX [] 0 (lstF n Lx)) := Lib.hid (by unfold readLs; rw [hL])
  replace hcx := Lib.hid hcx
  clear hc1 hS hL
  go_wp2_with fail
  go_loopw [4, 6] (fun o i wr => ∃ (k : Nat) (T : List LnB), k < n ∧ i = .int .i64 k ∧ T.length = k ∧ OwnG w2.heap.size wr o T ∧ Below w2.heap.size w2 wr ∧ Hid (readX (lnTs T) k ((lstF n Lx).drop k) = readLs s.data.toList) ∧ Hid (∀ y ∈ T, y.2.1.size ≤ 1000000)) (fun _ i _ => n - (intOf i).toNat)
  case atStart => exact ⟨0, [], hn0, rfl, rfl, ⟨World.ownsRow_nil _ _ _ _⟩, Below.refl _ _, Lib.hid HRL.out.symm, Lib.hid (fun y hy => by cases hy)⟩
  case round =>
    obtain ⟨k, T, hk, rfl, hTk, hO, hBr, HR, HVT⟩ := hrel
    obtain ⟨ao, no, co, rfl⟩ := own_form hO.out
    have hno := Lib.hid (ownL_len hO.out)
    have hkn : (k : Int) < (n : Int) := by omega
    obtain ⟨b1, o1, ea, c0⟩ := hcx.out wr hBr k hk
    subst ea
    have hts := HSZ.out k hk
    have hdr := lstF_dropS (L := Lx) hk
    have hwn : IntKind.i64.wrap ((n : Int) - 1) = ((n - 1 : Nat) : Int) := by rw [show (n : Int) - 1 = ((n - 1 : Nat) : Int) by omega]; exact wrap_nat _ (by omega)
    by_cases hlast : k + 1 = n
    · have hke : ((k : Int) == ((n - 1 : Nat) : Int)) = true := by rw [beq_iff_eq]; omega
      have hX := HR.out
      rw [lstF_drop_last hlast, readX_one] at hX
      clear hdr HR
      generalize Lx k = t at *
      by_cases ht : t.data.toList = []
      · have e1 : (t.toList != []) = false := by rw [toList_data, ht]; rfl
        have e2 : t.toList.isEmpty = true := by rw [toList_data, ht]; rfl
        rw [if_neg (fun h => h ht)] at hX
        have HF : Hid (readLs s.data.toList = (lnTs T, 0, -1)) := Lib.hid hX.symm
        have hfi := fun W => refFine_calls W
        unfold fltV at hfi
        replace hfi := Lib.hid hfi
        clear hX ht
        go_wp2_with fail
        refine (hfi.out _).mono ?_
        rintro e w8 ⟨rfl, hb⟩
        have hO8 := hO.below hb
        replace hBr := below_step hBr hb
        have hB9 := below_step hB (below_step hB2 hBr)
        have hz9 := hz.below (below_step hB2 hBr)
        obtain ⟨z0, z1, zf⟩ := id hz9
        have HFIN : Hid (∀ u0 u1 : Value, LnsAt .i64 ((w8.setCell ⟨w.heap.size, 0, none⟩ u0).setCell ⟨w.heap.size, 1, none⟩ u1) (.slice ao no co) (lnTs T)) := Lib.hid (fun u0 u1 =>
          lnsAt_own (ownsRow_set (ownsRow_set hO8.out (own_ne hO8.out hslt2) u0) (own_ne hO8.out hslt2) u1))
        have HNR : Hid (NewRow w (.slice ao no co)) := Lib.hid (newRow_own (hO8.out.mono (base' := w.heap.size) (by omega)))
        clear hb hfi hO hO8 c0
        go_wp2_with fail
        refine bodyPost_ret (v := .tuple #[.slice ao no co, fltV (0, -1)]) (by simp [results, Tryz.results24, fltV, go_sem, *]) rfl ?_
        rw [HF.out]
        exact ⟨⟨_, rfl, HFIN.out _ _, HNR.out⟩, below_sto2 hB9 (Nat.le_refl _) _ _⟩
      · have e1 : (t.toList != []) = true := by rw [toList_data, bne_iff_ne]; exact ht
        have e2 : t.toList.isEmpty = false := by
          rw [toList_data]
          cases h : t.data.toList with
          | nil => exact absurd h ht
          | cons => rfl
        rw [if_pos ht] at hX
        have HF : Hid (readLs s.data.toList = ([], 1, (k : Int))) := Lib.hid hX.symm
        have hB9 := below_step hB (below_step hB2 hBr)
        have hz9 := hz.below (below_step hB2 hBr)
        clear hX ht
        obtain ⟨z0, z1, zf⟩ := id hz9
        go_wp2_with fail
        refine bodyPost_ret (v := .tuple #[.slice none 0 0, fltV (1, (k : Int))]) (by simp [results, Tryz.results24, fltV, go_sem, *]) rfl ?_
        rw [HF.out]
        exact ⟨⟨_, rfl, LnsAt.nil _ _, fun q n c e => by cases e⟩, below_sto2 hB9 (Nat.le_refl _) _ _⟩
    · have hke : ((k : Int) == ((n - 1 : Nat) : Int)) = false := by rw [beq_eq_false_iff_ne]; omega
      have hX := HR.out
      rw [hdr, readX_cons (lstF_drop_ne (by omega))] at hX
      have HX := Lib.hid hX.symm
      have HLW : Hid (k + 1 < n) := Lib.hid (by omega)
      obtain ⟨t, hxt⟩ : ∃ t, Lx k = t := ⟨_, rfl⟩
      rw [hxt] at HX c0 hts
      have hc2 := hct.out t 32 wr (by omega)
      have hsl := split_mem_le [32] (by simp) _ t.data.toList (Nat.le_refl _)
      replace hc2 := Lib.hid hc2
      clear hX hdr HR hxt hlast
      go_wp2_with fail
      refine hc2.out.mono ?_
      rintro e w3 ⟨⟨v3, rfl, hS, _⟩, hb⟩
      replace hBr := below_step hBr hb
      replace hO := hO.below hb
      obtain ⟨aw, m, cw, Lw, rfl, hLw, hcw⟩ := hS.cellsL
      rw [hLw] at hsl
      clear hb hc2 hS c0
      by_cases hm : m = 3
      · subst hm
        obtain ⟨b2, o2, ea, d0⟩ := hcw w3 (Below.refl _ _) 0 (by decide)
        obtain ⟨b3, o3, eb, d1⟩ := hcw w3 (Below.refl _ _) 1 (by decide)
        obtain ⟨b4, o4, ec, d2⟩ := hcw w3 (Below.refl _ _) 2 (by decide)
        subst ea
        injection eb with eb
        injection eb with eb1 eb2
        subst eb1 eb2
        injection ec with ec
        injection ec with ec1 ec2
        subst ec1 ec2
        simp only [Nat.add_zero] at d0
        have H3 := lineE_three (show split t.data.toList [32] = [(Lw 0).data.toList, (Lw 1).data.toList, (Lw 2).data.toList] from hLw)
        have hs0 : (Lw 0).size ≤ 1000000 := by have := hsl _ (List.mem_of_getElem? (lstF_get 3 Lw 0 (by decide))); rw [size_eq] at hts ⊢; omega
        have hs1 : (Lw 1).size ≤ 1000000 := by have := hsl _ (List.mem_of_getElem? (lstF_get 3 Lw 1 (by decide))); rw [size_eq] at hts ⊢; omega
        have hs2 : (Lw 2).size ≤ 1000000 := by have := hsl _ (List.mem_of_getElem? (lstF_get 3 Lw 2 (by decide))); rw [size_eq] at hts ⊢; omega
        clear hcw hLw hsl
        generalize Lw 0 = p at *
        generalize Lw 1 = v at *
        generalize Lw 2 = d at *
        have HLE := Lib.hid H3.1
        have HLL := Lib.hid H3.2
        have hdg1 := hdg.out d w3 (by omega)
        obtain ⟨G, hG⟩ : ∃ G, areDigits d.data.toList = G := ⟨_, rfl⟩
        rw [hG] at hdg1
        have HG := Lib.hid hG
        replace hdg1 := Lib.hid hdg1
        clear H3 hG
        cases G with
        | false =>
          have HF : Hid (readLs s.data.toList = ([], 1, (k : Int))) := Lib.hid (by
            have hE1 : lineE t.data.toList = 1 := by
              rw [HLE.out, if_pos (by rw [Bool.eq_false_iff]; exact fun h => by have := (sumW_parts.1 h).1; rw [HG.out] at this; cases this)]
            rw [HX.out, hE1]; simp)
          have hB9 := below_step hB (below_step hB2 hBr)
          have hz9 := hz.below (below_step hB2 hBr)
          go_wp2_with fail
          refine hdg1.out.mono ?_
          rintro e w' ⟨rfl, rfl⟩
          clear hdg1
          obtain ⟨z0, z1, zf⟩ := id hz9
          go_wp2_with fail
          refine bodyPost_ret (v := .tuple #[.slice none 0 0, fltV (1, (k : Int))]) (by simp [results, Tryz.results24, fltV, go_sem, *]) rfl ?_
          rw [HF.out]
          exact ⟨⟨_, rfl, LnsAt.nil _ _, fun q n c e => by cases e⟩, below_sto2 hB9 (Nat.le_refl _) _ _⟩
        | true =>
          have hd0 : 0 < d.size := by
            rcases Nat.eq_zero_or_pos d.size with h | h
            · have := HG.out; rw [areDigits_none h] at this; cases this
            · exact h
          have hall : d.data.toList.all isDig = true := by
            have := HG.out; unfold areDigits at this; simp only [Bool.and_eq_true] at this; exact this.2
          have HALL := Lib.hid hall
          have hh := head_eq d hd0
          clear hall
          by_cases h10 : 10 < d.size
          · have h10' : (10 : Int) < (d.size : Int) := by omega
            have HF : Hid (readLs s.data.toList = ([], 1, (k : Int))) := Lib.hid (by
              have hE1 : lineE t.data.toList = 1 := by
                rw [HLE.out, if_pos (by rw [Bool.eq_false_iff]; exact fun h => by have := (sumW_parts.1 h).2.1; rw [← size_eq] at this; omega)]
              rw [HX.out, hE1]; simp)
            have hB9 := below_step hB (below_step hB2 hBr)
            have hz9 := hz.below (below_step hB2 hBr)
            clear h10 hh
            go_wp2_with fail
            refine hdg1.out.mono ?_
            rintro e w' ⟨rfl, rfl⟩
            clear hdg1
            obtain ⟨z0, z1, zf⟩ := id hz9
            go_wp2_with fail
            refine bodyPost_ret (v := .tuple #[.slice none 0 0, fltV (1, (k : Int))]) (by simp [results, Tryz.results24, fltV, go_sem, *]) rfl ?_
            rw [HF.out]
            exact ⟨⟨_, rfl, LnsAt.nil _ _, fun q n c e => by cases e⟩, below_sto2 hB9 (Nat.le_refl _) _ _⟩
          · have h10' : ¬ (10 : Int) < (d.size : Int) := by omega
            by_cases hz9 : 1 < d.size ∧ d[0] = 48
            · have h1' : (1 : Int) < (d.size : Int) := by omega
              have h48 : ((d[0].toNat : Int) == 48) = true := by rw [hz9.2]; rfl
              have HF : Hid (readLs s.data.toList = ([], 1, (k : Int))) := Lib.hid (by
                have hE1 : lineE t.data.toList = 1 := by
                  rw [HLE.out, if_pos (by rw [Bool.eq_false_iff]; exact fun h => (sumW_parts.1 h).2.2 ⟨by rw [← size_eq]; exact hz9.1, by rw [hh, hz9.2]⟩)]
                rw [HX.out, hE1]; simp)
              clear hz9 h10 hh
              have hB9 := below_step hB (below_step hB2 hBr)
              have hz9 := hz.below (below_step hB2 hBr)
              go_wp2_with fail
              refine hdg1.out.mono ?_
              rintro e w' ⟨rfl, rfl⟩
              clear hdg1
              obtain ⟨z0, z1, zf⟩ := id hz9
              go_wp2_with fail
              refine bodyPost_ret (v := .tuple #[.slice none 0 0, fltV (1, (k : Int))]) (by simp [results, Tryz.results24, fltV, go_sem, *]) rfl ?_
              rw [HF.out]
              exact ⟨⟨_, rfl, LnsAt.nil _ _, fun q n c e => by cases e⟩, below_sto2 hB9 (Nat.le_refl _) _ _⟩
            · have hw : sumW d.data.toList = true := sumW_parts.2 ⟨HG.out, by rw [← size_eq]; omega, fun h => hz9 ⟨by rw [size_eq]; exact h.1, by have := h.2; rw [hh] at this; exact Option.some.inj this⟩⟩
              have HE0 : Hid (lineE t.data.toList = if 4294967295 < decVal d.data.toList then 2 else modErr p.data.toList v.data.toList) := Lib.hid (by rw [HLE.out, if_neg (by rw [hw]; decide)])
              have h01 : ((1 : Int) < (d.size : Int) ∧ (((d[0]'hd0).toNat : Int) == 48) = false) ∨ ¬ (1 : Int) < (d.size : Int) := by
                by_cases h1 : 1 < d.size
                · refine .inl ⟨by omega, ?_⟩
                  rw [beq_eq_false_iff_ne]
                  intro e
                  refine hz9 ⟨h1, ?_⟩
                  have : (d[0]'hd0).toNat = 48 := by exact_mod_cast e
                  rw [show (48 : UInt8) = UInt8.ofNat 48 from rfl, ← this, UInt8.ofNat_toNat]
                · exact .inr (by omega)
              have hds : d.size ≤ 10 := by omega
              clear hw hz9 hh h10
              rcases h01 with ⟨h1, h2⟩ | h1
              all_goals
                go_wp2_with fail
                refine hdg1.out.mono ?_
                rintro e w' ⟨rfl, rfl⟩
                clear hdg1
                go_wp2_with fail
                go_loop [9, 10] (fun n i => ∃ j : Nat, j ≤ d.size ∧ i = .int .i64 j ∧ n = .int .i64 (decVal (d.data.toList.take j) : Nat)) (fun _ i => d.size - (intOf i).toNat)
                case atStart => exact ⟨0, Nat.zero_le _, rfl, rfl⟩
                case' round =>
                  obtain ⟨j, hj, rfl, rfl⟩ := hrel
                  by_cases hlt : j < d.size
                  case' pos =>
                    have hc := dig_lt (List.all_eq_true.1 HALL.out _ (byte_mem d j hlt))
                    have hall : (d.data.toList.take j).all isDig = true := List.all_eq_true.2 fun c hc => List.all_eq_true.1 HALL.out c (List.mem_of_mem_take hc)
                    have hb := decVal_bound10 hall (by rw [List.length_take]; omega)
                    have HN : Hid (decVal (d.data.toList.take (j + 1)) = 10 * decVal (d.data.toList.take j) + (d[j].toNat - 48)) := Lib.hid (by rw [take_snoc d j hlt, decVal_snoc])
                    have hc1 : (d[j].toNat : Int) - 48 ≤ 9 := by omega
                    have hc2 : 48 ≤ (d[j].toNat : Int) := by omega
                    generalize decVal (d.data.toList.take j) = x at hb HN ⊢
                    clear hc hall
                    go_wp2_with fail
                    go_round
                    case rel => exact ⟨j + 1, by omega, by go_num, by rw [HN.out]; go_num⟩
                    case measure => simp [intOf]; omega
                  case' neg =>
                    obtain rfl : j = d.size := by omega
                    have HT := Lib.hid (take_size d)
                    rw [HT.out]
                    have hvb := decVal_bound10 HALL.out (by rw [← size_eq]; exact hds)
                    generalize decVal d.data.toList = N at HE0 HLL hvb ⊢
                    have ca := below_alloc w3 (.cells #[.string ⟨#[]⟩, .string ⟨#[]⟩] 29)
                    have d0a := Below.cell_some ca d0
                    have d1a := Below.cell_some ca d1
                    clear HT hlt hj h1 ca
                    go_wp2_with fail
                    go_region
                    all_goals
                      have hba := (below_alloc w3 (.cells #[.string p, .string v] 29)).drew
                      have hBr4 := below_step hBr hba
                      have hO4 := hO.below hba
                      have hx4 : Box2 (w3.alloc (.cells #[.string p, .string v] 29)).drew w3.heap.size (.string p) (.string v) := ⟨(box2_alloc w3 (.string p) (.string v) 29).c0, (box2_alloc w3 (.string p) (.string v) 29).c1, (box2_alloc w3 (.string p) (.string v) 29).fr⟩
                      clear d0a d1a d0 d1 d2 hba hO hBr
                      generalize (w3.alloc (.cells #[.string p, .string v] 29)).drew = w4 at *
                      generalize w3.heap.size = bx at *
                      by_cases hbig : 4294967295 < N
                      · have hb' : (4294967295 : Int) < (N : Int) := by omega
                        have HF : Hid (readLs s.data.toList = ([], 2, (k : Int))) := Lib.hid (by rw [HX.out, HE0.out, if_pos hbig]; simp)
                        have hB9 := below_step hB (below_step hB2 hBr4)
                        have hz9 := hz.below (below_step hB2 hBr4)
                        clear hbig hx4
                        obtain ⟨z0, z1, zf⟩ := id hz9
                        go_wp2_with fail
                        refine bodyPost_ret (v := .tuple #[.slice none 0 0, fltV (2, (k : Int))]) (by simp [results, Tryz.results24, fltV, go_sem, *]) rfl ?_
                        rw [HF.out]
                        exact ⟨⟨_, rfl, LnsAt.nil _ _, fun q n c e => by cases e⟩, below_sto2 hB9 (Nat.le_refl _) _ _⟩
                      · have hb' : ¬ (4294967295 : Int) < (N : Int) := by omega
                        have hc1 := hck.out p v w4 (by omega) (by omega)
                        obtain ⟨E, hEE⟩ : ∃ E, modErr p.data.toList v.data.toList = E := ⟨_, rfl⟩
                        rw [hEE] at hc1
                        have HEE : Hid (lineE t.data.toList = E) := Lib.hid (by rw [HE0.out, if_neg hbig, hEE])
                        obtain ⟨x0, x1, xf⟩ := id hx4
                        clear hEE hbig
                        by_cases h0 : E = 0
                        · subst h0
                          have HX2 : Hid (readLs s.data.toList = if 0 < k ∧ modAhead (lnAt (lnTs T) (k - 1)).1 (p.data.toList, v.data.toList) = false then ([], 8, (k : Int)) else readX (lnTs (T ++ [(p, v, N)])) (k + 1) ((lstF n Lx).drop (k + 1))) := Lib.hid (by
                            rw [HX.out, HEE.out, if_neg (by simp), HLL.out, lnTs_snoc])
                          clear HX
                          by_cases hk0 : k = 0
                          · have hkz : ¬ (0 : Int) < (k : Int) := by omega
                            have HN : Hid (readX (lnTs (T ++ [(p, v, N)])) (k + 1) ((lstF n Lx).drop (k + 1)) = readLs s.data.toList) := Lib.hid (by rw [HX2.out, if_neg (fun h => by omega)])
                            replace hc1 := Lib.hid hc1
                            clear hk0
                            go_wp2_with fail
                            refine hc1.out.mono ?_
                            rintro e w6 ⟨rfl, hb⟩
                            have hB6 := below_step hBr4 hb
                            have hO6 := hO4.below hb
                            replace x0 := Below.cell_some hb x0
                            replace x1 := Below.cell_some hb x1
                            clear hb hc1 hx4 xf hO4 hBr4
                            have HVN : Hid (∀ y ∈ T ++ [(p, v, N)], y.2.1.size ≤ 1000000) := Lib.hid (fun y hy => by
                              rcases List.mem_append.1 hy with h | h
                              · exact HVT.out y h
                              · rw [List.mem_singleton.1 h]; exact hs1)
                            go_wp2_with (at_builtin; refine wpList_append_own _ rfl _ _ 24 rfl w2.heap.size 31 i0 (.agg #[.string ⟨#[]⟩, .string ⟨#[]⟩, .int .i64 0]) 3 40 Tryz.underlying24 hi hz0 hz1 hz2 rfl (by decide) _ _ _ rfl (hO6.out.alloc _) ⟨w6.heap.size, 0, none⟩ 1 1 [.string p, .string v, .int .i64 N] rfl rfl (cell_ln_new w6 _ _ _ _ _) (by intro u hu; simp at hu; rcases hu with rfl | rfl | rfl <;> rfl) (by unfold maxLen; omega) (by omega) (by have := hB6.size; simp; omega) ?_; intro o' w8 hown8 hgrow8 _)
                            go_roundw
                            case rel =>
                              refine ⟨k + 1, T ++ [(p, v, N)], HLW.out, by go_num, by simp; omega, ⟨?_⟩, ?_, HN, HVN⟩
                              · rw [List.length_append, List.length_singleton, ← lnVs_snoc]; exact hown8
                              · exact (hB6.alloc hB6.size _).grown hgrow8 (by have := hB6.size; simp; omega) (fun q hq => (hO6.out.lt q hq).1)
                            case measure => have := HLW.out; simp [intOf]; omega
                          · obtain ⟨i, hki⟩ : ∃ i, k = i + 1 := ⟨k - 1, by omega⟩
                            have hiT : i < T.length := by omega
                            have hLA := lnAt_G hiT
                            have hvs := HVT.out _ (lnG_mem hiT)
                            have hk0' : (0 : Int) < (k : Int) := by omega
                            have hkw : IntKind.i64.wrap ((k : Int) - 1) = (i : Int) := by rw [show (k : Int) - 1 = (i : Int) by omega]; exact wrap_nat i (by omega)
                            have hin : (i : Int) < (no : Int) := by have := hno.out; omega
                            have hah1 := fun W => hah.out (lnG T i).1 (lnG T i).2.1 p v W (by omega) (by omega)
                            have HK0 : Hid (0 < k) := Lib.hid (by omega)
                            have HX3 := HX2.out
                            rw [show k - 1 = i by omega, hLA] at HX3
                            have HX4 := Lib.hid HX3
                            replace hc1 := Lib.hid hc1
                            clear HX3 HX2 hki hk0 hvs
                            go_wp2_with fail
                            refine hc1.out.mono ?_
                            rintro e w5 ⟨rfl, hb⟩
                            have hBr5 := below_step hBr4 hb
                            have hO5 := hO4.below hb
                            replace x0 := Below.cell_some hb x0
                            replace x1 := Below.cell_some hb x1
                            obtain ⟨b9, o9, ee, hcd⟩ := lnG_cells hO5.out i hiT
                            obtain ⟨f0, f1, f2⟩ := hcd
                            subst ee
                            generalize (lnG T i).1 = P0 at *
                            generalize (lnG T i).2.1 = V0 at *
                            generalize (lnG T i).2.2 = S0 at *
                            clear hb hc1 hx4 xf hO4 hBr4 hno hLA hiT
                            cases hX : modAhead (P0.data.toList, V0.data.toList) (p.data.toList, v.data.toList) with
                            | true =>
                              rw [hX] at hah1
                              have HN : Hid (readX (lnTs (T ++ [(p, v, N)])) (k + 1) ((lstF n Lx).drop (k + 1)) = readLs s.data.toList) := Lib.hid (by rw [HX4.out]; simp [hX])
                              replace hah1 := Lib.hid hah1
                              clear hX HX4
                              go_wp2_with fail
                              have y0 := x0
                              have y1 := x1
                              clear x0 x1
                              have kqy0 := fun d os => cell_patch (d := d) (os := os) y0
                              have kqy1 := fun d os => cell_patch (d := d) (os := os) y1
                              have kqf0 := fun d os => cell_patch (d := d) (os := os) f0
                              have kqf1 := fun d os => cell_patch (d := d) (os := os) f1
                              refine wp_region_quiet_patch (by kernel_rfl) (by kernel_rfl) ?_
                              repeat (go_big_quiet_step ((go_at_call 66; with_reducible exact Calls.patch_of (hah1.out _))))
                              refine wpQuiet_nil ?_
                              intro _ hw'
                              obtain ⟨⟨dq, osq⟩, hw''⟩ := hw'
                              subst hw''
                              clear kqy0 kqy1 kqf0 kqf1
                              have hb := below_patch w5 dq osq
                              replace hBr5 := below_step hBr5 hb
                              replace hO5 := hO5.below hb
                              replace y0 := Below.cell_some hb y0
                              replace y1 := Below.cell_some hb y1
                              clear hb
                              generalize patch w5 dq osq = w6 at hBr5 hO5 y0 y1 ⊢
                              have hB6 := hBr5
                              have hO6 := hO5
                              clear f0 f1 f2 hah1 hBr5 hO5
                              have HVN : Hid (∀ y ∈ T ++ [(p, v, N)], y.2.1.size ≤ 1000000) := Lib.hid (fun y hy => by
                                rcases List.mem_append.1 hy with h | h
                                · exact HVT.out y h
                                · rw [List.mem_singleton.1 h]; exact hs1)
                              go_wp2_with (at_builtin; refine wpList_append_own _ rfl _ _ 24 rfl w2.heap.size 31 i0 (.agg #[.string ⟨#[]⟩, .string ⟨#[]⟩, .int .i64 0]) 3 40 Tryz.underlying24 hi hz0 hz1 hz2 rfl (by decide) _ _ _ rfl (hO6.out.alloc _) ⟨w6.heap.size, 0, none⟩ 1 1 [.string p, .string v, .int .i64 N] rfl rfl (cell_ln_new w6 _ _ _ _ _) (by intro u hu; simp at hu; rcases hu with rfl | rfl | rfl <;> rfl) (by unfold maxLen; omega) (by omega) (by have := hB6.size; simp; omega) ?_; intro o' w8 hown8 hgrow8 _)
                              go_roundw
                              case rel =>
                                refine ⟨k + 1, T ++ [(p, v, N)], HLW.out, by go_num, by simp; omega, ⟨?_⟩, ?_, HN, HVN⟩
                                · rw [List.length_append, List.length_singleton, ← lnVs_snoc]; exact hown8
                                · exact (hB6.alloc hB6.size _).grown hgrow8 (by have := hB6.size; simp; omega) (fun q hq => (hO6.out.lt q hq).1)
                              case measure => have := HLW.out; simp [intOf]; omega
                            | false =>
                              rw [hX] at hah1
                              have HF : Hid (readLs s.data.toList = ([], 8, (k : Int))) := Lib.hid (by rw [HX4.out]; have := HK0.out; simp [hX, this])
                              replace hah1 := Lib.hid hah1
                              clear hX HX4
                              go_wp2_with fail
                              have kqx0 := fun d os => cell_patch (d := d) (os := os) x0
                              have kqx1 := fun d os => cell_patch (d := d) (os := os) x1
                              have kqf0 := fun d os => cell_patch (d := d) (os := os) f0
                              have kqf1 := fun d os => cell_patch (d := d) (os := os) f1
                              refine wp_region_quiet_patch (by kernel_rfl) (by kernel_rfl) ?_
                              repeat (go_big_quiet_step ((go_at_call 66; with_reducible exact Calls.patch_of (hah1.out _))))
                              refine wpQuiet_nil ?_
                              intro _ hw'
                              obtain ⟨⟨dq, osq⟩, hw''⟩ := hw'
                              subst hw''
                              clear kqx0 kqx1 kqf0 kqf1
                              have hb := below_patch w5 dq osq
                              replace hBr5 := below_step hBr5 hb
                              clear hb
                              generalize patch w5 dq osq = w6 at hBr5 ⊢
                              have hB9 := below_step hB (below_step hB2 hBr5)
                              have hz9 := hz.below (below_step hB2 hBr5)
                              clear f0 f1 f2 x0 x1 hO5
                              obtain ⟨z0, z1, zf⟩ := id hz9
                              go_wp2_with fail
                              refine bodyPost_ret (v := .tuple #[.slice none 0 0, fltV (8, (k : Int))]) (by simp [results, Tryz.results24, fltV, go_sem, *]) rfl ?_
                              rw [HF.out]
                              exact ⟨⟨_, rfl, LnsAt.nil _ _, fun q n c e => by cases e⟩, below_sto2 hB9 (Nat.le_refl _) _ _⟩
                        · have HF : Hid (readLs s.data.toList = ([], E, (k : Int))) := Lib.hid (by rw [HX.out, HEE.out]; simp [h0])
                          have he1 : ((E : Int) == 0) = false := beq_eq_false_iff_ne.2 (by omega)
                          have he2 : (0 : Int) < (E : Int) := by omega
                          replace hc1 := Lib.hid hc1
                          clear h0 HX
                          go_wp2_with fail
                          refine hc1.out.mono ?_
                          rintro e w5 ⟨rfl, hb⟩
                          replace hBr4 := below_step hBr4 hb
                          have hB9 := below_step hB (below_step hB2 hBr4)
                          have hz9 := hz.below (below_step hB2 hBr4)
                          clear hc1 hb x0 x1 xf hx4
                          obtain ⟨z0, z1, zf⟩ := id hz9
                          go_wp2_with fail
                          refine bodyPost_ret (v := .tuple #[.slice none 0 0, fltV (E, (k : Int))]) (by simp [results, Tryz.results24, fltV, go_sem, *]) rfl ?_
                          rw [HF.out]
                          exact ⟨⟨_, rfl, LnsAt.nil _ _, fun q n c e => by cases e⟩, below_sto2 hB9 (Nat.le_refl _) _ _⟩
      · have hm' : ((m : Int) != 3) = true := by rw [bne_iff_ne]; omega
        have hE1 : lineE t.data.toList = 1 := lineE_form (by rw [hLw, lstF_length]; exact hm)
        have HF : Hid (readLs s.data.toList = ([], 1, (k : Int))) := Lib.hid (by rw [HX.out, hE1]; simp)
        have hB9 := below_step hB (below_step hB2 hBr)
        have hz9 := hz.below (below_step hB2 hBr)
        clear hm hE1 hLw hcw hsl
        obtain ⟨z0, z1, zf⟩ := id hz9
        go_wp2_with fail
        refine bodyPost_ret (v := .tuple #[.slice none 0 0, fltV (1, (k : Int))]) (by simp [results, Tryz.results24, fltV, go_sem, *]) rfl ?_
        rw [HF.out]
        exact ⟨⟨_, rfl, LnsAt.nil _ _, fun q n c e => by cases e⟩, below_sto2 hB9 (Nat.le_refl _) _ _⟩
end Go.Proofs.Pw
