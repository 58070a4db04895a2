/- Po: walks and plain laws, joined: PkgOf Packed. Conditions: at each theorem. -/
import Derived.Test.YtglhgbcebpeomaaGreatDoorPop
import Derived.Test.YtglhgbcebpeomaaGreatDoorPok
import Derived.Test.YtglhgbcebpeomaaGreatDoorPof
import Derived.Test.YtglhgbcebpeomaaGreatDoorPoo

namespace Go.Proofs.Pw
open Go.RowKit Go.Sort
open Go.Lib hiding intOf
theorem mdTs_snocP (l : List BM) (x y : ByteArray) : mdTs (l ++ [(x, y)]) = mdTs l ++ [(x.data.toList, y.data.toList)] := by simp [mdTs]
theorem sel_has {l : List En} {sel : List Md} {p : Str} (h : ∀ m ∈ sel, (entOf l m).md = m) : ((sel.map (entOf l)).filter fun e => hasK e p).map (·.md) = sel.filter (selHas l p) := by
  induction sel with
  | nil => rfl
  | cons m r ih =>
    have ih' := ih (fun x hx => h x (by simp [hx]))
    have hm := h m (by simp)
    rw [List.map_cons, List.filter_cons, List.filter_cons]
    unfold selHas at *
    cases hasK (entOf l m) p with
    | true => simp only [if_true, List.map_cons]; rw [ih', hm]
    | false => simpa using ih'
theorem roots_md {l : List En} {sel : List Md} (h : (rootsErr l sel).1 = 0) : ∀ m ∈ sel, (entOf l m).md = m ∧ entOf l m ∈ l := fun m hm => entOf_md (rootsErr_zero.1 h m hm)
theorem FaultAt.mdBox {A : Nat → Addr} {w : World} {b : Nat} {v : Value} {r : Nat × Int} {x y : ByteArray} (h : FaultAt A w v r) (hb : Box2 w b (.string x) (.string y)) (u0 u1 : Value) : FaultAt A ((w.setCell ⟨b, 0, none⟩ u0).setCell ⟨b, 1, none⟩ u1) v r := by
  rcases h with h | h | ⟨h1, b', h2, h3, h4⟩
  · exact .inl h
  · exact .inr (.inl h)
  · have hne : b' ≠ b := fun e => by
      rw [e, hb.c0] at h3
      cases h3
    refine .inr (.inr ⟨h1, b', h2, ?_, ?_⟩)
    · rw [set_blk _ hne, set_blk _ hne]; exact h3
    · rw [set_blk _ hne, set_blk _ hne]; exact h4
set_option maxHeartbeats 16000000 in
set_option maxRecDepth 100000 in
theorem pkgOfM_in (ks : List Nat) (A : Nat → Addr) (hks : IdxKs ks) (a : Option Addr) (n cap : Nat) (P V : Nat → ByteArray) (R : Nat → List Md) (K : Nat → List Str) (B : Nat → Bool) (Rv Kv : Nat → Value) (sv : Value) (sel : List Md) (q : ByteArray) (l : List En) (hle : enF n P V R K B = l) (w : World) (hE : EnvP ks A w) (h : EntsIn w a n cap P V R K B Rv Kv) (hs : ShortI l) (hr : ModsAt w sv sel) (hl : sel.length ≤ 1000) (hf19 : (sel.filter (selHas l q.data.toList)).length ≤ 19) (hq : q.size ≤ 1000000) :
    Calls Tryz.prog 31 #[.slice a n cap, sv, .string q] w fun e w' => (∃ ev, e = .returned (.tuple #[.agg #[.string ⟨(ofM l sel q.data.toList).1.toArray⟩, .string ⟨(ofM l sel q.data.toList).2.toArray⟩], ev]) ∧ FaultAt A w' ev (ofErr l sel q.data.toList)) ∧ Below w.heap.size w w' := by
  obtain ⟨i0, hi, hz0, hz1, hz2⟩ := info_parts Tryz.infoMod
  obtain ⟨a2, m, cap2, _, _, rfl, -⟩ := id hr
  have hn : n ≤ 1000000 := by have := hs.len; rw [← hle, enF_length] at this; exact this
  have hB := below_alloc w (.cells #[.string ⟨#[]⟩, .string ⟨#[]⟩] 29)
  have hz := box2_alloc w (.string ⟨#[]⟩) (.string ⟨#[]⟩) 29
  have hck := fun (W : World) (hb : Below w.heap.size w W) => idxCheck_in ks A hks a n cap P V R K B Rv Kv W (hE.below hb) (h.below hb) (by rw [hle]; exact hs)
  have hpa := fun (W : World) (hb : Below w.heap.size w W) => path_calls ks A hks.2.1 q W (hE.below hb) (by omega)
  have hen := fun (W : World) (hb : Below w.heap.size w W) => pkgEntries_in ks A hks a n cap P V R K B Rv Kv (.slice a2 m cap2) sel W (hE.below hb) (h.below hb) hn (hr.below hb) (by omega)
  simp only [hle] at hck hen
  have HE := Lib.hid (fun (W : World) (hb : Below w.heap.size w W) => hE.below hb)
  have HSH := Lib.hid hs
  have HF19 := Lib.hid hf19
  have hOE : ofErr l sel q.data.toList = orE (idxErr l) (if pathErr q.data.toList ≠ 0 ∧ pathErr q.data.toList ≠ 4 then (pathErr q.data.toList, -1) else orE (rootsErr l sel) (if (sel.filter (selHas l q.data.toList)) = [] then (5, -1) else (0, -1))) := rfl
  have HOM : Hid (ofM l sel q.data.toList = if (ofErr l sel q.data.toList).1 = 0 then bestM (sel.filter (selHas l q.data.toList)) else ([], [])) := Lib.hid rfl
  have hpi := pathErr_inP q.data.toList
  generalize pathErr q.data.toList = pe at hpa hOE hpi
  obtain ⟨i, hi1, hcmp⟩ := Option.map_eq_some_iff.1 Tryz.is_comp
  obtain ⟨j, hj, hjs⟩ := Option.map_eq_some_iff.1 Tryz.is_size
  replace hck := Lib.hid hck
  replace hpa := Lib.hid hpa
  replace hen := Lib.hid hen
  replace hOE := Lib.hid hOE
  clear h hr hs hE hle hf19
  go_enter Tryz.func31, Tryz.ntmps31
  go_wp2_with fail
  generalize w.alloc (.cells #[.string ⟨#[]⟩, .string ⟨#[]⟩] 29) = w1 at *
  refine (hck.out _ hB).mono ?_
  rintro e w2 ⟨⟨ev, rfl, hf⟩, hb⟩
  replace hz := hz.below hb
  replace hB := below_step hB hb
  clear hb hck
  rcases fault_form hf with ⟨h0, rfl⟩ | ⟨h0, ty, qq, rfl⟩
  · have HRI : Hid (∀ e ∈ l, e.md.1 ≠ []) := Lib.hid (fun e he => path_ne (modErr_zero ((rightI_of h0).mds e he)).1)
    have hF0 : ofErr l sel q.data.toList = if pe ≠ 0 ∧ pe ≠ 4 then (pe, -1) else orE (rootsErr l sel) (if (sel.filter (selHas l q.data.toList)) = [] then (5, -1) else (0, -1)) := by
      rw [hOE.out]
      unfold orE
      rw [if_neg (by simp [h0])]
    clear hf h0 hOE
    rcases hpi with rfl | rfl | rfl | rfl
    · rw [if_neg (by simp)] at hF0
      rw [errV_zero] at hpa
      have HF1 := Lib.hid hF0
      clear hF0
      go_wp2_with fail
      refine (hpa.out _ hB).mono ?_
      rintro e w3 ⟨rfl, hb⟩
      replace hz := hz.below hb
      replace hB := below_step hB hb
      clear hb hpa
      go_wp2_with fail
      refine (hen.out _ hB).mono ?_
      rintro e w4 ⟨⟨v4, ev4, rfl, hf4, ho4, hn4⟩, hb⟩
      replace hB := below_step hB hb
      replace hz := hz.below hb
      clear hb hen
      rcases fault_form hf4 with ⟨h5, rfl⟩ | ⟨h5, ty, qq, rfl⟩
      · have HF2 : Hid (ofErr l sel q.data.toList = if sel.filter (selHas l q.data.toList) = [] then (5, -1) else (0, -1)) := Lib.hid (by rw [HF1.out]; unfold orE; rw [if_neg (by simp [h5])])
        obtain ⟨ea, en, ec, P2, V2, R2, K2, B2, Rv2, Kv2, rfl, hEq, hin⟩ := ho4 h5
        have HIN := Lib.hid hin
        have HEQ := Lib.hid hEq
        have HMD := Lib.hid (roots_md h5)
        have HSK : Hid (∀ e ∈ enF en P2 V2 R2 K2 B2, e.packs.length ≤ 1000000 ∧ e.md.1.length ≤ 1000000) := Lib.hid (fun e he => by
          rw [← hEq] at he
          obtain ⟨m, hm, rfl⟩ := List.mem_map.1 he
          exact ⟨(HSH.out.packs _ (roots_md h5 m hm).2).1, (HSH.out.mds _ (roots_md h5 m hm).2).1⟩)
        have hen19 : en ≤ 1000 := by
          have := congrArg List.length hEq
          rw [enF_length, List.length_map] at this
          omega
        clear hin hEq hf4 ho4 hn4 HF1 h5
        go_wp2_with fail
        go_loopw [12, 44] (fun o i wr => ∃ (k : Nat) (L : List BM), k ≤ en ∧ i = .int .i64 k ∧ Hid (wr.ownsRow w4.heap.size 29 2 o L.length (mdVs L)) ∧ L.length ≤ k ∧ Hid (mdTs L = (((enF en P2 V2 R2 K2 B2).take k).filter fun e => hasK e q.data.toList).map (·.md)) ∧ Below w4.heap.size w4 wr) (fun _ i _ => en - (intOf i).toNat)
        case atStart => exact ⟨0, [], Nat.zero_le _, rfl, Lib.hid (World.ownsRow_nil _ _ _ _), Nat.le_refl _, Lib.hid rfl, Below.refl _ _⟩
        case round =>
          obtain ⟨k, L, hk, rfl, hO, hLk, hT, hBr⟩ := hrel
          obtain ⟨ao, no, co, rfl⟩ := own_form hO.out
          by_cases hlt : k < en
          · have hkn : (k : Int) < (en : Int) := by omega
            obtain ⟨b1, o1, ea', hcell⟩ := HIN.out.at_ k hlt
            obtain ⟨a1, n1, s1, a2', n2, s2, e1, e2⟩ := HIN.out.forms2 hlt
            rw [e1, e2] at hcell
            obtain ⟨c0, c1, c2, c3, c4⟩ := hcell.below hBr
            subst ea'
            have hba := below_alloc wr (.cells #[.string (P2 k), .string (V2 k), .slice a1 n1 s1, .slice a2' n2 s2, .bool (B2 k)] 37)
            have hpk := HIN.out.packs k hlt
            rw [e2] at hpk
            have hsk := HSK.out (enAt (enF en P2 V2 R2 K2 B2) k) (enAt_mem (by rw [enF_length]; exact hlt))
            rw [enAt_enF hlt] at hsk
            replace hsk : (K2 k).length ≤ 1000000 ∧ (P2 k).size ≤ 1000000 := by rw [size_eq]; exact hsk
            have hhas := fun W hb => pkgHas_calls (P2 k) (V2 k) a1 n1 s1 (.slice a2' n2 s2) (B2 k) (R2 k) (K2 k) q W (hpk.below (below_step hBr hb)) hsk.1 hsk.2
            have hTk : (((enF en P2 V2 R2 K2 B2).take (k + 1)).filter fun e => hasK e q.data.toList).map (·.md) = mdTs L ++ (if hasK ⟨((P2 k).data.toList, (V2 k).data.toList), R2 k, K2 k, B2 k⟩ q.data.toList then [((P2 k).data.toList, (V2 k).data.toList)] else []) := by
              rw [List.take_add_one, enF_get _ _ _ _ _ _ k hlt, List.filter_append, List.map_append, hT.out]
              congr 1
              show List.map _ (List.filter _ [_]) = _
              rw [List.filter_cons, List.filter_nil]
              split <;> rfl
            generalize hasK ⟨((P2 k).data.toList, (V2 k).data.toList), R2 k, K2 k, B2 k⟩ q.data.toList = X at hhas hTk
            have y0 : (wr.alloc (.cells #[.string (P2 k), .string (V2 k), .slice a1 n1 s1, .slice a2' n2 s2, .bool (B2 k)] 37)).cell? ⟨wr.heap.size, 0, none⟩ = some (.string (P2 k)) := by simp
            have y1 : (wr.alloc (.cells #[.string (P2 k), .string (V2 k), .slice a1 n1 s1, .slice a2' n2 s2, .bool (B2 k)] 37)).cell? ⟨wr.heap.size, 1, none⟩ = some (.string (V2 k)) := by simp
            have y2 : (wr.alloc (.cells #[.string (P2 k), .string (V2 k), .slice a1 n1 s1, .slice a2' n2 s2, .bool (B2 k)] 37)).cell? ⟨wr.heap.size, 2, none⟩ = some (.slice a1 n1 s1) := by simp
            have y3 : (wr.alloc (.cells #[.string (P2 k), .string (V2 k), .slice a1 n1 s1, .slice a2' n2 s2, .bool (B2 k)] 37)).cell? ⟨wr.heap.size, 3, none⟩ = some (.slice a2' n2 s2) := by simp
            have y4 : (wr.alloc (.cells #[.string (P2 k), .string (V2 k), .slice a1 n1 s1, .slice a2' n2 s2, .bool (B2 k)] 37)).cell? ⟨wr.heap.size, 4, none⟩ = some (.bool (B2 k)) := by simp
            have hO2 := Lib.hid (hO.out.below hba)
            have hB2 := below_step hBr hba
            obtain ⟨wb, hW⟩ : ∃ W, wr.alloc (.cells #[.string (P2 k), .string (V2 k), .slice a1 n1 s1, .slice a2' n2 s2, .bool (B2 k)] 37) = W := ⟨_, rfl⟩
            have hhb := hhas _ hba
            rw [hW] at y0 y1 y2 y3 y4 hO2 hB2 hhb
            replace hhb := Lib.hid hhb
            clear hba hcell e1 e2 hpk hhas hO hsk
            go_wp2_with fail
            refine hhb.out.mono ?_
            rintro e w6 ⟨rfl, hb⟩
            have hO6 := Lib.hid (hO2.out.below hb)
            have hB6 := below_step hB2 hb
            replace y0 := Below.cell_some hb y0
            replace y1 := Below.cell_some hb y1
            clear y2 y3 y4 hO2 hB2 hhb hb hW
            cases X with
            | true =>
              have HN : Hid (mdTs (L ++ [(P2 k, V2 k)]) = (((enF en P2 V2 R2 K2 B2).take (k + 1)).filter fun e => hasK e q.data.toList).map (·.md)) := Lib.hid (by rw [hTk, mdTs_snocP]; rfl)
              clear hTk hT
              go_wp2_with (at_builtin; refine wpList_append_own _ rfl _ _ 23 rfl w4.heap.size 29 i0 (.agg #[.string ⟨#[]⟩, .string ⟨#[]⟩]) 2 32 Tryz.underlying23 hi hz0 hz1 hz2 rfl (by decide) _ _ _ rfl (hO6.out.alloc _) ⟨w6.heap.size, 0, none⟩ 1 1 [.string (P2 k), .string (V2 k)] rfl rfl (cell_two_new _ _ _ _) (by intro u hu; simp at hu; rcases hu with rfl | rfl <;> rfl) (by unfold maxLen; omega) (by omega) (by have := hB6.size; simp; omega) ?_; intro o' w7 hown4 hgrow4 _)
              go_roundw
              case rel =>
                refine ⟨k + 1, L ++ [(P2 k, V2 k)], by omega, by go_num, Lib.hid ?_, by simp; omega, HN, ?_⟩
                · rw [List.length_append, List.length_singleton, ← mdVs_snoc]
                  exact hown4
                · exact (hB6.alloc hB6.size _).grown hgrow4 (by have := hB6.size; simp; omega) (fun q hq => (hO6.out.lt q hq).1)
              case measure => simp [intOf]; omega
            | false =>
              have HN : Hid (mdTs L = (((enF en P2 V2 R2 K2 B2).take (k + 1)).filter fun e => hasK e q.data.toList).map (·.md)) := Lib.hid (by rw [hTk]; simp)
              clear hTk hT
              go_wp2_with fail
              go_roundw
              case rel => exact ⟨k + 1, L, by omega, by go_num, hO6, by omega, HN, hB6⟩
              case measure => simp [intOf]; omega
          · obtain rfl : k = en := by omega
            have hmd : mdTs L = sel.filter (selHas l q.data.toList) := by
              rw [hT.out, List.take_of_length_le (by rw [enF_length]; exact Nat.le_refl _), ← HEQ.out]
              exact sel_has (fun m hm => (HMD.out m hm).1)
            have hkn : ¬ (k : Int) < (k : Int) := by omega
            have hL19 : L.length ≤ 19 := by
              have h1 := congrArg List.length hmd
              rw [mdTs_length] at h1
              have := HF19.out
              omega
            have hso := sortStable_calls w4 wr w4.heap.size _ L hBr (Nat.le_refl _) hO.out hL19
            have hzr := hz.below hBr
            have HZ := Lib.hid hzr
            have hBw := below_step hB hBr
            have HNE : Hid (∀ m ∈ mdTs L, m.1 ≠ []) := Lib.hid (fun m hm => by
              rw [hmd] at hm
              obtain ⟨h1, h2⟩ := HMD.out m (List.mem_filter.1 hm).1
              have h3 := HRI.out _ h2
              rw [h1] at h3
              exact h3)
            have HMDL := Lib.hid hmd
            replace hso := Lib.hid hso
            clear hmd hT hO hzr hlt
            go_wp2_with fail
            refine hso.out.mono ?_
            rintro e w7 ⟨rfl, hma, hb7⟩
            have hB7 := hB.trans (hb7.mono hB.size)
            have hzs := hz.below hb7
            obtain ⟨a7, n7, c7, P7, V7, e7, hst, _, _, hc7⟩ := hma
            injection e7 with e71 e72 e73
            subst e71 e72 e73
            have hl7 : no = L.length := by
              have h1 := congrArg List.length hst
              rw [mdF_length] at h1
              rw [← h1]
              have h2 := (stable_perm L).2.1.length_eq
              rw [mdTs_length] at h2
              exact h2
            clear hso hb7
            by_cases hn0 : no = 0
            · subst hn0
              have hL0 : L = [] := List.eq_nil_of_length_eq_zero hl7.symm
              have HF : Hid (ofErr l sel q.data.toList = (5, -1)) := Lib.hid (by rw [HF2.out, ← HMDL.out, hL0]; rfl)
              have HM : Hid (ofM l sel q.data.toList = ([], [])) := Lib.hid (by rw [HOM.out, HF.out, if_neg (by decide)])
              obtain ⟨z0, z1, zf⟩ := id hzs
              have g5 := (HE.out _ hB7).errs.var 5 hks.2.2.1
              have hgl := lt_of_cell ((HE.out w (Below.refl _ _)).errs.var 5 hks.2.2.1)
              simp only [errG] at g5 hgl
              have hn3 : (0 : Nat) ≠ w.heap.size := by omega
              have hn4 : w.heap.size ≠ (0 : Nat) := by omega
              clear hl7 hst hc7 hL0
              go_wp2_with fail
              go_region
              all_goals
                go_wp2_with fail
                refine bodyPost_ret (v := .tuple #[.agg #[.string ⟨#[]⟩, .string ⟨#[]⟩], (.iface 371 (.pointer (some (A 5))))]) (by simp [results, Tryz.results31, go_sem, *]) rfl ?_
                rw [HM.out, HF.out]
                exact ⟨⟨_, rfl, .inr (.inl ⟨by decide, rfl, (errV_pos A (by decide)).symm⟩)⟩, (hB7.drew.setCell (p := ⟨w.heap.size, 0, none⟩) (Nat.le_refl _) _).setCell (p := ⟨w.heap.size, 1, none⟩) (Nat.le_refl _) _⟩
            · have hn0' : ¬ ((no : Nat) : Int) = 0 := by omega
              have hn1 : (0 : Int) < (no : Int) := by omega
              have hn2 : (((no : Nat) : Int) == 0) = false := beq_eq_false_iff_ne.2 hn0'
              obtain ⟨b8, o8, ea8, d0, d1⟩ := hc7 0 (by omega)
              simp only [Nat.zero_mul, Nat.add_zero] at d0 d1
              subst ea8
              have hbest : ((P7 0).data.toList, (V7 0).data.toList) = bestM (mdTs L) := by
                cases hL : L with
                | nil => rw [hL] at hl7; exact absurd hl7 hn0
                | cons x r =>
                  have h1 := stable_head x r (HNE.out (tBM x) (by rw [hL]; unfold mdTs tBM; simp))
                  rw [← hL, hst, List.head?_eq_getElem?, mdF_get _ _ _ 0 (by omega)] at h1
                  rw [← hL]
                  exact Option.some.inj h1
              have HF : Hid (ofErr l sel q.data.toList = (0, -1)) := Lib.hid (by
                rw [HF2.out, ← HMDL.out, if_neg (fun e => ?_)]
                have := congrArg List.length e
                rw [mdTs_length] at this
                exact hn0 (hl7.trans this))
              have HM : Hid (ofM l sel q.data.toList = ((P7 0).data.toList, (V7 0).data.toList)) := Lib.hid (by rw [HOM.out, HF.out, if_pos rfl, ← HMDL.out, hbest])
              obtain ⟨z0, z1, zf⟩ := id hzs
              clear hl7 hst hc7 hbest hn0
              go_wp2_with fail
              refine bodyPost_ret (v := .tuple #[.agg #[.string (P7 0), .string (V7 0)], .nilIface]) (by simp [results, Tryz.results31, go_sem, *]) rfl ?_
              rw [HM.out, HF.out]
              exact ⟨⟨_, rfl, .inl ⟨rfl, rfl, rfl⟩⟩, (hB7.setCell (p := ⟨w.heap.size, 0, none⟩) (Nat.le_refl _) _).setCell (p := ⟨w.heap.size, 1, none⟩) (Nat.le_refl _) _⟩
      · have HF : Hid (ofErr l sel q.data.toList = rootsErr l sel) := Lib.hid (by rw [HF1.out]; unfold orE; rw [if_pos h5])
        have HFA := Lib.hid hf4
        obtain rfl := hn4 h5
        clear hf4 ho4 hn4 HF1
        replace h5 := Lib.hid h5
        have HM : Hid (ofM l sel q.data.toList = ([], [])) := Lib.hid (by rw [HOM.out, HF.out, if_neg (by simpa using h5.out)])
        obtain ⟨z0, z1, zf⟩ := id hz
        go_wp2_with fail
        refine bodyPost_ret (v := .tuple #[.agg #[.string ⟨#[]⟩, .string ⟨#[]⟩], (.iface ty (.pointer qq))]) (by simp [results, Tryz.results31, go_sem, *]) rfl ?_
        rw [HM.out, HF.out]
        exact ⟨⟨_, rfl, HFA.out.mdBox hz _ _⟩, (hB.setCell (p := ⟨w.heap.size, 0, none⟩) (Nat.le_refl _) _).setCell (p := ⟨w.heap.size, 1, none⟩) (Nat.le_refl _) _⟩
    · skip
      rw [if_pos ⟨by decide, by decide⟩] at hF0
      rw [errV_pos A (by decide)] at hpa
      have HF := Lib.hid hF0
      clear hF0 hen
      go_wp2_with fail
      refine (hpa.out _ hB).mono ?_
      rintro e w3 ⟨rfl, hb⟩
      replace hz := hz.below hb
      replace hB := below_step hB hb
      clear hb hpa
      have hE3 := HE.out _ hB
      have g4 := hE3.errs.var 4 hks.2.1
      simp only [errG] at g4
      obtain ⟨ca, ta, ha⟩ := hE3.errs.row 1 hE3.has.1
      obtain ⟨cb, tb, hbq⟩ := hE3.errs.row 4 hks.2.1
      have hAne : A 1 ≠ A 4 := fun e => absurd (hE3.errs.inj _ hE3.has.1 _ hks.2.1 e) (by decide)
      have hne := run_neq_ptr_other (P := Tryz.prog) w3 Tryz.underlying41 Tryz.underlying371 hi1 hcmp hj (by rw [hjs]; decide) hAne ha hbq
      have HM : Hid (ofM l sel q.data.toList = ([], [])) := Lib.hid (by rw [HOM.out, HF.out, if_neg (by decide)])
      obtain ⟨z0, z1, zf⟩ := id hz
      go_wp2_with fail
      refine bodyPost_ret (v := .tuple #[.agg #[.string ⟨#[]⟩, .string ⟨#[]⟩], (.iface 371 (.pointer (some (A 1))))]) (by simp [results, Tryz.results31, go_sem, *]) rfl ?_
      rw [HM.out, HF.out]
      exact ⟨⟨_, rfl, .inr (.inl ⟨by decide, rfl, (errV_pos A (by decide)).symm⟩)⟩, (hB.setCell (p := ⟨w.heap.size, 0, none⟩) (Nat.le_refl _) _).setCell (p := ⟨w.heap.size, 1, none⟩) (Nat.le_refl _) _⟩
    · skip
      rw [if_pos ⟨by decide, by decide⟩] at hF0
      rw [errV_pos A (by decide)] at hpa
      have HF := Lib.hid hF0
      clear hF0 hen
      go_wp2_with fail
      refine (hpa.out _ hB).mono ?_
      rintro e w3 ⟨rfl, hb⟩
      replace hz := hz.below hb
      replace hB := below_step hB hb
      clear hb hpa
      have hE3 := HE.out _ hB
      have g4 := hE3.errs.var 4 hks.2.1
      simp only [errG] at g4
      obtain ⟨ca, ta, ha⟩ := hE3.errs.row 2 hE3.has.2
      obtain ⟨cb, tb, hbq⟩ := hE3.errs.row 4 hks.2.1
      have hAne : A 2 ≠ A 4 := fun e => absurd (hE3.errs.inj _ hE3.has.2 _ hks.2.1 e) (by decide)
      have hne := run_neq_ptr_other (P := Tryz.prog) w3 Tryz.underlying41 Tryz.underlying371 hi1 hcmp hj (by rw [hjs]; decide) hAne ha hbq
      have HM : Hid (ofM l sel q.data.toList = ([], [])) := Lib.hid (by rw [HOM.out, HF.out, if_neg (by decide)])
      obtain ⟨z0, z1, zf⟩ := id hz
      go_wp2_with fail
      refine bodyPost_ret (v := .tuple #[.agg #[.string ⟨#[]⟩, .string ⟨#[]⟩], (.iface 371 (.pointer (some (A 2))))]) (by simp [results, Tryz.results31, go_sem, *]) rfl ?_
      rw [HM.out, HF.out]
      exact ⟨⟨_, rfl, .inr (.inl ⟨by decide, rfl, (errV_pos A (by decide)).symm⟩)⟩, (hB.setCell (p := ⟨w.heap.size, 0, none⟩) (Nat.le_refl _) _).setCell (p := ⟨w.heap.size, 1, none⟩) (Nat.le_refl _) _⟩
    · rw [if_neg (fun h => h.2 rfl)] at hF0
      rw [errV_pos A (by decide)] at hpa
      have HF1 := Lib.hid hF0
      clear hF0
      go_wp2_with fail
      refine (hpa.out _ hB).mono ?_
      rintro e w3 ⟨rfl, hb⟩
      replace hz := hz.below hb
      replace hB := below_step hB hb
      clear hb hpa
      have hE3 := HE.out _ hB
      have g4 := hE3.errs.var 4 hks.2.1
      simp only [errG] at g4
      have hne := run_neq_ptr_same (P := Tryz.prog) w3 (A 4) Tryz.underlying41 Tryz.underlying371 hi1 hcmp hj
      clear hE3
      go_wp2_with fail
      refine (hen.out _ hB).mono ?_
      rintro e w4 ⟨⟨v4, ev4, rfl, hf4, ho4, hn4⟩, hb⟩
      replace hB := below_step hB hb
      replace hz := hz.below hb
      clear hb hen
      rcases fault_form hf4 with ⟨h5, rfl⟩ | ⟨h5, ty, qq, rfl⟩
      · have HF2 : Hid (ofErr l sel q.data.toList = if sel.filter (selHas l q.data.toList) = [] then (5, -1) else (0, -1)) := Lib.hid (by rw [HF1.out]; unfold orE; rw [if_neg (by simp [h5])])
        obtain ⟨ea, en, ec, P2, V2, R2, K2, B2, Rv2, Kv2, rfl, hEq, hin⟩ := ho4 h5
        have HIN := Lib.hid hin
        have HEQ := Lib.hid hEq
        have HMD := Lib.hid (roots_md h5)
        have HSK : Hid (∀ e ∈ enF en P2 V2 R2 K2 B2, e.packs.length ≤ 1000000 ∧ e.md.1.length ≤ 1000000) := Lib.hid (fun e he => by
          rw [← hEq] at he
          obtain ⟨m, hm, rfl⟩ := List.mem_map.1 he
          exact ⟨(HSH.out.packs _ (roots_md h5 m hm).2).1, (HSH.out.mds _ (roots_md h5 m hm).2).1⟩)
        have hen19 : en ≤ 1000 := by
          have := congrArg List.length hEq
          rw [enF_length, List.length_map] at this
          omega
        clear hin hEq hf4 ho4 hn4 HF1 h5
        go_wp2_with fail
        go_loopw [12, 44] (fun o i wr => ∃ (k : Nat) (L : List BM), k ≤ en ∧ i = .int .i64 k ∧ Hid (wr.ownsRow w4.heap.size 29 2 o L.length (mdVs L)) ∧ L.length ≤ k ∧ Hid (mdTs L = (((enF en P2 V2 R2 K2 B2).take k).filter fun e => hasK e q.data.toList).map (·.md)) ∧ Below w4.heap.size w4 wr) (fun _ i _ => en - (intOf i).toNat)
        case atStart => exact ⟨0, [], Nat.zero_le _, rfl, Lib.hid (World.ownsRow_nil _ _ _ _), Nat.le_refl _, Lib.hid rfl, Below.refl _ _⟩
        case round =>
          obtain ⟨k, L, hk, rfl, hO, hLk, hT, hBr⟩ := hrel
          obtain ⟨ao, no, co, rfl⟩ := own_form hO.out
          by_cases hlt : k < en
          · have hkn : (k : Int) < (en : Int) := by omega
            obtain ⟨b1, o1, ea', hcell⟩ := HIN.out.at_ k hlt
            obtain ⟨a1, n1, s1, a2', n2, s2, e1, e2⟩ := HIN.out.forms2 hlt
            rw [e1, e2] at hcell
            obtain ⟨c0, c1, c2, c3, c4⟩ := hcell.below hBr
            subst ea'
            have hba := below_alloc wr (.cells #[.string (P2 k), .string (V2 k), .slice a1 n1 s1, .slice a2' n2 s2, .bool (B2 k)] 37)
            have hpk := HIN.out.packs k hlt
            rw [e2] at hpk
            have hsk := HSK.out (enAt (enF en P2 V2 R2 K2 B2) k) (enAt_mem (by rw [enF_length]; exact hlt))
            rw [enAt_enF hlt] at hsk
            replace hsk : (K2 k).length ≤ 1000000 ∧ (P2 k).size ≤ 1000000 := by rw [size_eq]; exact hsk
            have hhas := fun W hb => pkgHas_calls (P2 k) (V2 k) a1 n1 s1 (.slice a2' n2 s2) (B2 k) (R2 k) (K2 k) q W (hpk.below (below_step hBr hb)) hsk.1 hsk.2
            have hTk : (((enF en P2 V2 R2 K2 B2).take (k + 1)).filter fun e => hasK e q.data.toList).map (·.md) = mdTs L ++ (if hasK ⟨((P2 k).data.toList, (V2 k).data.toList), R2 k, K2 k, B2 k⟩ q.data.toList then [((P2 k).data.toList, (V2 k).data.toList)] else []) := by
              rw [List.take_add_one, enF_get _ _ _ _ _ _ k hlt, List.filter_append, List.map_append, hT.out]
              congr 1
              show List.map _ (List.filter _ [_]) = _
              rw [List.filter_cons, List.filter_nil]
              split <;> rfl
            generalize hasK ⟨((P2 k).data.toList, (V2 k).data.toList), R2 k, K2 k, B2 k⟩ q.data.toList = X at hhas hTk
            have y0 : (wr.alloc (.cells #[.string (P2 k), .string (V2 k), .slice a1 n1 s1, .slice a2' n2 s2, .bool (B2 k)] 37)).cell? ⟨wr.heap.size, 0, none⟩ = some (.string (P2 k)) := by simp
            have y1 : (wr.alloc (.cells #[.string (P2 k), .string (V2 k), .slice a1 n1 s1, .slice a2' n2 s2, .bool (B2 k)] 37)).cell? ⟨wr.heap.size, 1, none⟩ = some (.string (V2 k)) := by simp
            have y2 : (wr.alloc (.cells #[.string (P2 k), .string (V2 k), .slice a1 n1 s1, .slice a2' n2 s2, .bool (B2 k)] 37)).cell? ⟨wr.heap.size, 2, none⟩ = some (.slice a1 n1 s1) := by simp
            have y3 : (wr.alloc (.cells #[.string (P2 k), .string (V2 k), .slice a1 n1 s1, .slice a2' n2 s2, .bool (B2 k)] 37)).cell? ⟨wr.heap.size, 3, none⟩ = some (.slice a2' n2 s2) := by simp
            have y4 : (wr.alloc (.cells #[.string (P2 k), .string (V2 k), .slice a1 n1 s1, .slice a2' n2 s2, .bool (B2 k)] 37)).cell? ⟨wr.heap.size, 4, none⟩ = some (.bool (B2 k)) := by simp
            have hO2 := Lib.hid (hO.out.below hba)
            have hB2 := below_step hBr hba
            obtain ⟨wb, hW⟩ : ∃ W, wr.alloc (.cells #[.string (P2 k), .string (V2 k), .slice a1 n1 s1, .slice a2' n2 s2, .bool (B2 k)] 37) = W := ⟨_, rfl⟩
            have hhb := hhas _ hba
            rw [hW] at y0 y1 y2 y3 y4 hO2 hB2 hhb
            replace hhb := Lib.hid hhb
            clear hba hcell e1 e2 hpk hhas hO hsk
            go_wp2_with fail
            refine hhb.out.mono ?_
            rintro e w6 ⟨rfl, hb⟩
            have hO6 := Lib.hid (hO2.out.below hb)
            have hB6 := below_step hB2 hb
            replace y0 := Below.cell_some hb y0
            replace y1 := Below.cell_some hb y1
            clear y2 y3 y4 hO2 hB2 hhb hb hW
            cases X with
            | true =>
              have HN : Hid (mdTs (L ++ [(P2 k, V2 k)]) = (((enF en P2 V2 R2 K2 B2).take (k + 1)).filter fun e => hasK e q.data.toList).map (·.md)) := Lib.hid (by rw [hTk, mdTs_snocP]; rfl)
              clear hTk hT
              go_wp2_with (at_builtin; refine wpList_append_own _ rfl _ _ 23 rfl w4.heap.size 29 i0 (.agg #[.string ⟨#[]⟩, .string ⟨#[]⟩]) 2 32 Tryz.underlying23 hi hz0 hz1 hz2 rfl (by decide) _ _ _ rfl (hO6.out.alloc _) ⟨w6.heap.size, 0, none⟩ 1 1 [.string (P2 k), .string (V2 k)] rfl rfl (cell_two_new _ _ _ _) (by intro u hu; simp at hu; rcases hu with rfl | rfl <;> rfl) (by unfold maxLen; omega) (by omega) (by have := hB6.size; simp; omega) ?_; intro o' w7 hown4 hgrow4 _)
              go_roundw
              case rel =>
                refine ⟨k + 1, L ++ [(P2 k, V2 k)], by omega, by go_num, Lib.hid ?_, by simp; omega, HN, ?_⟩
                · rw [List.length_append, List.length_singleton, ← mdVs_snoc]
                  exact hown4
                · exact (hB6.alloc hB6.size _).grown hgrow4 (by have := hB6.size; simp; omega) (fun q hq => (hO6.out.lt q hq).1)
              case measure => simp [intOf]; omega
            | false =>
              have HN : Hid (mdTs L = (((enF en P2 V2 R2 K2 B2).take (k + 1)).filter fun e => hasK e q.data.toList).map (·.md)) := Lib.hid (by rw [hTk]; simp)
              clear hTk hT
              go_wp2_with fail
              go_roundw
              case rel => exact ⟨k + 1, L, by omega, by go_num, hO6, by omega, HN, hB6⟩
              case measure => simp [intOf]; omega
          · obtain rfl : k = en := by omega
            have hmd : mdTs L = sel.filter (selHas l q.data.toList) := by
              rw [hT.out, List.take_of_length_le (by rw [enF_length]; exact Nat.le_refl _), ← HEQ.out]
              exact sel_has (fun m hm => (HMD.out m hm).1)
            have hkn : ¬ (k : Int) < (k : Int) := by omega
            have hL19 : L.length ≤ 19 := by
              have h1 := congrArg List.length hmd
              rw [mdTs_length] at h1
              have := HF19.out
              omega
            have hso := sortStable_calls w4 wr w4.heap.size _ L hBr (Nat.le_refl _) hO.out hL19
            have hzr := hz.below hBr
            have HZ := Lib.hid hzr
            have hBw := below_step hB hBr
            have HNE : Hid (∀ m ∈ mdTs L, m.1 ≠ []) := Lib.hid (fun m hm => by
              rw [hmd] at hm
              obtain ⟨h1, h2⟩ := HMD.out m (List.mem_filter.1 hm).1
              have h3 := HRI.out _ h2
              rw [h1] at h3
              exact h3)
            have HMDL := Lib.hid hmd
            replace hso := Lib.hid hso
            clear hmd hT hO hzr hlt
            go_wp2_with fail
            refine hso.out.mono ?_
            rintro e w7 ⟨rfl, hma, hb7⟩
            have hB7 := hB.trans (hb7.mono hB.size)
            have hzs := hz.below hb7
            obtain ⟨a7, n7, c7, P7, V7, e7, hst, _, _, hc7⟩ := hma
            injection e7 with e71 e72 e73
            subst e71 e72 e73
            have hl7 : no = L.length := by
              have h1 := congrArg List.length hst
              rw [mdF_length] at h1
              rw [← h1]
              have h2 := (stable_perm L).2.1.length_eq
              rw [mdTs_length] at h2
              exact h2
            clear hso hb7
            by_cases hn0 : no = 0
            · subst hn0
              have hL0 : L = [] := List.eq_nil_of_length_eq_zero hl7.symm
              have HF : Hid (ofErr l sel q.data.toList = (5, -1)) := Lib.hid (by rw [HF2.out, ← HMDL.out, hL0]; rfl)
              have HM : Hid (ofM l sel q.data.toList = ([], [])) := Lib.hid (by rw [HOM.out, HF.out, if_neg (by decide)])
              obtain ⟨z0, z1, zf⟩ := id hzs
              have g5 := (HE.out _ hB7).errs.var 5 hks.2.2.1
              have hgl := lt_of_cell ((HE.out w (Below.refl _ _)).errs.var 5 hks.2.2.1)
              simp only [errG] at g5 hgl
              have hn3 : (0 : Nat) ≠ w.heap.size := by omega
              have hn4 : w.heap.size ≠ (0 : Nat) := by omega
              clear hl7 hst hc7 hL0
              go_wp2_with fail
              go_region
              all_goals
                go_wp2_with fail
                refine bodyPost_ret (v := .tuple #[.agg #[.string ⟨#[]⟩, .string ⟨#[]⟩], (.iface 371 (.pointer (some (A 5))))]) (by simp [results, Tryz.results31, go_sem, *]) rfl ?_
                rw [HM.out, HF.out]
                exact ⟨⟨_, rfl, .inr (.inl ⟨by decide, rfl, (errV_pos A (by decide)).symm⟩)⟩, (hB7.drew.setCell (p := ⟨w.heap.size, 0, none⟩) (Nat.le_refl _) _).setCell (p := ⟨w.heap.size, 1, none⟩) (Nat.le_refl _) _⟩
            · have hn0' : ¬ ((no : Nat) : Int) = 0 := by omega
              have hn1 : (0 : Int) < (no : Int) := by omega
              have hn2 : (((no : Nat) : Int) == 0) = false := beq_eq_false_iff_ne.2 hn0'
              obtain ⟨b8, o8, ea8, d0, d1⟩ := hc7 0 (by omega)
              simp only [Nat.zero_mul, Nat.add_zero] at d0 d1
              subst ea8
              have hbest : ((P7 0).data.toList, (V7 0).data.toList) = bestM (mdTs L) := by
                cases hL : L with
                | nil => rw [hL] at hl7; exact absurd hl7 hn0
                | cons x r =>
                  have h1 := stable_head x r (HNE.out (tBM x) (by rw [hL]; unfold mdTs tBM; simp))
                  rw [← hL, hst, List.head?_eq_getElem?, mdF_get _ _ _ 0 (by omega)] at h1
                  rw [← hL]
                  exact Option.some.inj h1
              have HF : Hid (ofErr l sel q.data.toList = (0, -1)) := Lib.hid (by
                rw [HF2.out, ← HMDL.out, if_neg (fun e => ?_)]
                have := congrArg List.length e
                rw [mdTs_length] at this
                exact hn0 (hl7.trans this))
              have HM : Hid (ofM l sel q.data.toList = ((P7 0).data.toList, (V7 0).data.toList)) := Lib.hid (by rw [HOM.out, HF.out, if_pos rfl, ← HMDL.out, hbest])
              obtain ⟨z0, z1, zf⟩ := id hzs
              clear hl7 hst hc7 hbest hn0
              go_wp2_with fail
              refine bodyPost_ret (v := .tuple #[.agg #[.string (P7 0), .string (V7 0)], .nilIface]) (by simp [results, Tryz.results31, go_sem, *]) rfl ?_
              rw [HM.out, HF.out]
              exact ⟨⟨_, rfl, .inl ⟨rfl, rfl, rfl⟩⟩, (hB7.setCell (p := ⟨w.heap.size, 0, none⟩) (Nat.le_refl _) _).setCell (p := ⟨w.heap.size, 1, none⟩) (Nat.le_refl _) _⟩
      · have HF : Hid (ofErr l sel q.data.toList = rootsErr l sel) := Lib.hid (by rw [HF1.out]; unfold orE; rw [if_pos h5])
        have HFA := Lib.hid hf4
        obtain rfl := hn4 h5
        clear hf4 ho4 hn4 HF1
        replace h5 := Lib.hid h5
        have HM : Hid (ofM l sel q.data.toList = ([], [])) := Lib.hid (by rw [HOM.out, HF.out, if_neg (by simpa using h5.out)])
        obtain ⟨z0, z1, zf⟩ := id hz
        go_wp2_with fail
        refine bodyPost_ret (v := .tuple #[.agg #[.string ⟨#[]⟩, .string ⟨#[]⟩], (.iface ty (.pointer qq))]) (by simp [results, Tryz.results31, go_sem, *]) rfl ?_
        rw [HM.out, HF.out]
        exact ⟨⟨_, rfl, HFA.out.mdBox hz _ _⟩, (hB.setCell (p := ⟨w.heap.size, 0, none⟩) (Nat.le_refl _) _).setCell (p := ⟨w.heap.size, 1, none⟩) (Nat.le_refl _) _⟩
  · have HF : Hid (ofErr l sel q.data.toList = idxErr l) := Lib.hid (by rw [hOE.out]; unfold orE; rw [if_pos h0])
    have HFA := Lib.hid hf
    clear hf hOE
    replace h0 := Lib.hid h0
    have HM : Hid (ofM l sel q.data.toList = ([], [])) := Lib.hid (by rw [HOM.out, HF.out, if_neg (by simpa using h0.out)])
    obtain ⟨z0, z1, zf⟩ := id hz
    go_wp2_with fail
    refine bodyPost_ret (v := .tuple #[.agg #[.string ⟨#[]⟩, .string ⟨#[]⟩], (.iface ty (.pointer qq))]) (by simp [results, Tryz.results31, go_sem, *]) rfl ?_
    rw [HM.out, HF.out]
    exact ⟨⟨_, rfl, HFA.out.mdBox hz _ _⟩, (hB.setCell (p := ⟨w.heap.size, 0, none⟩) (Nat.le_refl _) _).setCell (p := ⟨w.heap.size, 1, none⟩) (Nat.le_refl _) _⟩
theorem pkgOf_in (ks : List Nat) (A : Nat → Addr) (hks : IdxKs ks) (a : Option Addr) (n cap : Nat) (P V : Nat → ByteArray) (R : Nat → List Md) (K : Nat → List Str) (B : Nat → Bool) (Rv Kv : Nat → Value) (sv : Value) (sel : List Md) (q : ByteArray) (l : List En) (hle : enF n P V R K B = l) (w : World) (hE : EnvP ks A w) (h : EntsIn w a n cap P V R K B Rv Kv) (hs : ShortI l) (hr : ModsAt w sv sel) (hl : sel.length ≤ 19) (hq : q.size ≤ 1000000) :
    Calls Tryz.prog 31 #[.slice a n cap, sv, .string q] w fun e w' => (∃ ev, e = .returned (.tuple #[.agg #[.string ⟨(ofM l sel q.data.toList).1.toArray⟩, .string ⟨(ofM l sel q.data.toList).2.toArray⟩], ev]) ∧ FaultAt A w' ev (ofErr l sel q.data.toList)) ∧ Below w.heap.size w w' :=
  pkgOfM_in ks A hks a n cap P V R K B Rv Kv sv sel q l hle w hE h hs hr (by omega) (Nat.le_trans (List.length_filter_le _ _) hl) hq
end Go.Proofs.Pw

namespace Go.Proofs.Pw
open Go.RowKit Go.Sort
open Go.Lib hiding intOf
def qAx : ByteArray := ⟨#[97, 47, 120]⟩
def selP : List Md := [(sA.data.toList, v100.data.toList)]
theorem pkd_err : ofErr s3L selP qAx.data.toList = (0, -1) := by decide +kernel
theorem pkd_m : ofM s3L selP qAx.data.toList = (sA.data.toList, v100.data.toList) := by decide +kernel
theorem selP_in (w : World) : ModsAt (w.alloc (.cells #[.string sA, .string v100] 29)) (.slice (some ⟨w.heap.size, 0, none⟩) 1 1) selP := by
  have h0 := new_cell w [.string sA, .string v100] 29 rfl (c := 0) rfl
  have h1 := new_cell w [.string sA, .string v100] 29 rfl (c := 1) rfl
  refine ⟨some ⟨w.heap.size, 0, none⟩, 1, 1, fun _ => sA, fun _ => v100, rfl, rfl, Nat.le_refl _, by decide, fun i hi => ?_⟩
  obtain rfl : i = 0 := by omega
  exact ⟨w.heap.size, 0, rfl, h0, h1⟩
set_option maxHeartbeats 2000000 in
set_option maxRecDepth 100000 in
theorem packed_calls (ks : List Nat) (A : Nat → Addr) (hks : IdxKs ks) (w : World) (hE : EnvP ks A w) :
    Calls Tryz.prog 28 #[] w fun e w' => e = .returned (.bool true) ∧ Below w.heap.size w w' := by
  have hsm := fun W => small3_calls W
  have hB := s3W_below w
  have hba := below_alloc (s3W w) (.cells #[.string sA, .string v100] 29)
  have hB2 := below_step hB hba
  have hp := pkgOf_in ks A hks (some ⟨w.heap.size + 3, 0, none⟩) 4 4 s3P s3V s3R s3K smB (s3Rv w.heap.size) (s3Kv w.heap.size) (.slice (some ⟨(s3W w).heap.size, 0, none⟩) 1 1) selP qAx s3L rfl _ (hE.below hB2) ((s3W_in w).below hba) s3_short (selP_in (s3W w)) (by decide) (by decide)
  rw [pkd_err, pkd_m, show (⟨((sA.data.toList, v100.data.toList) : Md).1.toArray⟩ : ByteArray) = sA from bytes_eq.1 rfl, show (⟨((sA.data.toList, v100.data.toList) : Md).2.toArray⟩ : ByteArray) = v100 from bytes_eq.1 rfl] at hp
  obtain ⟨w1, hW1⟩ : ∃ W, s3W w = W := ⟨_, rfl⟩
  rw [hW1] at hp hB2
  have HS1 := Lib.hid hW1
  have q1 : (v100.toList == [118, 49, 46, 48, 46, 48]) = true := by decide +kernel
  unfold sA v100 qAx at hp
  unfold sA v100 at hB2
  unfold v100 at q1
  replace hsm := Lib.hid hsm
  replace hp := Lib.hid hp
  clear hE hB hba hW1
  go_enter Tryz.func28, Tryz.ntmps28
  go_wp2_with fail
  refine (hsm.out _).mono ?_
  rintro e w' ⟨rfl, hw'⟩
  rw [HS1.out] at hw'
  subst hw'
  go_wp2_with fail
  refine hp.out.mono ?_
  rintro e w2 ⟨⟨ev1, rfl, hf1⟩, hb⟩
  obtain rfl : ev1 = .nilIface := by
    rcases fault_form hf1 with ⟨_, h⟩ | ⟨h, _⟩
    · exact h
    · exact absurd rfl h
  replace hB2 := below_step hB2 hb
  clear hb hf1 hp
  go_wp2_with fail
  go_ret
  exact ⟨by simp, below_step hB2 (below_alloc w2 _)⟩
end Go.Proofs.Pw
