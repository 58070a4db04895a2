/- Pk: walks and plain laws, joined: RefLatest RefWho ErrLe. Conditions: at each theorem. -/
import Derived.Deep.RegionHeld2
import Derived.Test.YtkfnhchlfojomaaGreatDoorPfa
import Derived.Test.YtkfnhchlfojomaaGreatDoorPfb
import Derived.Test.YtkfnhchlfojomaaGreatDoorPfc
import Derived.Test.YtkfnhchlfojomaaGreatDoorPfd
import Derived.Test.YtkfnhchlfojomaaGreatDoorPfe
import Derived.Test.YtkfnhchlfojomaaGreatDoorPff
import Derived.Test.YtkfnhchlfojomaaGreatDoorPfg
import Derived.Test.YtkfnhchlfojomaaGreatDoorPfh
import Derived.Test.YtkfnhchlfojomaaGreatDoorPfi
import Derived.Test.YtkfnhchlfojomaaGreatDoorPfj
import Derived.Test.YtkfnhchlfojomaaGreatDoorPfk
import Derived.Test.YtkfnhchlfojomaaGreatDoorPfl
import Derived.Test.YtkfnhchlfojomaaGreatDoorPfm
import Derived.Test.YtkfnhchlfojomaaGreatDoorPfn
import Derived.Test.YtkfnhchlfojomaaGreatDoorPfo
import Derived.Test.YtkfnhchlfojomaaGreatDoorPfp
import Derived.Test.YtkfnhchlfojomaaGreatDoorPfq
import Derived.Test.YtkfnhchlfojomaaGreatDoorPfr
import Derived.Test.YtkfnhchlfojomaaGreatDoorPfs
import Derived.Test.YtkfnhchlfojomaaGreatDoorPft
import Derived.Test.YtkfnhchlfojomaaGreatDoorPfu
import Derived.Test.YtkfnhchlfojomaaGreatDoorPfv
import Derived.Test.YtkfnhchlfojomaaGreatDoorPfw
import Derived.Test.YtkfnhchlfojomaaGreatDoorPfx
import Derived.Test.YtkfnhchlfojomaaGreatDoorPfy
import Derived.Test.YtkfnhchlfojomaaGreatDoorPfz
import Derived.Test.YtkfnhchlfojomaaGreatDoorPfza
import Derived.Test.YtkfnhchlfojomaaGreatDoorPfzb
import Derived.Test.YtkfnhchlfojomaaGreatDoorPfzc
import Derived.Test.YtkfnhchlfojomaaGreatDoorPfze
import Derived.Test.YtkfnhchlfojomaaGreatDoorPka
import Derived.Test.YtkfnhchlfojomaaGreatDoorPkb
import Derived.Test.YtkfnhchlfojomaaGreatDoorPkc
import Derived.Test.YtkfnhchlfojomaaGreatDoorPkd
import Derived.Test.YtkfnhchlfojomaaGreatDoorPke
import Derived.Test.YtkfnhchlfojomaaGreatDoorPkf
import Derived.Test.YtkfnhchlfojomaaGreatDoorPkg
import Derived.Test.YtkfnhchlfojomaaGreatDoorPkh
import Derived.Test.YtkfnhchlfojomaaGreatDoorPki
import Derived.Test.YtkfnhchlfojomaaGreatDoorPkj

namespace Go.Proofs.Pw
open Go.RowKit
open Go.Lib hiding intOf
theorem latestOf_in (a : Option Addr) (n cap : Nat) (P V : Nat → ByteArray) (R : Nat → List Md) (K : Nat → List Str) (Bk : Nat → Bool) (Rv Kv : Nat → Value) (p : ByteArray) (w : World) (h : EntsIn w a n cap P V R K Bk Rv Kv) (hs : ShortI (enF n P V R K Bk)) :
    Calls Tryz.prog 123 #[.slice a n cap, .string p] w fun e w' => e = .returned (.string ⟨(latestL (enF n P V R K Bk) p.data.toList).toArray⟩) ∧ Below w.heap.size w w' := by
  have hn : n ≤ 1000000 := by have := hs.len; rwa [enF_length] at this
  have h1 := refVersOf_in a n cap P V R K Bk Rv Kv p w h hs
  have h2 := fun W hb v g => likedOf_in a n cap P V R K Bk Rv Kv p v (vsort (versL (enF n P V R K Bk) p.data.toList)) W (h.below hb) hn g (by
    have := versL_size (p := p.data.toList) hs
    exact Nat.le_trans (vsort_len _) this.1) (fun x hx => (versL_size (p := p.data.toList) hs).2 x ((vsort_mem _ _).1 hx).1)
  show Calls _ _ _ _ fun e w' => e = .returned (.string ⟨(lastS (likedL (enF n P V R K Bk) p.data.toList (vsort (versL (enF n P V R K Bk) p.data.toList)))).toArray⟩) ∧ Below w.heap.size w w'
  generalize vsort (versL (enF n P V R K Bk) p.data.toList) = VS at *
  generalize lastS (likedL (enF n P V R K Bk) p.data.toList VS) = LS at *
  replace h1 := Lib.hid h1
  replace h2 := Lib.hid h2
  clear h hs
  go_enter Tryz.func123, Tryz.ntmps123
  go_wp2_with fail
  refine h1.out.mono ?_
  rintro e w1 ⟨⟨v, rfl, hv⟩, hb⟩
  have h3 := h2.out w1 hb v hv
  obtain ⟨a1, n1, c1, _, rfl, _⟩ := id hv
  replace h3 := Lib.hid h3
  clear hv
  go_wp2_with fail
  refine h3.out.mono ?_
  rintro e w2 ⟨rfl, hb2⟩
  go_wp2_with fail
  go_ret
  exact ⟨rfl, below_step hb hb2⟩
end Go.Proofs.Pw

namespace Go.Proofs.Pw
open Go.RowKit
open Go.Lib hiding intOf
def lenIs (c : Nat) (m : Md) : Bool := decide (m.1.length = c)
theorem whoR_step (l : List En) (p : Str) : ∀ (c : Nat), 0 < c → whoR l p c = (whoL l p).filter (lenIs c) ++ whoR l p (c - 1)
  | 0, h => absurd h (Nat.lt_irrefl _)
  | _ + 1, _ => rfl
set_option maxHeartbeats 16000000 in
set_option maxRecDepth 100000 in
theorem refWho_in (a : Option Addr) (n cap : Nat) (P V : Nat → ByteArray) (R : Nat → List Md) (K : Nat → List Str) (B : Nat → Bool) (Rv Kv : Nat → Value) (q : ByteArray) (l : List En) (hle : enF n P V R K B = l) (w : World) (h : EntsIn w a n cap P V R K B Rv Kv) (hs : ShortI l) (hpl : ∀ e ∈ l, e.md.1.length ≤ 100) (_ : q.size ≤ 1000000) :
    Calls Tryz.prog 50 #[.slice a n cap, .string q] w fun e w' => (∃ v, e = .returned (.tuple #[v, fltV (idxErr l)]) ∧ ModsAt w' v (whoK l q.data.toList)) ∧ Below w.heap.size w w' := by
  obtain ⟨i0, hi, hz0, hz1, hz2⟩ := info_parts Tryz.infoMod
  have hn : n ≤ 1000000 := by have := hs.len; rwa [← hle, enF_length] at this
  have hB := below_alloc w (.cells #[.int .i64 0, .int .i64 0] 46)
  have hz := box2_alloc w (.int .i64 0) (.int .i64 0) 46
  have hif := fun (W : World) (hb : Below w.heap.size w W) => indexFault_in a n cap P V R K B Rv Kv W (h.below hb) (by rw [hle]; exact hs)
  have hfo := fun (p v : ByteArray) (W : World) (hb : Below w.heap.size w W) => findOf_in a n cap P V R K B Rv Kv p v W (h.below hb) hn
  have hpo := fun (W : World) (hb : Below w.heap.size w W) => pathsOf_in a n cap P V R K B Rv Kv W (h.below hb) (by rw [hle]; exact hs)
  have hlo := fun (p : ByteArray) (W : World) (hb : Below w.heap.size w W) => latestOf_in a n cap P V R K B Rv Kv p W (h.below hb) (by rw [hle]; exact hs)
  simp only [hle] at hif hfo hpo hlo
  have H := Lib.hid h
  have HAT : Hid (∀ j, j < n → enAt l j = ⟨((P j).data.toList, (V j).data.toList), R j, K j, B j⟩) := Lib.hid (fun j hj => by rw [← hle, enAt_enF hj])
  have HSK : Hid (∀ j, j < n → (K j).length ≤ 1000000 ∧ (P j).size ≤ 1000000 ∧ ∀ x ∈ K j, x.length ≤ 1000000) := Lib.hid (fun j hj => by rw [← hle] at hs; exact ⟨(hs.at_ hj).2.2.2.2.1, (hs.at_ hj).2.1, (hs.at_ hj).2.2.2.2.2⟩)
  have HLN : Hid (l.length = n) := Lib.hid (by rw [← hle, enF_length])
  have HPL : Hid ((pathsL (l.map (·.md.1))).length ≤ 1000000) := Lib.hid (by
    have h1 := insFold_lenP (l.map (·.md.1))
    rw [List.length_map] at h1
    exact Nat.le_trans h1 hs.len)
  have hOM : whoK l q.data.toList = if (idxErr l).1 = 0 then (whoL l q.data.toList).reverse else [] := rfl
  have hRI : (idxErr l).1 = 0 → RightI l := rightI_of
  have HLP := Lib.hid hpl
  have hIE : (idxErr l).1 = 0 → idxErr l = (0, -1) := fun h0 => by
    unfold idxErr at h0 ⊢
    split at h0
    · cases h0
    · rename_i h1
      rw [if_neg h1]
      have h2 := orE_zero.1 h0
      unfold orE
      rw [if_neg (by simp [h2.1])]
      exact firstE_none (firstE_zero h2.2)
  obtain ⟨F, hF⟩ : ∃ F, idxErr l = F := ⟨_, rfl⟩
  simp only [hF] at hif hOM hRI hIE ⊢
  obtain ⟨fc, fa⟩ := F
  unfold fltV at hif
  simp only at hif hOM hRI hIE
  have HOM := Lib.hid hOM
  have HRI := Lib.hid hRI
  have HIE := Lib.hid hIE
  replace hif := Lib.hid hif
  replace hfo := Lib.hid hfo
  replace hpo := Lib.hid hpo
  replace hlo := Lib.hid hlo
  clear h hs hF hle hpl hOM hRI hIE
  go_enter Tryz.func50, Tryz.ntmps50
  go_wp2_with fail
  generalize w.alloc (.cells #[.int .i64 0, .int .i64 0] 46) = w1 at *
  refine (hif.out _ hB).mono ?_
  rintro e w2 ⟨rfl, hb⟩
  have hba := below_alloc w2 (.cells #[.int .i64 (fc : Nat), .int .i64 fa] 46)
  have hx := box2_alloc w2 (.int .i64 (fc : Nat)) (.int .i64 fa) 46
  have hs2 : w.heap.size < w2.heap.size := Nat.lt_of_lt_of_le (lt_of_cell hz.c0) hb.size
  replace hb := below_step hb hba
  replace hz := hz.below hb
  replace hB := below_step hB hb
  clear hb hba hif
  obtain ⟨x0, x1, xf⟩ := id hx
  have nx1 : w.heap.size ≠ w2.heap.size := by omega
  have nx2 : w2.heap.size ≠ w.heap.size := by omega
  by_cases h0 : fc = 0
  · subst h0
    have HR := Lib.hid (HRI.out rfl)
    have HFA : Hid (fa = -1) := Lib.hid (by have := HIE.out rfl; injection this)
    have HW : Hid (whoK l q.data.toList = whoR l q.data.toList 100) := Lib.hid (by rw [HOM.out, if_pos rfl, whoR_all HR.out HLP.out])
    have HWL : Hid ((whoR l q.data.toList 100).length ≤ 5) := Lib.hid (by rw [whoR_all HR.out HLP.out, List.length_reverse]; exact whoL_len HR.out)
    clear HOM HRI HIE
    go_wp2_with fail
    generalize w2.alloc (.cells #[.int .i64 ((0 : Nat) : Int), .int .i64 fa] 46) = w3 at *
    refine (hpo.out _ hB).mono ?_
    rintro e w4 ⟨⟨v4, rfl, hs4⟩, hb⟩
    replace hz := hz.below hb
    replace hB := below_step hB hb
    obtain ⟨a5, m5, c5, L5, rfl, eL, hc5⟩ := strsAt_cells hs4
    have HEL := Lib.hid eL
    have hm5 : m5 ≤ 1000000 := by have := HPL.out; rwa [eL, lstF_length] at this
    have hlt0 : w.heap.size < w4.heap.size := lt_of_cell hz.c0
    replace hc5 := Lib.hid hc5
    clear hs4 hb hpo eL x0 x1 xf hx nx1 nx2 hs2
    go_wp2_with fail
    go_loopw [8, 9, 10, 11, 12] (fun o i _ _ _ wr => ∃ (c : Nat) (L : List BM), c ≤ 100 ∧ i = .int .i64 c ∧ Hid (wr.ownsRow w4.heap.size 29 2 o L.length (mdVs L)) ∧ Hid (mdTs L ++ whoR l q.data.toList c = whoR l q.data.toList 100) ∧ Below w4.heap.size w4 wr) (fun _ i _ _ _ _ => (intOf i).toNat)
    case atStart => exact ⟨100, [], Nat.le_refl _, rfl, Lib.hid (World.ownsRow_nil _ _ _ _), Lib.hid rfl, Below.refl _ _⟩
    case round =>
      obtain ⟨c, L, hc, rfl, hO, hT, hBr⟩ := hrel
      have hL5 : L.length ≤ 5 := by
        have h1 := congrArg List.length hT.out
        rw [List.length_append, mdTs_length] at h1
        have := HWL.out
        omega
      by_cases hc0 : 0 < c
      · have hci : (0 : Int) < (c : Int) := by omega
        go_wp2_with fail
        generalize hwq : wr = wq at *
        clear hwq
        go_loopw [8, 10, 11, 12] (fun o i _ _ wr => ∃ (j : Nat) (L2 : List BM), j ≤ m5 ∧ i = .int .i64 j ∧ Hid (wr.ownsRow w4.heap.size 29 2 o L2.length (mdVs L2)) ∧ L2.length ≤ 5 + j ∧ Hid (mdTs L2 = mdTs L ++ ((((lstF m5 L5).take j).map fun s => ((s, latestL l s) : Md)).filter (selHas l q.data.toList)).filter (lenIs c)) ∧ Below w4.heap.size w4 wr) (fun _ i _ _ _ => m5 - (intOf i).toNat)
        case atStart => exact ⟨0, L, Nat.zero_le _, rfl, hO, by omega, Lib.hid (by simp), hBr⟩
        case round =>
          obtain ⟨j, L2, hj, rfl, hO2, hL2, hT2, hB2⟩ := hrel
          obtain ⟨ao, no, co, rfl⟩ := own_form hO2.out
          have hBw := below_step hB hB2
          by_cases hlj : j < m5
          · have hkj : (j : Int) < (m5 : Int) := by omega
            obtain ⟨b1, o1, ea, c00⟩ := hc5.out w4 (Below.refl _ _) j hlj
            have c0 := Below.cell_some hB2 c00
            subst ea
            have hTk : ((((lstF m5 L5).take (j + 1)).map fun s => ((s, latestL l s) : Md)).filter (selHas l q.data.toList)).filter (lenIs c) = ((((lstF m5 L5).take j).map fun s => ((s, latestL l s) : Md)).filter (selHas l q.data.toList)).filter (lenIs c) ++ (if selHas l q.data.toList ((L5 j).data.toList, latestL l (L5 j).data.toList) && decide ((L5 j).data.toList.length = c) then [((L5 j).data.toList, latestL l (L5 j).data.toList)] else []) := by
              rw [List.take_add_one, lstF_get m5 L5 j hlj, List.map_append, List.filter_append, List.filter_append]
              congr 1
              show List.filter _ (List.filter _ [_]) = _
              rw [List.filter_cons, List.filter_nil]
              cases selHas l q.data.toList ((L5 j).data.toList, latestL l (L5 j).data.toList) with
              | false => rfl
              | true =>
                rw [if_pos rfl, List.filter_cons, List.filter_nil, Bool.true_and]
                rfl
            by_cases hlen : (L5 j).size = c
            · rw [show decide ((L5 j).data.toList.length = c) = true from decide_eq_true (by rw [← size_eq]; exact hlen), Bool.and_true] at hTk
              have hmem : (L5 j).data.toList ∈ pathsL (l.map (·.md.1)) := by rw [HEL.out]; exact lstF_mem'.2 ⟨j, hlj, rfl⟩
              obtain ⟨e0, he0, h1⟩ := List.mem_map.1 ((pathsL_mem _ _).1 hmem)
              have hlat := latest_in HR.out he0 rfl
              rw [h1] at hlat
              have hnf : ¬ findE l ((L5 j).data.toList, latestL l (L5 j).data.toList) < 0 := fun h2 => by
                obtain ⟨e, he, h3⟩ := hlat
                exact findE_lt.1 h2 e he h3
              obtain ⟨x, ex, hxx, _⟩ := findE_nat hnf
              rw [HLN.out] at hxx
              have hsel : selHas l q.data.toList ((L5 j).data.toList, latestL l (L5 j).data.toList) = decide (q.data.toList ∈ (K x).map (packP (P x).data.toList)) := by
                unfold selHas entOf
                rw [ex, Int.toNat_natCast, HAT.out x hxx]
                exact hasK_in _ _
              rw [hsel] at hTk
              obtain ⟨lb, hlb⟩ : ∃ y : ByteArray, y = ⟨(latestL l (L5 j).data.toList).toArray⟩ := ⟨_, rfl⟩
              have hlb2 : lb.data.toList = latestL l (L5 j).data.toList := by rw [hlb]
              have hl1 := fun W hb => hlo.out (L5 j) W hb
              simp only [← hlb] at hl1
              have hf1 := fun W hb => hfo.out (L5 j) lb W hb
              rw [hlb2, ex] at hf1
              rw [← hlb2] at hTk
              obtain ⟨a1, n1, s1, aK, nK, cK, e1, e2⟩ := H.out.forms2 hxx
              have hkl := HSK.out x hxx
              have hxn : ((x : Nat) : Int) < (n : Int) := by omega
              have hlz : (((L5 j).size : Int) != (c : Int)) = false := by rw [hlen]; simp
              clear hmem he0 h1 hlat hnf ex hsel hlb hlb2
              generalize L5 j = pb at *
              obtain ⟨HX, hHX0⟩ : ∃ X, decide (q.data.toList ∈ (K x).map (packP (P x).data.toList)) = X := ⟨_, rfl⟩
              rw [hHX0] at hTk
              have HHX := Lib.hid hHX0
              have HT2 := hT2
              clear hHX0
              have hHX : ∀ W v, StrsAt W v ((K x).map (packP (P x).data.toList)) → Calls Tryz.prog 31 #[.string q, v] W fun e w' => e = .returned (.bool HX) ∧ Below W.heap.size W w' := fun W v hv => by
                have h := inTexts_calls q v _ W hv (by rw [List.length_map]; exact hkl.1)
                rwa [HHX.out] at h
              have HC00 := Lib.hid c00
              have hbW := hB2.drew
              have HO3 := hO2
              replace hl1 := Lib.hid hl1
              replace hf1 := Lib.hid hf1
              replace hHX := Lib.hid hHX
              clear c00 hT2 hlen HHX
              go_wp2_with fail
              clear c0
              have hbA := (hB2.alloc hB2.size (.cells #[.string ⟨#[]⟩, .string ⟨#[]⟩] 29)).drew
              have hzA : Box2 (wr.alloc (.cells #[.string ⟨#[]⟩, .string ⟨#[]⟩] 29)).drew wr.heap.size (.string ⟨#[]⟩) (.string ⟨#[]⟩) := ⟨(box2_alloc wr (.string ⟨#[]⟩) (.string ⟨#[]⟩) 29).c0, (box2_alloc wr (.string ⟨#[]⟩) (.string ⟨#[]⟩) 29).c1, (box2_alloc wr (.string ⟨#[]⟩) (.string ⟨#[]⟩) 29).fr⟩
              have hoA := (HO3.out.alloc (.cells #[.string ⟨#[]⟩, .string ⟨#[]⟩] 29)).drew
              have HNE : Hid ((Value.slice ao no co).ownBlock ≠ some wr.heap.size) := Lib.hid (fun e => by have := (HO3.out.lt _ e).2; omega)
              have HSZ := Lib.hid hB2.size
              go_region_held2 (fun W => W.cell? ⟨b1, o1 + j, none⟩ = some (.string pb)) (first
                | with_reducible exact Below.cell_some hbW HC00.out
                | with_reducible exact Below.cell_some (Below.alloc hbW hbW.size _) HC00.out
                | with_reducible exact Below.cell_some hbA HC00.out
                | with_reducible exact Below.cell_some (below_sto2 hbW HSZ.out _ _) HC00.out) (first
                | (go_at_call 123; refine (hl1.out _ (below_step hB hbW)).mono ?_; rintro e w7 ⟨rfl, hb7⟩; replace hbW := below_step hbW hb7; have hO7 := ownsRow_kept HO3.out.drew hb7)
                | (go_at_call 123; refine (hl1.out _ (below_step hB hbA)).mono ?_; rintro e w7 ⟨rfl, hb7⟩; replace hbW := below_step hbA hb7; have hO7 := ownsRow_kept hoA hb7; have hcn := hzA.below hb7; have hc0 := hcn.c0; have hc1 := hcn.c1; have hfn := hcn.fr))
              all_goals
                first
                  | (fail_if_success (have hq := hcn.c0)
                     have hyy := box2_alloc w7 (.string pb) (.string lb) 29
                     have hO8 := ownsRow_kept hO7 (below_alloc w7 (.cells #[.string pb, .string lb] 29))
                     have hB8 := below_step hbW (below_alloc w7 (.cells #[.string pb, .string lb] 29))
                     skip)
                  | (have hyy := hcn.sto (.string pb) (.string lb)
                     have hO8 := ownsRow_set (ownsRow_set hO7 HNE.out (.string pb) (j := 0)) HNE.out (.string lb) (j := 1)
                     have hB8 := below_sto2 hbW HSZ.out (.string pb) (.string lb)
                     have hmark := hcn.c0)
                replace hO8 := Lib.hid hO8
                obtain ⟨y0, y1, yf⟩ := id hyy
                clear hbW hO7 hb7 hyy hbA hzA hoA
                go_wp2_with fail
                refine (hf1.out _ (below_step hB hB8)).mono ?_
                rintro e w9 ⟨rfl, hb⟩
                replace hO8 := Lib.hid (hO8.out.below hb)
                replace hB8 := below_step hB8 hb
                replace y0 := Below.cell_some hb y0
                replace y1 := Below.cell_some hb y1
                obtain ⟨b3, o3, ea3, hcell⟩ := (H.out.below (below_step hB hB8)).at_ x hxx
                have hpk := (H.out.below (below_step hB hB8)).packs x hxx
                rw [e1, e2] at hcell
                rw [e2] at hpk
                obtain ⟨d0, d1, d2, d3, d4⟩ := hcell
                subst ea3
                have hpp := refPacks_calls (P x) (V x) a1 n1 s1 (.slice aK nK cK) (B x) (K x) w9 hpk hkl.1 hkl.2.1 hkl.2.2
                replace hpp := Lib.hid hpp
                clear hb hpk e1 e2
                go_wp2_with fail
                refine hpp.out.mono ?_
                rintro e w10 ⟨⟨v10, rfl, hs10⟩, hb⟩
                replace hO8 := Lib.hid (hO8.out.below hb)
                replace hB8 := below_step hB8 hb
                replace y0 := Below.cell_some hb y0
                replace y1 := Below.cell_some hb y1
                have hit := hHX.out w10 v10 hs10
                obtain ⟨a8, m8, c8, _, rfl, -⟩ := hs10
                replace hit := Lib.hid hit
                clear hb hpp d0 d1 d2 d3 d4
                go_wp2_with fail
                refine hit.out.mono ?_
                rintro e w11 ⟨rfl, hb⟩
                replace hO8 := Lib.hid (hO8.out.below hb)
                replace hB8 := below_step hB8 hb
                replace y0 := Below.cell_some hb y0
                replace y1 := Below.cell_some hb y1
                clear hb hit
                cases HX with
                | false =>
                  have HN : Hid (mdTs L2 = mdTs L ++ ((((lstF m5 L5).take (j + 1)).map fun s => ((s, latestL l s) : Md)).filter (selHas l q.data.toList)).filter (lenIs c)) := Lib.hid (by
                    rw [hTk, HT2.out]
                    simp)
                  clear hTk
                  go_wp2_with fail
                  go_roundw
                  case rel => exact ⟨j + 1, L2, by omega, by go_num, hO8, by omega, HN, hB8⟩
                  case measure => simp [intOf]; omega
                | true =>
                  have HN : Hid (mdTs (L2 ++ [(pb, lb)]) = mdTs L ++ ((((lstF m5 L5).take (j + 1)).map fun s => ((s, latestL l s) : Md)).filter (selHas l q.data.toList)).filter (lenIs c)) := Lib.hid (by
                    rw [hTk, mdTs_snocP, HT2.out, List.append_assoc]
                    rfl)
                  clear hTk
                  go_wp2_with (at_builtin; refine wpList_append_own _ rfl _ _ 23 rfl w4.heap.size 29 i0 (.agg #[.string ⟨#[]⟩, .string ⟨#[]⟩]) 2 32 Tryz.underlying23 hi hz0 hz1 hz2 rfl (by decide) _ _ _ rfl (hO8.out.alloc _) ⟨w11.heap.size, 0, none⟩ 1 1 [.string pb, .string lb] rfl rfl (cell_two_new _ _ _ _) (by intro u hu; simp at hu; rcases hu with rfl | rfl <;> rfl) (by unfold maxLen; omega) (by omega) (by have := hB8.size; simp; omega) ?_; intro o' w12 hown4 hgrow4 _)
                  go_roundw
                  case rel =>
                    refine ⟨j + 1, L2 ++ [(pb, lb)], by omega, by go_num, Lib.hid ?_, by simp; omega, HN, ?_⟩
                    · rw [List.length_append, List.length_singleton, ← mdVs_snoc]
                      exact hown4
                    · exact (hB8.alloc hB8.size _).grown hgrow4 (by have := hB8.size; simp; omega) (fun q hq => (hO8.out.lt q hq).1)
                  case measure => simp [intOf]; omega
            · have hlz : ((L5 j).size : Int) ≠ (c : Int) := by omega
              have HN : Hid (mdTs L2 = mdTs L ++ ((((lstF m5 L5).take (j + 1)).map fun s => ((s, latestL l s) : Md)).filter (selHas l q.data.toList)).filter (lenIs c)) := Lib.hid (by
                rw [hTk, show decide ((L5 j).data.toList.length = c) = false from decide_eq_false (by rw [← size_eq]; exact hlen), Bool.and_false, hT2.out]
                simp)
              have hlz2 : (((L5 j).size : Int) != (c : Int)) = true := bne_iff_ne.2 hlz
              clear hTk hT2 hlen
              go_wp2_with fail
              go_roundw
              case rel => exact ⟨j + 1, L2, by omega, by go_num, hO2, by omega, HN, hB2⟩
              case measure => simp [intOf]; omega
          · obtain rfl : m5 = j := by omega
            have hkj : ¬ (m5 : Int) < (m5 : Int) := by omega
            have HN : Hid (mdTs L2 ++ whoR l q.data.toList (c - 1) = whoR l q.data.toList 100) := Lib.hid (by
              rw [hT2.out, List.take_of_length_le (l := lstF m5 L5) (by rw [lstF_length]; exact Nat.le_refl _), ← HEL.out, ← hT.out, whoR_step _ _ c hc0, List.append_assoc]
              rfl)
            clear hlj hT2
            go_wp2_with fail
            go_roundw
            case rel => exact ⟨c - 1, L2, by omega, (by congr 1; omega), hO2, HN, hB2⟩
            case measure => simp [intOf]; omega
      · obtain rfl : c = 0 := by omega
        have HL : Hid (mdTs L = whoK l q.data.toList) := Lib.hid (by rw [HW.out, ← hT.out]; simp [whoR])
        have hfi := fun W => refFine_calls W
        unfold fltV at hfi
        obtain ⟨ao, no, co, rfl⟩ := own_form hO.out
        replace hfi := Lib.hid hfi
        clear hc0 hT
        go_wp2_with fail
        refine (hfi.out _).mono ?_
        rintro e w8 ⟨rfl, hb⟩
        have hB8 := below_step hB (below_step hBr hb)
        obtain ⟨z0, z1, zf⟩ := hz.below (below_step hBr hb)
        have hO8 := ownsRow_kept hO.out hb
        have hne := own_ne (b := w.heap.size) hO8 hlt0
        have HFIN : Hid (∀ u0 u1 : Value, ModsAt ((w8.setCell ⟨w.heap.size, 0, none⟩ u0).setCell ⟨w.heap.size, 1, none⟩ u1) (.slice ao no co) (whoK l q.data.toList)) := Lib.hid (fun u0 u1 => by
          have hM := modsAt_own (w := (w8.setCell ⟨w.heap.size, 0, none⟩ u0).setCell ⟨w.heap.size, 1, none⟩ u1) (ownsRow_set (ownsRow_set hO8 hne u0) hne u1)
          rw [HL.out] at hM
          exact hM)
        clear hb hfi hne hO8
        go_wp2_with fail
        refine bodyPost_ret (v := .tuple #[(.slice ao no co), fltV ((0 : Nat), -1)]) (by simp [results, Tryz.results50, fltV, go_sem, *]) rfl ?_
        rw [HFA.out]
        exact ⟨⟨_, rfl, HFIN.out _ _⟩, (hB8.setCell (p := ⟨w.heap.size, 0, none⟩) (Nat.le_refl _) _).setCell (p := ⟨w.heap.size, 1, none⟩) (Nat.le_refl _) _⟩
  · have hc9 : (0 : Int) < (fc : Int) := by omega
    have HM : Hid (whoK l q.data.toList = []) := Lib.hid (by rw [HOM.out, if_neg h0])
    obtain ⟨z0, z1, zf⟩ := id hz
    clear h0 HOM HRI HIE
    go_wp2_with fail
    generalize w2.alloc (.cells #[.int .i64 (fc : Nat), .int .i64 fa] 46) = w3 at *
    generalize w2.heap.size = bx at *
    go_region
    all_goals
      go_wp2_with fail
      refine bodyPost_ret (v := .tuple #[.slice none 0 0, fltV (fc, fa)]) (by simp [results, Tryz.results50, fltV, go_sem, *]) rfl ?_
      rw [HM.out]
      exact ⟨⟨_, rfl, ModsAt.nil _⟩, (hB.drew.setCell (p := ⟨w.heap.size, 0, none⟩) (Nat.le_refl _) _).setCell (p := ⟨w.heap.size, 1, none⟩) (Nat.le_refl _) _⟩
end Go.Proofs.Pw

namespace Go.Proofs.Pw
open Go.Lib hiding intOf
theorem rootsErr_le (l : List En) (roots : List Md) : (rootsErr l roots).1 ≤ 10 := by
  unfold rootsErr
  refine firstE_le (fun j => ?_) _
  unfold rootE
  split <;> decide
theorem startErr_le (l : List En) (roots : List Md) : (startErr l roots).1 ≤ 10 := orE_le (idxErr_le l) (rootsErr_le l roots)
end Go.Proofs.Pw
