/- Ge: walks and plain laws, joined: QueryE. Conditions: at each theorem. -/
import Derived.Test.YtmnojbbcaboagaaGreatDoorGezf

namespace Go.Proofs.Pw
open Go.RowKit Go.Sort
open Go.Lib hiding intOf
set_option maxHeartbeats 8000000 in
set_option maxRecDepth 100000 in
theorem qPickNE_in (ks : List Nat) (A : Nat → Addr) (hks : IdxKs ks) (a : Option Addr) (n cap : Nat) (P V : Nat → ByteArray) (R : Nat → List Md) (K : Nat → List Str) (Bk : Nat → Bool) (Rv Kv : Nat → Value) (p q now : ByteArray) (w : World) (hE : EnvP ks A w) (h : EntsIn w a n cap P V R K Bk Rv Kv) (hs : ShortI (enF n P V R K Bk)) (hq : q.size ≤ 1000000) (hqw : qWord q.data.toList = false) :
    Calls Tryz.prog 73 #[.slice a n cap, .string p, .string q, .string now] w fun e w' => (∃ ev, e = .returned (.tuple #[.string ⟨(pickS (enF n P V R K Bk) p.data.toList q.data.toList now.data.toList).toArray⟩, ev]) ∧ FaultAt A w' ev (pickErr (enF n P V R K Bk) p.data.toList q.data.toList now.data.toList) ∧ ((idxErr (enF n P V R K Bk)).1 = 0 → ev = errV A (pickErr (enF n P V R K Bk) p.data.toList q.data.toList now.data.toList).1)) ∧ Below w.heap.size w w' := by
  have hn : n ≤ 1000000 := by have := hs.len; rwa [enF_length] at this
  have hb0 := below_alloc w (.cells #[.string q] 9)
  have z0 : (w.alloc (.cells #[.string q] 9)).cell? ⟨w.heap.size, 0, none⟩ = some (.string q) := by simp
  have hE1 := fun (W : World) (hb : Below w.heap.size w W) => hE.below hb
  have H := Lib.hid (fun (W : World) (hb : Below w.heap.size w W) => h.below hb)
  have hqc := fun (W : World) (hb : Below w.heap.size w W) => qCheck_calls ks A q W (hE1 W hb) hq
  have hic := fun (W : World) (hb : Below w.heap.size w W) => idxCheck_in ks A hks a n cap P V R K Bk Rv Kv W (hE1 W hb) (H.out W hb) hs
  have hvs := fun (W : World) (hb : Below w.heap.size w W) => idxVersionsF_in ks A a n cap P V R K Bk Rv Kv p W (hE1 W hb) (H.out W hb) hs
  have hwo := fun (W : World) => qWord_calls q W
  have hbo := fun (W : World) => bound_calls q W
  have hvc := fun (W : World) (hb : Below w.heap.size w W) => verCheck_calls ks A q W (hE1 W hb) (by omega)
  have HLI := Lib.hid (fun (least : Bool) (sv : Value) (vs : List Str) (W : World) (hb : Below w.heap.size w W) (hv : StrsAt W sv vs) (h1 : vs.length ≤ 1000000) (h2 : ∀ x ∈ vs, x.length ≤ 1000000) => qLiked_in ks A hks.2.2.1 a n cap P V R K Bk Rv Kv p sv vs least W (hE1 W hb) (H.out W hb) hn hv h1 h2)
  have hsz := versL_size (p := p.data.toList) hs
  have hvl : (vsort (versL (enF n P V R K Bk) p.data.toList)).length ≤ 1000000 := Nat.le_trans (vsort_len _) hsz.1
  have hvz : ∀ x ∈ vsort (versL (enF n P V R K Bk) p.data.toList), x.length ≤ 1000000 := fun x hx => hsz.2 x ((vsort_mem _ _).1 hx).1
  have hPE : pickErr (enF n P V R K Bk) p.data.toList q.data.toList now.data.toList = if qErr q.data.toList ≠ 0 then (qErr q.data.toList, -1) else orE (idxErr (enF n P V R K Bk)) (if (pickF (enF n P V R K Bk) p.data.toList q.data.toList now.data.toList).isNone then (5, -1) else (0, -1)) := rfl
  have hPS : pickS (enF n P V R K Bk) p.data.toList q.data.toList now.data.toList = if (pickErr (enF n P V R K Bk) p.data.toList q.data.toList now.data.toList).1 = 0 then (pickF (enF n P V R K Bk) p.data.toList q.data.toList now.data.toList).getD [] else [] := rfl
  have hPF : pickF (enF n P V R K Bk) p.data.toList q.data.toList now.data.toList = match qBound q.data.toList with
    | some b => likedF (enF n P V R K Bk) p.data.toList ((vsort (versL (enF n P V R K Bk) p.data.toList)).filter fun s => !!withinF b.1 b.2 s) (decide (b.1.headD 0 = 62))
    | none => if verErr q.data.toList = 0 then (if q.data.toList ∈ vsort (versL (enF n P V R K Bk) p.data.toList) then some q.data.toList else none) else likedF (enF n P V R K Bk) p.data.toList ((vsort (versL (enF n P V R K Bk) p.data.toList)).filter fun s => !!verBegins s q.data.toList) false := by
    unfold pickF
    rw [hqw]
    rfl
  generalize pickErr (enF n P V R K Bk) p.data.toList q.data.toList now.data.toList = PE at hPE hPS ⊢
  generalize pickS (enF n P V R K Bk) p.data.toList q.data.toList now.data.toList = PS at hPS ⊢
  generalize pickF (enF n P V R K Bk) p.data.toList q.data.toList now.data.toList = PF at hPE hPS hPF
  rw [hqw] at hwo
  have HPE := Lib.hid hPE
  have HPS := Lib.hid hPS
  have HPF := Lib.hid hPF
  have HVL := Lib.hid (And.intro hvl hvz)
  replace hqc := Lib.hid hqc
  replace hic := Lib.hid hic
  replace hvs := Lib.hid hvs
  replace hwo := Lib.hid hwo
  replace hbo := Lib.hid hbo
  replace hvc := Lib.hid hvc
  replace hE1 := Lib.hid hE1
  clear hE h hs hsz hvl hvz hPE hPS hPF hqw
  go_enter Tryz.func73, Tryz.ntmps73
  go_wp2_with fail
  generalize w.alloc (.cells #[.string q] 9) = w0 at *
  refine (hqc.out _ hb0).mono ?_
  rintro e w1 ⟨rfl, hb⟩
  have hB := below_step hb0 hb
  replace z0 := Below.cell_some hb z0
  clear hb hb0 hqc
  by_cases hq0 : qErr q.data.toList = 0
  · rw [hq0, errV_zero]
    have HPE1 : Hid (PE = orE (idxErr (enF n P V R K Bk)) (if PF.isNone then (5, -1) else (0, -1))) := Lib.hid (by rw [HPE.out, if_neg (by simp [hq0])])
    clear HPE
    go_wp2_with fail
    refine (hic.out _ hB).mono ?_
    rintro e w2 ⟨⟨ev2, rfl, hf2⟩, hb⟩
    replace hB := below_step hB hb
    replace z0 := Below.cell_some hb z0
    clear hb hic
    rcases fault_form hf2 with ⟨h0, rfl⟩ | ⟨h0, ty, qq, rfl⟩
    · have HPE2 : Hid (PE = if PF.isNone then (5, -1) else (0, -1)) := Lib.hid (by rw [HPE1.out]; unfold orE; rw [if_neg (by simp [h0])])
      obtain ⟨EV, hEV⟩ : ∃ x, x = errV A (if PF.isNone then 5 else 0) := ⟨_, rfl⟩
      obtain ⟨SV, hSV⟩ : ∃ x : ByteArray, x = ⟨(PF.getD []).toArray⟩ := ⟨_, rfl⟩
      have HLV : Hid (likedV A PF = .tuple #[.string SV, EV]) := Lib.hid (by rw [likedV_is, hEV, hSV])
      have HFA : Hid (∀ W : World, FaultAt A W EV PE ∧ ((idxErr (enF n P V R K Bk)).1 = 0 → EV = errV A PE.1)) := Lib.hid (fun W => by
        rw [HPE2.out, hEV]
        cases PF <;> exact ⟨FaultAt.bare, fun _ => rfl⟩)
      have HPV : Hid ((⟨PS.toArray⟩ : ByteArray) = SV) := Lib.hid (by
        rw [HPS.out, HPE2.out, hSV]
        cases PF <;> rfl)
      have HEV := Lib.hid (And.intro hEV hSV)
      clear hEV hSV
      have hw2 : w.heap.size < w2.heap.size := lt_of_cell z0
      clear hf2 h0 HPE1 HPE2 HPS
      go_wp2_with fail
      refine (hvs.out _ hB).mono ?_
      rintro e w3 ⟨⟨v3, rfl, hF3⟩, hb⟩
      have hz3 : w.heap.size < w3.heap.size := Nat.lt_of_lt_of_le (lt_of_cell z0) hb.size
      have hs3 : w2.heap.size ≤ w3.heap.size := hb.size
      replace hB := below_step hB hb
      replace z0 := Below.cell_some hb z0
      clear hb hvs
      go_wp2_with fail
      refine (hwo.out _).mono ?_
      rintro e w4 ⟨rfl, hb⟩
      replace hB := below_step hB hb
      replace z0 := Below.cell_some hb z0
      replace hF3 := hF3.below hb
      have hs4 : w3.heap.size ≤ w4.heap.size := hb.size
      clear hb hwo
      replace hF3 := Lib.hid hF3
      have HRB : Hid (∀ k c, v3 = .slice (some ⟨k, 0, none⟩) (vsort (versL (enF n P V R K Bk) p.data.toList)).length c → w2.heap.size ≤ k ∧ k < w4.heap.size) := Lib.hid (fun k c e => by
        rcases hF3.out with ⟨h1, _⟩ | ⟨g, c', h1, h2, h3, _⟩
        · rw [h1] at e; cases e
        · rw [h1] at e
          injection e with e
          injection e with e
          injection e with e
          subst e
          exact ⟨h2, h3⟩)
      cases hqb : qBound q.data.toList with
      | some b =>
        have hbo1 := hbo.out
        rw [hqb] at hbo1
        have hpf := HPF.out
        rw [hqb] at hpf
        have hbl : b.2.length ≤ 1000000 := by
          have h := boundF_len (l := signs) (q := q.data.toList) (b := b) hqb
          rw [size_eq] at hq
          exact Nat.le_trans h hq
        have hsg := boundF_sign hqb
        obtain ⟨s1, s2⟩ := b
        simp only at hsg hpf hbl
        unfold boundV at hbo1
        simp only at hbo1
        clear hqb HPF hbo
        rcases hsg with rfl | rfl | rfl | rfl
        · skip
          have HPF1 := Lib.hid hpf
          have hli0 := HLI.out false
          replace hbo1 := Lib.hid hbo1
          clear hpf
          go_wp2_with fail
          refine (hbo1.out _).mono ?_
          rintro e w5 ⟨rfl, hb⟩
          have hba := below_alloc w5 (.cells #[.string ⟨#[60, 61]⟩] 9)
          have hba2 := below_alloc (w5.alloc (.cells #[.string ⟨#[60, 61]⟩] 9)) (.cells #[.string ⟨s2.toArray⟩] 9)
          have z13 : ((w5.alloc (.cells #[.string ⟨#[60, 61]⟩] 9)).alloc (.cells #[.string ⟨s2.toArray⟩] 9)).cell? ⟨w5.heap.size, 0, none⟩ = some (.string ⟨#[60, 61]⟩) := Below.cell_some hba2 (new_cell w5 [.string ⟨#[60, 61]⟩] 9 rfl (c := 0) rfl)
          have z14 : ((w5.alloc (.cells #[.string ⟨#[60, 61]⟩] 9)).alloc (.cells #[.string ⟨s2.toArray⟩] 9)).cell? ⟨w5.heap.size + 1, 0, none⟩ = some (.string ⟨s2.toArray⟩) := new_cell (w5.alloc (.cells #[.string ⟨#[60, 61]⟩] 9)) [.string ⟨s2.toArray⟩] 9 (World.size_alloc _ _) (c := 0) rfl
          have hs5 : w4.heap.size ≤ w5.heap.size := hb.size
          replace hb := below_step (below_step hb hba) hba2
          replace hB := below_step hB hb
          have hF7 := hF3.out.below hb
          have hs7 := hb.size
          obtain ⟨w7, hW⟩ : ∃ W, (w5.alloc (.cells #[.string ⟨#[60, 61]⟩] 9)).alloc (.cells #[.string ⟨s2.toArray⟩] 9) = W := ⟨_, rfl⟩
          rw [hW] at z13 z14 hB hF7 hs7
          have hdel := fun W (hb7 : Below w7.heap.size w7 W) => delK_calls 140 #[.pointer (some ⟨w5.heap.size, 0, none⟩), .pointer (some ⟨w5.heap.size + 1, 0, none⟩)] enters_pick1 (fun s => !withinF #[60, 61].toList s2 s) w2.heap.size v3 _ W (by have := hb7.size; omega) HVL.out.1 (hF7.below hb7) (fun k c e W' hW' s hs => by
            have hk := HRB.out k c e
            exact pick1_in ks A w5.heap.size (w5.heap.size + 1) ⟨#[60, 61]⟩ ⟨s2.toArray⟩ ⟨s.toArray⟩ W' (hE1.out W' (below_step hB hb7 |>.trans (hW'.below (by omega) (below_step hB hb7).size))) (by simp [ByteArray.size]; omega) (by have := HVL.out.2 s hs; simp [ByteArray.size]; omega) (hW'.cell (Below.cell_some hb7 z13) (fun e => by have e' : w5.heap.size = k := e; omega)) (hW'.cell (Below.cell_some hb7 z14) (fun e => by have e' : w5.heap.size + 1 = k := e; omega)))
          have HDL : Hid (((vsort (versL (enF n P V R K Bk) p.data.toList)).filter fun s => !!withinF #[60, 61].toList s2 s).length ≤ 1000000 ∧ ∀ x ∈ (vsort (versL (enF n P V R K Bk) p.data.toList)).filter (fun s => !!withinF #[60, 61].toList s2 s), x.length ≤ 1000000) := Lib.hid ⟨Nat.le_trans (List.length_filter_le _ _) HVL.out.1, fun x hx => HVL.out.2 x (List.mem_filter.1 hx).1⟩
          have hbW := (Below.refl w7.heap.size w7).drew
          have HB7 := Lib.hid hB
          have HZ13 := Lib.hid z13
          have HSG : Hid (∀ k c, v3 = .slice (some ⟨k, 0, none⟩) (vsort (versL (enF n P V R K Bk) p.data.toList)).length c → w5.heap.size ≠ k) := Lib.hid (fun k c e => by have := HRB.out k c e; omega)
          have hsg : w7.drew.cell? ⟨w5.heap.size, 0, none⟩ = some (.string ⟨#[60, 61]⟩) := z13
          replace hdel := Lib.hid hdel
          replace hli0 := Lib.hid hli0
          clear hb hba hba2 hbo1 hF3 hF7 z13 z14 hB z0
          go_wp2_with fail
          go_region_held2 (fun W => W.cell? ⟨w5.heap.size, 0, none⟩ = some (.string ⟨#[60, 61]⟩)) (exact hsg) (first
            | (go_at_call 139; refine (hdel.out _ hbW).mono ?_; rintro e w8 ⟨⟨v8, rfl, hs8⟩, hB8, hk8⟩; replace hsg := hk8 _ _ hsg (fun k c e => HSG.out k c e); have hBq := (below_step HB7.out hbW).trans (hB8.mono (by omega)); clear hk8 hB8)
            | (go_at_call 138; have hli := hli0.out _ _ _ hBq hs8 HDL.out.1 HDL.out.2; rw [show likedF (enF n P V R K Bk) p.data.toList ((vsort (versL (enF n P V R K Bk) p.data.toList)).filter fun s => !!withinF #[60, 61].toList s2 s) false = PF from HPF1.out.symm, HLV.out] at hli; refine hli.mono ?_; rintro e w9 ⟨rfl, hb9⟩; replace hBq := below_step hBq hb9; replace hsg := Below.cell_some hb9 hsg))
          all_goals
            go_wp2_with fail
            go_ret2
            rw [HPV.out]
            exact ⟨⟨_, rfl, HFA.out _⟩, hBq⟩
        · skip
          have HPF1 := Lib.hid hpf
          have hli0 := HLI.out true
          replace hbo1 := Lib.hid hbo1
          clear hpf
          go_wp2_with fail
          refine (hbo1.out _).mono ?_
          rintro e w5 ⟨rfl, hb⟩
          have hba := below_alloc w5 (.cells #[.string ⟨#[62, 61]⟩] 9)
          have hba2 := below_alloc (w5.alloc (.cells #[.string ⟨#[62, 61]⟩] 9)) (.cells #[.string ⟨s2.toArray⟩] 9)
          have z13 : ((w5.alloc (.cells #[.string ⟨#[62, 61]⟩] 9)).alloc (.cells #[.string ⟨s2.toArray⟩] 9)).cell? ⟨w5.heap.size, 0, none⟩ = some (.string ⟨#[62, 61]⟩) := Below.cell_some hba2 (new_cell w5 [.string ⟨#[62, 61]⟩] 9 rfl (c := 0) rfl)
          have z14 : ((w5.alloc (.cells #[.string ⟨#[62, 61]⟩] 9)).alloc (.cells #[.string ⟨s2.toArray⟩] 9)).cell? ⟨w5.heap.size + 1, 0, none⟩ = some (.string ⟨s2.toArray⟩) := new_cell (w5.alloc (.cells #[.string ⟨#[62, 61]⟩] 9)) [.string ⟨s2.toArray⟩] 9 (World.size_alloc _ _) (c := 0) rfl
          have hs5 : w4.heap.size ≤ w5.heap.size := hb.size
          replace hb := below_step (below_step hb hba) hba2
          replace hB := below_step hB hb
          have hF7 := hF3.out.below hb
          have hs7 := hb.size
          obtain ⟨w7, hW⟩ : ∃ W, (w5.alloc (.cells #[.string ⟨#[62, 61]⟩] 9)).alloc (.cells #[.string ⟨s2.toArray⟩] 9) = W := ⟨_, rfl⟩
          rw [hW] at z13 z14 hB hF7 hs7
          have hdel := fun W (hb7 : Below w7.heap.size w7 W) => delK_calls 140 #[.pointer (some ⟨w5.heap.size, 0, none⟩), .pointer (some ⟨w5.heap.size + 1, 0, none⟩)] enters_pick1 (fun s => !withinF #[62, 61].toList s2 s) w2.heap.size v3 _ W (by have := hb7.size; omega) HVL.out.1 (hF7.below hb7) (fun k c e W' hW' s hs => by
            have hk := HRB.out k c e
            exact pick1_in ks A w5.heap.size (w5.heap.size + 1) ⟨#[62, 61]⟩ ⟨s2.toArray⟩ ⟨s.toArray⟩ W' (hE1.out W' (below_step hB hb7 |>.trans (hW'.below (by omega) (below_step hB hb7).size))) (by simp [ByteArray.size]; omega) (by have := HVL.out.2 s hs; simp [ByteArray.size]; omega) (hW'.cell (Below.cell_some hb7 z13) (fun e => by have e' : w5.heap.size = k := e; omega)) (hW'.cell (Below.cell_some hb7 z14) (fun e => by have e' : w5.heap.size + 1 = k := e; omega)))
          have HDL : Hid (((vsort (versL (enF n P V R K Bk) p.data.toList)).filter fun s => !!withinF #[62, 61].toList s2 s).length ≤ 1000000 ∧ ∀ x ∈ (vsort (versL (enF n P V R K Bk) p.data.toList)).filter (fun s => !!withinF #[62, 61].toList s2 s), x.length ≤ 1000000) := Lib.hid ⟨Nat.le_trans (List.length_filter_le _ _) HVL.out.1, fun x hx => HVL.out.2 x (List.mem_filter.1 hx).1⟩
          have hbW := (Below.refl w7.heap.size w7).drew
          have HB7 := Lib.hid hB
          have HZ13 := Lib.hid z13
          have HSG : Hid (∀ k c, v3 = .slice (some ⟨k, 0, none⟩) (vsort (versL (enF n P V R K Bk) p.data.toList)).length c → w5.heap.size ≠ k) := Lib.hid (fun k c e => by have := HRB.out k c e; omega)
          have hsg : w7.drew.cell? ⟨w5.heap.size, 0, none⟩ = some (.string ⟨#[62, 61]⟩) := z13
          replace hdel := Lib.hid hdel
          replace hli0 := Lib.hid hli0
          clear hb hba hba2 hbo1 hF3 hF7 z13 z14 hB z0
          go_wp2_with fail
          go_region_held2 (fun W => W.cell? ⟨w5.heap.size, 0, none⟩ = some (.string ⟨#[62, 61]⟩)) (exact hsg) (first
            | (go_at_call 139; refine (hdel.out _ hbW).mono ?_; rintro e w8 ⟨⟨v8, rfl, hs8⟩, hB8, hk8⟩; replace hsg := hk8 _ _ hsg (fun k c e => HSG.out k c e); have hBq := (below_step HB7.out hbW).trans (hB8.mono (by omega)); clear hk8 hB8)
            | (go_at_call 138; have hli := hli0.out _ _ _ hBq hs8 HDL.out.1 HDL.out.2; rw [show likedF (enF n P V R K Bk) p.data.toList ((vsort (versL (enF n P V R K Bk) p.data.toList)).filter fun s => !!withinF #[62, 61].toList s2 s) true = PF from HPF1.out.symm, HLV.out] at hli; refine hli.mono ?_; rintro e w9 ⟨rfl, hb9⟩; replace hBq := below_step hBq hb9; replace hsg := Below.cell_some hb9 hsg))
          all_goals
            go_wp2_with fail
            go_ret2
            rw [HPV.out]
            exact ⟨⟨_, rfl, HFA.out _⟩, hBq⟩
        · skip
          have HPF1 := Lib.hid hpf
          have hli0 := HLI.out false
          replace hbo1 := Lib.hid hbo1
          clear hpf
          go_wp2_with fail
          refine (hbo1.out _).mono ?_
          rintro e w5 ⟨rfl, hb⟩
          have hba := below_alloc w5 (.cells #[.string ⟨#[60]⟩] 9)
          have hba2 := below_alloc (w5.alloc (.cells #[.string ⟨#[60]⟩] 9)) (.cells #[.string ⟨s2.toArray⟩] 9)
          have z13 : ((w5.alloc (.cells #[.string ⟨#[60]⟩] 9)).alloc (.cells #[.string ⟨s2.toArray⟩] 9)).cell? ⟨w5.heap.size, 0, none⟩ = some (.string ⟨#[60]⟩) := Below.cell_some hba2 (new_cell w5 [.string ⟨#[60]⟩] 9 rfl (c := 0) rfl)
          have z14 : ((w5.alloc (.cells #[.string ⟨#[60]⟩] 9)).alloc (.cells #[.string ⟨s2.toArray⟩] 9)).cell? ⟨w5.heap.size + 1, 0, none⟩ = some (.string ⟨s2.toArray⟩) := new_cell (w5.alloc (.cells #[.string ⟨#[60]⟩] 9)) [.string ⟨s2.toArray⟩] 9 (World.size_alloc _ _) (c := 0) rfl
          have hs5 : w4.heap.size ≤ w5.heap.size := hb.size
          replace hb := below_step (below_step hb hba) hba2
          replace hB := below_step hB hb
          have hF7 := hF3.out.below hb
          have hs7 := hb.size
          obtain ⟨w7, hW⟩ : ∃ W, (w5.alloc (.cells #[.string ⟨#[60]⟩] 9)).alloc (.cells #[.string ⟨s2.toArray⟩] 9) = W := ⟨_, rfl⟩
          rw [hW] at z13 z14 hB hF7 hs7
          have hdel := fun W (hb7 : Below w7.heap.size w7 W) => delK_calls 140 #[.pointer (some ⟨w5.heap.size, 0, none⟩), .pointer (some ⟨w5.heap.size + 1, 0, none⟩)] enters_pick1 (fun s => !withinF #[60].toList s2 s) w2.heap.size v3 _ W (by have := hb7.size; omega) HVL.out.1 (hF7.below hb7) (fun k c e W' hW' s hs => by
            have hk := HRB.out k c e
            exact pick1_in ks A w5.heap.size (w5.heap.size + 1) ⟨#[60]⟩ ⟨s2.toArray⟩ ⟨s.toArray⟩ W' (hE1.out W' (below_step hB hb7 |>.trans (hW'.below (by omega) (below_step hB hb7).size))) (by simp [ByteArray.size]; omega) (by have := HVL.out.2 s hs; simp [ByteArray.size]; omega) (hW'.cell (Below.cell_some hb7 z13) (fun e => by have e' : w5.heap.size = k := e; omega)) (hW'.cell (Below.cell_some hb7 z14) (fun e => by have e' : w5.heap.size + 1 = k := e; omega)))
          have HDL : Hid (((vsort (versL (enF n P V R K Bk) p.data.toList)).filter fun s => !!withinF #[60].toList s2 s).length ≤ 1000000 ∧ ∀ x ∈ (vsort (versL (enF n P V R K Bk) p.data.toList)).filter (fun s => !!withinF #[60].toList s2 s), x.length ≤ 1000000) := Lib.hid ⟨Nat.le_trans (List.length_filter_le _ _) HVL.out.1, fun x hx => HVL.out.2 x (List.mem_filter.1 hx).1⟩
          have hbW := (Below.refl w7.heap.size w7).drew
          have HB7 := Lib.hid hB
          have HZ13 := Lib.hid z13
          have HSG : Hid (∀ k c, v3 = .slice (some ⟨k, 0, none⟩) (vsort (versL (enF n P V R K Bk) p.data.toList)).length c → w5.heap.size ≠ k) := Lib.hid (fun k c e => by have := HRB.out k c e; omega)
          have hsg : w7.drew.cell? ⟨w5.heap.size, 0, none⟩ = some (.string ⟨#[60]⟩) := z13
          replace hdel := Lib.hid hdel
          replace hli0 := Lib.hid hli0
          clear hb hba hba2 hbo1 hF3 hF7 z13 z14 hB z0
          go_wp2_with fail
          go_region_held2 (fun W => W.cell? ⟨w5.heap.size, 0, none⟩ = some (.string ⟨#[60]⟩)) (exact hsg) (first
            | (go_at_call 139; refine (hdel.out _ hbW).mono ?_; rintro e w8 ⟨⟨v8, rfl, hs8⟩, hB8, hk8⟩; replace hsg := hk8 _ _ hsg (fun k c e => HSG.out k c e); have hBq := (below_step HB7.out hbW).trans (hB8.mono (by omega)); clear hk8 hB8)
            | (go_at_call 138; have hli := hli0.out _ _ _ hBq hs8 HDL.out.1 HDL.out.2; rw [show likedF (enF n P V R K Bk) p.data.toList ((vsort (versL (enF n P V R K Bk) p.data.toList)).filter fun s => !!withinF #[60].toList s2 s) false = PF from HPF1.out.symm, HLV.out] at hli; refine hli.mono ?_; rintro e w9 ⟨rfl, hb9⟩; replace hBq := below_step hBq hb9; replace hsg := Below.cell_some hb9 hsg))
          all_goals
            go_wp2_with fail
            go_ret2
            rw [HPV.out]
            exact ⟨⟨_, rfl, HFA.out _⟩, hBq⟩
        · skip
          have HPF1 := Lib.hid hpf
          have hli0 := HLI.out true
          replace hbo1 := Lib.hid hbo1
          clear hpf
          go_wp2_with fail
          refine (hbo1.out _).mono ?_
          rintro e w5 ⟨rfl, hb⟩
          have hba := below_alloc w5 (.cells #[.string ⟨#[62]⟩] 9)
          have hba2 := below_alloc (w5.alloc (.cells #[.string ⟨#[62]⟩] 9)) (.cells #[.string ⟨s2.toArray⟩] 9)
          have z13 : ((w5.alloc (.cells #[.string ⟨#[62]⟩] 9)).alloc (.cells #[.string ⟨s2.toArray⟩] 9)).cell? ⟨w5.heap.size, 0, none⟩ = some (.string ⟨#[62]⟩) := Below.cell_some hba2 (new_cell w5 [.string ⟨#[62]⟩] 9 rfl (c := 0) rfl)
          have z14 : ((w5.alloc (.cells #[.string ⟨#[62]⟩] 9)).alloc (.cells #[.string ⟨s2.toArray⟩] 9)).cell? ⟨w5.heap.size + 1, 0, none⟩ = some (.string ⟨s2.toArray⟩) := new_cell (w5.alloc (.cells #[.string ⟨#[62]⟩] 9)) [.string ⟨s2.toArray⟩] 9 (World.size_alloc _ _) (c := 0) rfl
          have hs5 : w4.heap.size ≤ w5.heap.size := hb.size
          replace hb := below_step (below_step hb hba) hba2
          replace hB := below_step hB hb
          have hF7 := hF3.out.below hb
          have hs7 := hb.size
          obtain ⟨w7, hW⟩ : ∃ W, (w5.alloc (.cells #[.string ⟨#[62]⟩] 9)).alloc (.cells #[.string ⟨s2.toArray⟩] 9) = W := ⟨_, rfl⟩
          rw [hW] at z13 z14 hB hF7 hs7
          have hdel := fun W (hb7 : Below w7.heap.size w7 W) => delK_calls 140 #[.pointer (some ⟨w5.heap.size, 0, none⟩), .pointer (some ⟨w5.heap.size + 1, 0, none⟩)] enters_pick1 (fun s => !withinF #[62].toList s2 s) w2.heap.size v3 _ W (by have := hb7.size; omega) HVL.out.1 (hF7.below hb7) (fun k c e W' hW' s hs => by
            have hk := HRB.out k c e
            exact pick1_in ks A w5.heap.size (w5.heap.size + 1) ⟨#[62]⟩ ⟨s2.toArray⟩ ⟨s.toArray⟩ W' (hE1.out W' (below_step hB hb7 |>.trans (hW'.below (by omega) (below_step hB hb7).size))) (by simp [ByteArray.size]; omega) (by have := HVL.out.2 s hs; simp [ByteArray.size]; omega) (hW'.cell (Below.cell_some hb7 z13) (fun e => by have e' : w5.heap.size = k := e; omega)) (hW'.cell (Below.cell_some hb7 z14) (fun e => by have e' : w5.heap.size + 1 = k := e; omega)))
          have HDL : Hid (((vsort (versL (enF n P V R K Bk) p.data.toList)).filter fun s => !!withinF #[62].toList s2 s).length ≤ 1000000 ∧ ∀ x ∈ (vsort (versL (enF n P V R K Bk) p.data.toList)).filter (fun s => !!withinF #[62].toList s2 s), x.length ≤ 1000000) := Lib.hid ⟨Nat.le_trans (List.length_filter_le _ _) HVL.out.1, fun x hx => HVL.out.2 x (List.mem_filter.1 hx).1⟩
          have hbW := (Below.refl w7.heap.size w7).drew
          have HB7 := Lib.hid hB
          have HZ13 := Lib.hid z13
          have HSG : Hid (∀ k c, v3 = .slice (some ⟨k, 0, none⟩) (vsort (versL (enF n P V R K Bk) p.data.toList)).length c → w5.heap.size ≠ k) := Lib.hid (fun k c e => by have := HRB.out k c e; omega)
          have hsg : w7.drew.cell? ⟨w5.heap.size, 0, none⟩ = some (.string ⟨#[62]⟩) := z13
          replace hdel := Lib.hid hdel
          replace hli0 := Lib.hid hli0
          clear hb hba hba2 hbo1 hF3 hF7 z13 z14 hB z0
          go_wp2_with fail
          go_region_held2 (fun W => W.cell? ⟨w5.heap.size, 0, none⟩ = some (.string ⟨#[62]⟩)) (exact hsg) (first
            | (go_at_call 139; refine (hdel.out _ hbW).mono ?_; rintro e w8 ⟨⟨v8, rfl, hs8⟩, hB8, hk8⟩; replace hsg := hk8 _ _ hsg (fun k c e => HSG.out k c e); have hBq := (below_step HB7.out hbW).trans (hB8.mono (by omega)); clear hk8 hB8)
            | (go_at_call 138; have hli := hli0.out _ _ _ hBq hs8 HDL.out.1 HDL.out.2; rw [show likedF (enF n P V R K Bk) p.data.toList ((vsort (versL (enF n P V R K Bk) p.data.toList)).filter fun s => !!withinF #[62].toList s2 s) true = PF from HPF1.out.symm, HLV.out] at hli; refine hli.mono ?_; rintro e w9 ⟨rfl, hb9⟩; replace hBq := below_step hBq hb9; replace hsg := Below.cell_some hb9 hsg))
          all_goals
            go_wp2_with fail
            go_ret2
            rw [HPV.out]
            exact ⟨⟨_, rfl, HFA.out _⟩, hBq⟩
      | none =>
        have hbo1 := hbo.out
        rw [hqb] at hbo1
        have hpf := HPF.out
        rw [hqb] at hpf
        simp only at hpf
        unfold boundV at hbo1
        simp only at hbo1
        have HPFN := Lib.hid hpf
        replace hbo1 := Lib.hid hbo1
        clear hqb HPF hbo hpf
        go_wp2_with fail
        refine (hbo1.out _).mono ?_
        rintro e w5 ⟨rfl, hb⟩
        have hba := below_alloc w5 (.cells #[.string ⟨#[]⟩] 9)
        have hba2 := below_alloc (w5.alloc (.cells #[.string ⟨#[]⟩] 9)) (.cells #[.string ⟨#[]⟩] 9)
        replace hb := below_step (below_step hb hba) hba2
        replace hB := below_step hB hb
        replace z0 := Below.cell_some hb z0
        have hF7 := Lib.hid (hF3.out.below hb)
        have hs7 := hb.size
        clear hb hba hba2 hbo1 hF3
        go_wp2_with fail
        generalize (w5.alloc (.cells #[.string ⟨#[]⟩] 9)).alloc (.cells #[.string ⟨#[]⟩] 9) = w7 at *
        refine (hvc.out _ hB).mono ?_
        rintro e w8 ⟨rfl, hb⟩
        replace hB := below_step hB hb
        replace z0 := Below.cell_some hb z0
        have hF8 := Lib.hid (hF7.out.below hb)
        have hs8 := hb.size
        clear hb hvc hF7
        by_cases hv0 : verErr q.data.toList = 0
        · rw [hv0, errV_zero]
          rw [if_pos hv0] at HPFN
          have hco := fun W (hv : StrsAt W v3 (vsort (versL (enF n P V R K Bk) p.data.toList))) => containsQ_calls v3 q _ W hv HVL.out.1
          have hc8 := hco w8 hF8.out.strs
          by_cases hin : q.data.toList ∈ vsort (versL (enF n P V R K Bk) p.data.toList)
          · rw [decide_eq_true hin] at hc8
            rw [if_pos hin] at HPFN
            replace hc8 := Lib.hid hc8
            clear hin hv0 hco
            go_wp2_with fail
            refine hc8.out.mono ?_
            rintro e w9 ⟨rfl, rfl⟩
            go_wp2_with fail
            go_ret2
            have h1 := HEV.out.1
            have h2 := HEV.out.2
            rw [HPFN.out] at h1 h2
            rw [HPV.out, h2]
            have h3 := HFA.out
            rw [h1] at h3
            exact ⟨⟨_, rfl, h3 _⟩, hB⟩
          · rw [decide_eq_false hin] at hc8
            rw [if_neg hin] at HPFN
            have g5 := (hE1.out _ hB).errs.var 5 hks.2.2.1
            simp only [errG] at g5
            replace hc8 := Lib.hid hc8
            clear hin hv0 hco
            go_wp2_with fail
            refine hc8.out.mono ?_
            rintro e w9 ⟨rfl, rfl⟩
            go_wp2_with fail
            have kqg5 := fun d os => cell_patch (d := d) (os := os) g5
            refine wp_region_quiet_patch (by kernel_rfl) (by kernel_rfl) ?_
            repeat (go_big_quiet_step (fail))
            refine wpQuiet_nil ?_
            intro _ hw'
            obtain ⟨⟨dq, osq⟩, hw''⟩ := hw'
            subst hw''
            clear kqg5
            have hb := below_patch w9 dq osq
            replace hB := below_step hB hb
            clear hb
            generalize patch w9 dq osq = w10 at hB ⊢
            go_wp2_with fail
            go_ret2
            have h1 := HEV.out.1
            have h2 := HEV.out.2
            rw [HPFN.out] at h1 h2
            rw [HPV.out, h2]
            have h3 := HFA.out
            rw [h1] at h3
            exact ⟨⟨_, rfl, h3 _⟩, hB⟩
        · rw [errV_pos A hv0]
          rw [if_neg hv0] at HPFN
          have hsf := fun W hb hv => HLI.out false W ((vsort (versL (enF n P V R K Bk) p.data.toList)).filter fun s => !!verBegins s q.data.toList) hb hv
          have hdel := delK_calls 143 #[.pointer (some ⟨w.heap.size, 0, none⟩)] enters_pick2 (fun s => !verBegins s q.data.toList) w2.heap.size v3 _ w8 (by omega) HVL.out.1 hF8.out (fun k c e W hW s hs => by
            have hk := HRB.out k c e
            exact pick2_in ks A w.heap.size q ⟨s.toArray⟩ W (hE1.out W (hB.trans (hW.below (by omega) hB.size))) hq (by have := HVL.out.2 s hs; simp [ByteArray.size]; omega) (hW.cell z0 (fun e => by have e' : w.heap.size = k := e; omega)))
          have hdl : ((vsort (versL (enF n P V R K Bk) p.data.toList)).filter fun s => !!verBegins s q.data.toList).length ≤ 1000000 ∧ ∀ x ∈ (vsort (versL (enF n P V R K Bk) p.data.toList)).filter (fun s => !!verBegins s q.data.toList), x.length ≤ 1000000 := ⟨Nat.le_trans (List.length_filter_le _ _) HVL.out.1, fun x hx => HVL.out.2 x (List.mem_filter.1 hx).1⟩
          have HDL := Lib.hid hdl
          replace hdel := Lib.hid hdel
          clear hv0 hdl hsf
          go_wp2_with fail
          refine hdel.out.mono ?_
          rintro e w9 ⟨⟨v9, rfl, hs9⟩, hB9, -⟩
          have hB10 := hB.trans (hB9.mono (by omega))
          have hli := HLI.out false v9 _ w9 hB10 hs9 HDL.out.1 HDL.out.2
          rw [← HPFN.out, HLV.out] at hli
          replace hli := Lib.hid hli
          clear hdel hs9 hB9
          go_wp2_with fail
          refine hli.out.mono ?_
          rintro e w10 ⟨rfl, hb⟩
          replace hB10 := below_step hB10 hb
          clear hb hli
          go_wp2_with fail
          go_ret2
          rw [HPV.out]
          exact ⟨⟨_, rfl, HFA.out _⟩, hB10⟩
    · have HV := Lib.hid hf2
      have H0 := Lib.hid h0
      have HPE2 : Hid (PE = idxErr (enF n P V R K Bk)) := Lib.hid (by rw [HPE1.out]; unfold orE; rw [if_pos h0])
      have HPS2 : Hid (PS = []) := Lib.hid (by rw [HPS.out, HPE2.out, if_neg h0])
      clear hf2 h0
      go_wp2_with fail
      go_ret2
      rw [HPS2.out, HPE2.out]
      exact ⟨⟨_, rfl, HV.out, fun h => absurd h H0.out⟩, hB⟩
  · have HPE2 : Hid (PE = (qErr q.data.toList, -1)) := Lib.hid (by rw [HPE.out, if_pos hq0])
    have HPS2 : Hid (PS = []) := Lib.hid (by rw [HPS.out, HPE2.out, if_neg hq0])
    have HFB : Hid (∀ W : World, FaultAt A W (errV A (qErr q.data.toList)) (qErr q.data.toList, -1)) := Lib.hid (fun W => FaultAt.bare)
    have HFE := Lib.hid (errV_pos A hq0)
    rw [errV_pos A hq0] at HFB
    rw [errV_pos A hq0]
    clear hq0
    go_wp2_with fail
    go_ret2
    rw [HPS2.out, HPE2.out]
    exact ⟨⟨_, rfl, HFB.out _, fun _ => HFE.out.symm⟩, hB⟩
set_option maxHeartbeats 8000000 in
set_option maxRecDepth 100000 in
theorem qPickWE_in (ks : List Nat) (A : Nat → Addr) (hks : IdxKs ks) (a : Option Addr) (n cap : Nat) (P V : Nat → ByteArray) (R : Nat → List Md) (K : Nat → List Str) (Bk : Nat → Bool) (Rv Kv : Nat → Value) (p q now : ByteArray) (w : World) (hE : EnvP ks A w) (h : EntsIn w a n cap P V R K Bk Rv Kv) (hs : ShortI (enF n P V R K Bk)) (hq : q.size ≤ 1000000) (hqw : qWord q.data.toList = true) (hnow : now.size ≤ 1000000) :
    Calls Tryz.prog 73 #[.slice a n cap, .string p, .string q, .string now] w fun e w' => (∃ ev, e = .returned (.tuple #[.string ⟨(pickS (enF n P V R K Bk) p.data.toList q.data.toList now.data.toList).toArray⟩, ev]) ∧ FaultAt A w' ev (pickErr (enF n P V R K Bk) p.data.toList q.data.toList now.data.toList) ∧ ((idxErr (enF n P V R K Bk)).1 = 0 → ev = errV A (pickErr (enF n P V R K Bk) p.data.toList q.data.toList now.data.toList).1)) ∧ Below w.heap.size w w' := by
  have hn : n ≤ 1000000 := by have := hs.len; rwa [enF_length] at this
  have hb0 := below_alloc w (.cells #[.string q] 9)
  have z0 : (w.alloc (.cells #[.string q] 9)).cell? ⟨w.heap.size, 0, none⟩ = some (.string q) := by simp
  have hE1 := fun (W : World) (hb : Below w.heap.size w W) => hE.below hb
  have H := Lib.hid (fun (W : World) (hb : Below w.heap.size w W) => h.below hb)
  have hqc := fun (W : World) (hb : Below w.heap.size w W) => qCheck_calls ks A q W (hE1 W hb) hq
  have hic := fun (W : World) (hb : Below w.heap.size w W) => idxCheck_in ks A hks a n cap P V R K Bk Rv Kv W (hE1 W hb) (H.out W hb) hs
  have hvs := fun (W : World) (hb : Below w.heap.size w W) => idxVersionsF_in ks A a n cap P V R K Bk Rv Kv p W (hE1 W hb) (H.out W hb) hs
  have hwo := fun (W : World) => qWord_calls q W
  have HNM := Lib.hid (fun (B : Nat) (hBB : w.heap.size ≤ B) (v : Value) (W : World) (hb : Below w.heap.size w W) (hBW : B ≤ W.heap.size) (hF : FreshS B W v (vsort (versL (enF n P V R K Bk) p.data.toList))) (h1 : (vsort (versL (enF n P V R K Bk) p.data.toList)).length ≤ 1000000) (h2 : ∀ x ∈ vsort (versL (enF n P V R K Bk) p.data.toList), x.length ≤ 1000000) => qNamed_in ks A hks.2.2.1 a n cap P V R K Bk Rv Kv p q now B v _ W hn hnow hBW (fun W' hW' => hE1 W' (hb.trans (hW'.mono hBB))) (fun W' hW' => H.out W' (hb.trans (hW'.mono hBB))) hF h1 h2)
  have hsz := versL_size (p := p.data.toList) hs
  have hvl : (vsort (versL (enF n P V R K Bk) p.data.toList)).length ≤ 1000000 := Nat.le_trans (vsort_len _) hsz.1
  have hvz : ∀ x ∈ vsort (versL (enF n P V R K Bk) p.data.toList), x.length ≤ 1000000 := fun x hx => hsz.2 x ((vsort_mem _ _).1 hx).1
  have hPE : pickErr (enF n P V R K Bk) p.data.toList q.data.toList now.data.toList = if qErr q.data.toList ≠ 0 then (qErr q.data.toList, -1) else orE (idxErr (enF n P V R K Bk)) (if (pickF (enF n P V R K Bk) p.data.toList q.data.toList now.data.toList).isNone then (5, -1) else (0, -1)) := rfl
  have hPS : pickS (enF n P V R K Bk) p.data.toList q.data.toList now.data.toList = if (pickErr (enF n P V R K Bk) p.data.toList q.data.toList now.data.toList).1 = 0 then (pickF (enF n P V R K Bk) p.data.toList q.data.toList now.data.toList).getD [] else [] := rfl
  have hPF : pickF (enF n P V R K Bk) p.data.toList q.data.toList now.data.toList = namedF (enF n P V R K Bk) p.data.toList q.data.toList now.data.toList (vsort (versL (enF n P V R K Bk) p.data.toList)) := by
    unfold pickF
    rw [if_pos hqw]
  generalize pickErr (enF n P V R K Bk) p.data.toList q.data.toList now.data.toList = PE at hPE hPS ⊢
  generalize pickS (enF n P V R K Bk) p.data.toList q.data.toList now.data.toList = PS at hPS ⊢
  generalize pickF (enF n P V R K Bk) p.data.toList q.data.toList now.data.toList = PF at hPE hPS hPF
  rw [hqw] at hwo
  have HPE := Lib.hid hPE
  have HPS := Lib.hid hPS
  have HPF := Lib.hid hPF
  have HVL := Lib.hid (And.intro hvl hvz)
  replace hqc := Lib.hid hqc
  replace hic := Lib.hid hic
  replace hvs := Lib.hid hvs
  replace hwo := Lib.hid hwo
  clear hE h hs hsz hvl hvz hPE hPS hPF hqw hE1
  go_enter Tryz.func73, Tryz.ntmps73
  go_wp2_with fail
  generalize w.alloc (.cells #[.string q] 9) = w0 at *
  refine (hqc.out _ hb0).mono ?_
  rintro e w1 ⟨rfl, hb⟩
  have hB := below_step hb0 hb
  replace z0 := Below.cell_some hb z0
  clear hb hb0 hqc
  by_cases hq0 : qErr q.data.toList = 0
  · rw [hq0, errV_zero]
    have HPE1 : Hid (PE = orE (idxErr (enF n P V R K Bk)) (if PF.isNone then (5, -1) else (0, -1))) := Lib.hid (by rw [HPE.out, if_neg (by simp [hq0])])
    clear HPE
    go_wp2_with fail
    refine (hic.out _ hB).mono ?_
    rintro e w2 ⟨⟨ev2, rfl, hf2⟩, hb⟩
    replace hB := below_step hB hb
    replace z0 := Below.cell_some hb z0
    clear hb hic
    rcases fault_form hf2 with ⟨h0, rfl⟩ | ⟨h0, ty, qq, rfl⟩
    · have HPE2 : Hid (PE = if PF.isNone then (5, -1) else (0, -1)) := Lib.hid (by rw [HPE1.out]; unfold orE; rw [if_neg (by simp [h0])])
      obtain ⟨EV, hEV⟩ : ∃ x, x = errV A (if PF.isNone then 5 else 0) := ⟨_, rfl⟩
      obtain ⟨SV, hSV⟩ : ∃ x : ByteArray, x = ⟨(PF.getD []).toArray⟩ := ⟨_, rfl⟩
      have HLV : Hid (likedV A PF = .tuple #[.string SV, EV]) := Lib.hid (by rw [likedV_is, hEV, hSV])
      have HFA : Hid (∀ W : World, FaultAt A W EV PE ∧ ((idxErr (enF n P V R K Bk)).1 = 0 → EV = errV A PE.1)) := Lib.hid (fun W => by
        rw [HPE2.out, hEV]
        cases PF <;> exact ⟨FaultAt.bare, fun _ => rfl⟩)
      have HPV : Hid ((⟨PS.toArray⟩ : ByteArray) = SV) := Lib.hid (by
        rw [HPS.out, HPE2.out, hSV]
        cases PF <;> rfl)
      have HEV := Lib.hid (And.intro hEV hSV)
      clear hEV hSV
      have hw2 : w.heap.size < w2.heap.size := lt_of_cell z0
      clear hf2 h0 HPE1 HPE2 HPS
      go_wp2_with fail
      refine (hvs.out _ hB).mono ?_
      rintro e w3 ⟨⟨v3, rfl, hF3⟩, hb⟩
      have hz3 : w.heap.size < w3.heap.size := Nat.lt_of_lt_of_le (lt_of_cell z0) hb.size
      have hs3 : w2.heap.size ≤ w3.heap.size := hb.size
      replace hB := below_step hB hb
      replace z0 := Below.cell_some hb z0
      clear hb hvs
      go_wp2_with fail
      refine (hwo.out _).mono ?_
      rintro e w4 ⟨rfl, hb⟩
      replace hB := below_step hB hb
      replace z0 := Below.cell_some hb z0
      replace hF3 := hF3.below hb
      have hs4 : w3.heap.size ≤ w4.heap.size := hb.size
      have hnm := HNM.out w2.heap.size (by omega) v3 w4 hB (by omega) hF3 HVL.out.1 HVL.out.2
      rw [← HPF.out, HLV.out] at hnm
      have HW2 := Lib.hid (Nat.le_of_lt hw2)
      replace hnm := Lib.hid hnm
      clear hb hwo hF3 hs3 hs4 hz3 hw2
      go_wp2_with fail
      refine hnm.out.mono ?_
      rintro e w5 ⟨rfl, hb⟩
      replace hB := hB.trans (hb.mono HW2.out)
      clear hb hnm
      go_wp2_with fail
      go_ret2
      rw [HPV.out]
      exact ⟨⟨_, rfl, HFA.out _⟩, hB⟩
    · have HV := Lib.hid hf2
      have H0 := Lib.hid h0
      have HPE2 : Hid (PE = idxErr (enF n P V R K Bk)) := Lib.hid (by rw [HPE1.out]; unfold orE; rw [if_pos h0])
      have HPS2 : Hid (PS = []) := Lib.hid (by rw [HPS.out, HPE2.out, if_neg h0])
      clear hf2 h0
      go_wp2_with fail
      go_ret2
      rw [HPS2.out, HPE2.out]
      exact ⟨⟨_, rfl, HV.out, fun h => absurd h H0.out⟩, hB⟩
  · have HPE2 : Hid (PE = (qErr q.data.toList, -1)) := Lib.hid (by rw [HPE.out, if_pos hq0])
    have HPS2 : Hid (PS = []) := Lib.hid (by rw [HPS.out, HPE2.out, if_neg hq0])
    have HFB : Hid (∀ W : World, FaultAt A W (errV A (qErr q.data.toList)) (qErr q.data.toList, -1)) := Lib.hid (fun W => FaultAt.bare)
    have HFE := Lib.hid (errV_pos A hq0)
    rw [errV_pos A hq0] at HFB
    rw [errV_pos A hq0]
    clear hq0
    go_wp2_with fail
    go_ret2
    rw [HPS2.out, HPE2.out]
    exact ⟨⟨_, rfl, HFB.out _, fun _ => HFE.out.symm⟩, hB⟩
theorem qPickE_in (ks : List Nat) (A : Nat → Addr) (hks : IdxKs ks) (a : Option Addr) (n cap : Nat) (P V : Nat → ByteArray) (R : Nat → List Md) (K : Nat → List Str) (Bk : Nat → Bool) (Rv Kv : Nat → Value) (p q now : ByteArray) (w : World) (hE : EnvP ks A w) (h : EntsIn w a n cap P V R K Bk Rv Kv) (hs : ShortI (enF n P V R K Bk)) (hq : q.size ≤ 1000000) (hnow : now.size ≤ 1000000) :
    Calls Tryz.prog 73 #[.slice a n cap, .string p, .string q, .string now] w fun e w' => (∃ ev, e = .returned (.tuple #[.string ⟨(pickS (enF n P V R K Bk) p.data.toList q.data.toList now.data.toList).toArray⟩, ev]) ∧ FaultAt A w' ev (pickErr (enF n P V R K Bk) p.data.toList q.data.toList now.data.toList) ∧ ((idxErr (enF n P V R K Bk)).1 = 0 → ev = errV A (pickErr (enF n P V R K Bk) p.data.toList q.data.toList now.data.toList).1)) ∧ Below w.heap.size w w' := by
  cases hqw : qWord q.data.toList with
  | true => exact qPickWE_in ks A hks a n cap P V R K Bk Rv Kv p q now w hE h hs hq hqw hnow
  | false => exact qPickNE_in ks A hks a n cap P V R K Bk Rv Kv p q now w hE h hs hq hqw
end Go.Proofs.Pw
