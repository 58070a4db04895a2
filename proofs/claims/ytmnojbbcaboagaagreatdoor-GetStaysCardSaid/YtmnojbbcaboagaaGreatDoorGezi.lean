/- Ge: walks and plain laws, joined: GetArg1 SortP FileText FileLine FileCopy GetCaps. Conditions: at each theorem. -/
import Derived.Test.YtmnojbbcaboagaaGreatDoorGezh
import Derived.Test.YtmnojbbcaboagaaGreatDoorGezb
import Derived.Test.YtmnojbbcaboagaaGreatDoorGey
import Derived.Test.YtmnojbbcaboagaaGreatDoorGem
import Derived.Test.YtmnojbbcaboagaaGreatDoorGei
import Derived.Test.YtmnojbbcaboagaaGreatDoorGek
import Derived.Test.YtmnojbbcaboagaaGreatDoorGeu
import Derived.Test.YtmnojbbcaboagaaGreatDoorGee
import Derived.Deep.AppendLies
import Derived.Deep.RegionLaw
import Derived.Deep.RegionWith

namespace Go.Proofs.Pw
open Go.RowKit
open Go.Lib hiding intOf
theorem PinTab.ne_cell {w : World} {b c o : Nat} {S : List PinB} {v : Value} (h : PinTab w b S) (hc : w.cell? ⟨c, o, none⟩ = some v) : c ≠ b := fun e => by
  obtain ⟨es, clock, h1⟩ := h
  subst e
  unfold World.cell? at hc
  rw [h1.blk] at hc
  simp at hc
theorem pinPaths_bad {l : List En} {b : List Md} {q : Str} {wild : Bool} {p : Str} {r : List Str} {S : List PinM} (h : (pickErr l p q (nowOf b p)).1 ≠ 0) : pinPaths l b q wild (p :: r) S = ((pickErr l p q (nowOf b p)).1, []) := by
  have e : pinPath l b q wild p S = ((pickErr l p q (nowOf b p)).1, []) := by unfold pinPath; rw [if_pos h]
  rw [pinPaths, e, if_pos h]
theorem pinPaths_clash {l : List En} {b : List Md} {q : Str} {wild : Bool} {p : Str} {r : List Str} {S : List PinM} (h : (pickErr l p q (nowOf b p)).1 = 0) (ha : pinAdd S ⟨p, pickS l p q (nowOf b p), wild⟩ = none) : pinPaths l b q wild (p :: r) S = (9, []) := by
  have e : pinPath l b q wild p S = (9, []) := by unfold pinPath; rw [if_neg (by rw [h]; simp), ha]
  rw [pinPaths, e, if_pos (by simp)]
theorem pinPaths_on {l : List En} {b : List Md} {q : Str} {wild : Bool} {p : Str} {r : List Str} {S S' : List PinM} (h : (pickErr l p q (nowOf b p)).1 = 0) (ha : pinAdd S ⟨p, pickS l p q (nowOf b p), wild⟩ = some S') : pinPaths l b q wild (p :: r) S = pinPaths l b q wild r S' := by
  have e : pinPath l b q wild p S = (0, S') := by unfold pinPath; rw [if_neg (by rw [h]; simp), ha]
  rw [pinPaths, e, if_neg (by simp)]
theorem lstF_drop {n : Nat} {L : Nat → ByteArray} {k : Nat} (hk : k < n) : (lstF n L).drop k = (L k).data.toList :: (lstF n L).drop (k + 1) := by
  have h1 := lstF_get n L k hk
  have hl := (List.getElem?_eq_some_iff.1 h1).1
  rw [List.drop_eq_getElem_cons hl]
  rw [List.getElem?_eq_getElem hl] at h1
  rw [Option.some.inj h1]
set_option maxHeartbeats 8000000 in
set_option maxRecDepth 100000 in
theorem gArg_in (ks : List Nat) (A : Nat → Addr) (hks : IdxKs ks) (h9 : 9 ∈ ks) (a : Option Addr) (n cap : Nat) (P V : Nat → ByteArray) (R : Nat → List Md) (K : Nat → List Str) (Bk : Nat → Bool) (Rv Kv : Nat → Value) (bv : Value) (bl : List Md) (bg b : Nat) (S : List PinB) (p q : ByteArray) (w : World) (hG : ∀ W, Kept b w W → GetW ks A a n cap P V R K Bk Rv Kv bv bl bg b W) (hP : PinTab w b S) (hs : ShortI (enF n P V R K Bk)) (h0 : (idxErr (enF n P V R K Bk)).1 = 0) (hB1 : bl.length ≤ 1000000) (hB2 : ∀ m ∈ bl, m.1.length ≤ 1000000 ∧ m.2.length ≤ 1000000) (hp : p.size ≤ 1000000) (hq : q.size ≤ 1000000) :
    Calls Tryz.prog 32 #[.pointer (some ⟨bg, 0, none⟩), .string p, .string q] w fun e w' => e = .returned (errV A (pinArg (enF n P V R K Bk) bl p.data.toList q.data.toList (S.map pinT)).1) ∧ Kept b w w' ∧ ((pinArg (enF n P V R K Bk) bl p.data.toList q.data.toList (S.map pinT)).1 = 0 → ∃ S', PinTab w' b S' ∧ (pinArg (enF n P V R K Bk) bl p.data.toList q.data.toList (S.map pinT)).2 = S'.map pinT) := by
  have hK0 : Kept b w w := Kept.of b (Below.refl _ _)
  have hpa := getPaths_in ks A hks.2.2.1 a n cap P V R K Bk Rv Kv bv bl bg b p w (hG w hK0) hs hB1 (fun m hm => (hB2 m hm).1) hp
  have hfi := fun W (hW : Kept b w W) (s : ByteArray) => modFind_calls bv bl s W (hG W hW).build hB1
  have hpk := fun W (hW : Kept b w W) (s now : ByteArray) (hn : now.size ≤ 1000000) => qPickE_in ks A hks a n cap P V R K Bk Rv Kv s q now W (hG W hW).env (hG W hW).ents hs hq hn
  have hwi := fun W (hW : Kept b w W) => wild_calls p W (hG W hW).env.m (by omega)
  have hpi := fun W (hW : Kept b w W) (S' : List PinB) (path v : ByteArray) (wl : Bool) (hP' : PinTab W b S') => getPin_calls ks A h9 bg b S' path v wl W (hG W hW).env (hG W hW).g2 hP'
  have hz0 := fun W (hW : Kept b w W) => (hG W hW).g0
  have hz1 := fun W (hW : Kept b w W) => (hG W hW).g1
  have hbld := fun W (hW : Kept b w W) => (hG W hW).build
  have hL := fun W (hW : Kept b w W) (k : Nat) (x : Md) (hk : bl[k]? = some x) => (hB2 x (List.mem_of_getElem? hk)).2
  obtain ⟨l, hl⟩ : ∃ x, enF n P V R K Bk = x := ⟨_, rfl⟩
  simp only [hl] at hpa hpk h0 ⊢
  obtain ⟨ab, nb, cb, _, _, rfl, _⟩ := id (hbld w hK0)
  have HR1 : Hid (pathsE l p.data.toList ≠ 0 → pinArg l bl p.data.toList q.data.toList (S.map pinT) = (pathsE l p.data.toList, [])) := Lib.hid (fun h => by unfold pinArg; rw [if_pos h])
  have HR2 : Hid (pathsE l p.data.toList = 0 → pinArg l bl p.data.toList q.data.toList (S.map pinT) = pinPaths l bl q.data.toList (contains p.data.toList dots) (pathsO l bl p.data.toList) (S.map pinT)) := Lib.hid (fun h => by unfold pinArg; rw [if_neg (by rw [h]; simp)])
  generalize pinArg l bl p.data.toList q.data.toList (S.map pinT) = RES at *
  obtain ⟨PE, hPE⟩ : ∃ x, pathsE l p.data.toList = x := ⟨_, rfl⟩
  rw [hPE] at hpa HR1 HR2
  generalize pathsO l bl p.data.toList = PO at hpa HR2
  have HP := Lib.hid hP
  have HI0 := Lib.hid h0
  replace hpa := Lib.hid hpa
  replace hfi := Lib.hid hfi
  replace hpk := Lib.hid hpk
  replace hwi := Lib.hid hwi
  replace hpi := Lib.hid hpi
  replace hz0 := Lib.hid hz0
  replace hz1 := Lib.hid hz1
  replace hbld := Lib.hid hbld
  replace hL := Lib.hid hL
  clear hG hs hl hP hK0 hPE hB1 hB2 h0
  go_enter Tryz.func32, Tryz.ntmps32
  go_wp2_with fail
  refine hpa.out.mono ?_
  rintro e w1 ⟨⟨v1, rfl, hv1⟩, hb1⟩
  have HK1 := Lib.hid (Kept.of b hb1)
  have HP1 := Lib.hid (HP.out.below hb1)
  obtain ⟨a5, n5, c5, L5, rfl, e5, hn5, hc5, hat⟩ := id hv1
  have HAT := Lib.hid hat
  clear hpa hv1 hb1 hat
  by_cases he : PE = 0
  · subst he
    have hR := HR2.out rfl
    rw [e5] at hR
    have HRR := Lib.hid hR
    rw [errV_zero]
    have hn5b : n5 ≤ 9223372036854775807 := Nat.le_trans hn5 hc5
    clear HR1 HR2 hR e5 hn5 hc5
    go_wp2_with fail
    go_loopw [10, 11, 12, 13, 14, 26] (fun _ _ _ _ _ x wr => ∃ (k : Nat) (S' : List PinB), k ≤ n5 ∧ x = .int .i64 k ∧ Hid (PinTab wr b S') ∧ Hid (Kept b w1 wr) ∧ Hid (pinPaths l bl q.data.toList (contains p.data.toList dots) ((lstF n5 L5).drop k) (S'.map pinT) = RES)) (fun _ _ _ _ _ x _ => n5 - (intOf x).toNat)
    case atStart => exact ⟨0, S, Nat.zero_le _, rfl, HP1, Lib.hid (Kept.of b (Below.refl _ _)), Lib.hid HRR.out.symm⟩
    case round =>
      obtain ⟨k, S', hk, rfl, HT, HKr, HRk⟩ := hrel
      by_cases hlt : k < n5
      · have hkn : (k : Int) < (n5 : Int) := by omega
        obtain ⟨b1, o1, ea, c0'⟩ := HAT.out k hlt
        subst ea
        have c0 := HKr.out.cell c0' (HP1.out.ne_cell c0')
        have HKw := Lib.hid (HK1.out.trans HKr.out)
        have z1 := hz1.out wr HKw.out
        have hf1 := hfi.out wr HKw.out (L5 k)
        have hRk := HRk.out
        rw [lstF_drop hlt] at hRk
        have HRD := Lib.hid hRk
        obtain ⟨fi, hfiE⟩ : ∃ x, findI (fun m : Md => decide (m.1 = (L5 k).data.toList)) bl = x := ⟨_, rfl⟩
        rw [hfiE] at hf1
        have HFI : Hid (findI (hasP (L5 k).data.toList) bl = fi) := Lib.hid hfiE
        replace hf1 := Lib.hid hf1
        clear c0' hRk HRk hfiE
        go_wp2_with fail
        refine hf1.out.mono ?_
        rintro e w2 ⟨rfl, hb2⟩
        have HK2 := Lib.hid (HKw.out.step hb2)
        have HJ2 := Lib.hid (HKr.out.step hb2)
        have HT2 := Lib.hid (HT.out.below hb2)
        have z0 := hz0.out w2 HK2.out
        replace z1 := hz1.out w2 HK2.out
        have HN : Hid (∃ now : ByteArray, now.data.toList = nowOf bl (L5 k).data.toList ∧ now.size ≤ 1000000 ∧ ((fi < 0 ∧ now = ⟨#[]⟩) ∨ ∃ j : Nat, fi = j ∧ j < nb ∧ ∃ b2 o2, ab = some ⟨b2, o2, none⟩ ∧ w2.cell? ⟨b2, o2 + j * 2 + 1, none⟩ = some (.string now))) := Lib.hid (by
          by_cases hf : fi < 0
          · refine ⟨⟨#[]⟩, ?_, by decide, .inl ⟨hf, rfl⟩⟩
            unfold nowOf
            rw [HFI.out, if_neg (by omega)]
          · obtain ⟨j, hj⟩ : ∃ j : Nat, fi = j := ⟨fi.toNat, by omega⟩
            obtain ⟨x, hx, hpx⟩ := findI_spec (HFI.out.trans hj)
            obtain ⟨a', n', c', Q, U, e1, e2, _, _, hcc⟩ := hbld.out w2 HK2.out
            injection e1 with e1 e3 e4
            subst e1 e3 e4
            have hjl : j < nb := by have := (List.getElem?_eq_some_iff.1 hx).1; rw [e2, mdF_length] at this; exact this
            obtain ⟨b2, o2, ea, _, d1⟩ := hcc j hjl
            refine ⟨U j, ?_, ?_, .inr ⟨j, hj, hjl, b2, o2, ea, d1⟩⟩
            · unfold nowOf
              rw [HFI.out, hj, if_pos (by omega), Int.toNat_natCast, e2, mdAt_mdF hjl]
            · rw [size_eq]
              have := hL.out w2 HK2.out j _ (by rw [e2]; exact mdF_get nb Q U j hjl)
              exact this)
        obtain ⟨now, hnow, hnl, hcase⟩ := HN.out
        have hpk1 := hpk.out w2 HK2.out (L5 k) now hnl
        rw [hnow] at hpk1
        obtain ⟨PC, hPC⟩ : ∃ x, pickErr l (L5 k).data.toList q.data.toList (nowOf bl (L5 k).data.toList) = x := ⟨_, rfl⟩
        obtain ⟨PV, hPV⟩ : ∃ x, pickS l (L5 k).data.toList q.data.toList (nowOf bl (L5 k).data.toList) = x := ⟨_, rfl⟩
        rw [hPC, hPV] at hpk1
        have HPC := Lib.hid hPC
        have HPV := Lib.hid hPV
        replace hpk1 := Lib.hid hpk1
        clear hb2 hf1 HN hPC hPV hnow hnl HKw HT HFI
        rcases hcase with ⟨hf, rfl⟩ | ⟨j, rfl, hjl, b2, o2, ea, d1⟩
        · have hf' : ¬ (0 : Int) ≤ fi := by omega
          clear hf
          go_wp2_with fail
          refine hpk1.out.mono ?_
          rintro e w3 ⟨⟨ev, rfl, hfa, hev⟩, hb3⟩
          obtain rfl := hev HI0.out
          have HK3 := Lib.hid (HK2.out.step hb3)
          have HJ3 := Lib.hid (HJ2.out.step hb3)
          have HT3 := Lib.hid (HT2.out.below hb3)
          clear hfa hev hb3 hpk1 z0 z1 HT2
          obtain ⟨pc, pa⟩ := PC
          simp only
          by_cases hc : pc = 0
          · subst hc
            rw [errV_zero]
            have hwi1 := hwi.out w3 HK3.out
            have hpi1 := hpi.out w3 HK3.out S' (L5 k) ⟨PV.toArray⟩ (contains p.data.toList dots) HT3.out
            replace hwi1 := Lib.hid hwi1
            replace hpi1 := Lib.hid hpi1
            go_wp2_with fail
            refine hwi1.out.mono ?_
            rintro e w4 ⟨rfl, rfl⟩
            go_wp2_with fail
            refine hpi1.out.mono ?_
            rintro e w5 ⟨hk5, hcl | hon⟩
            · obtain ⟨h1, rfl, h3⟩ := hcl
              have HRF : Hid (RES = (9, [])) := Lib.hid (by
                rw [← HRD.out]
                exact pinPaths_clash (by rw [HPC.out]) (by rw [HPV.out]; exact h1))
              have HK5 := Lib.hid (HK3.out.trans hk5)
              have HV9 : Hid (errV A 9 = .iface 328 (.pointer (some (A 9)))) := Lib.hid (errV_pos A (by decide))
              rw [HV9.out]
              clear h1 h3 hk5 hwi1 hpi1
              go_wp2_with fail
              refine bodyPost_ret (v := .iface 328 (.pointer (some (A 9)))) (by simp [results, Tryz.results32, go_sem, *]) rfl ?_
              refine ⟨by rw [HRF.out, HV9.out], HK5.out, fun h => ?_⟩
              rw [HRF.out] at h
              cases h
            · obtain ⟨S2, h1, rfl, h3⟩ := hon
              rw [errV_zero]
              have HRF : Hid (pinPaths l bl q.data.toList (contains p.data.toList dots) ((lstF n5 L5).drop (k + 1)) (S2.map pinT) = RES) := Lib.hid (by
                rw [← HRD.out]
                exact (pinPaths_on (by rw [HPC.out]) (by rw [HPV.out]; exact h1)).symm)
              have HK5 := Lib.hid (HJ3.out.trans hk5)
              have HT5 := Lib.hid h3
              clear h1 h3 hk5 hwi1 hpi1
              go_wp2_with fail
              go_roundw
              case rel => exact ⟨k + 1, S2, by omega, by go_num, HT5, HK5, HRF⟩
              case measure => simp [intOf]; omega
          · have HRF : Hid (RES = (pc, [])) := Lib.hid (by
              rw [← HRD.out, pinPaths_bad (by rw [HPC.out]; exact hc), HPC.out])
            have HVP : Hid (errV A pc = .iface 328 (.pointer (some (A pc)))) := Lib.hid (errV_pos A hc)
            have HC := Lib.hid hc
            rw [HVP.out]
            clear hc
            go_wp2_with fail
            refine bodyPost_ret (v := .iface 328 (.pointer (some (A pc)))) (by simp [results, Tryz.results32, go_sem, *]) rfl ?_
            refine ⟨by rw [HRF.out, HVP.out], HK3.out, fun h => ?_⟩
            rw [HRF.out] at h
            exact absurd h HC.out
        · subst ea
          have hj0 : (0 : Int) ≤ (j : Int) := by omega
          have hjn : (j : Int) < (nb : Int) := by omega
          go_wp2_with fail
          refine hpk1.out.mono ?_
          rintro e w3 ⟨⟨ev, rfl, hfa, hev⟩, hb3⟩
          obtain rfl := hev HI0.out
          have HK3 := Lib.hid (HK2.out.step hb3)
          have HJ3 := Lib.hid (HJ2.out.step hb3)
          have HT3 := Lib.hid (HT2.out.below hb3)
          clear hfa hev hb3 hpk1 z0 z1 HT2
          obtain ⟨pc, pa⟩ := PC
          simp only
          by_cases hc : pc = 0
          · subst hc
            rw [errV_zero]
            have hwi1 := hwi.out w3 HK3.out
            have hpi1 := hpi.out w3 HK3.out S' (L5 k) ⟨PV.toArray⟩ (contains p.data.toList dots) HT3.out
            replace hwi1 := Lib.hid hwi1
            replace hpi1 := Lib.hid hpi1
            go_wp2_with fail
            refine hwi1.out.mono ?_
            rintro e w4 ⟨rfl, rfl⟩
            go_wp2_with fail
            refine hpi1.out.mono ?_
            rintro e w5 ⟨hk5, hcl | hon⟩
            · obtain ⟨h1, rfl, h3⟩ := hcl
              have HRF : Hid (RES = (9, [])) := Lib.hid (by
                rw [← HRD.out]
                exact pinPaths_clash (by rw [HPC.out]) (by rw [HPV.out]; exact h1))
              have HK5 := Lib.hid (HK3.out.trans hk5)
              have HV9 : Hid (errV A 9 = .iface 328 (.pointer (some (A 9)))) := Lib.hid (errV_pos A (by decide))
              rw [HV9.out]
              clear h1 h3 hk5 hwi1 hpi1
              go_wp2_with fail
              refine bodyPost_ret (v := .iface 328 (.pointer (some (A 9)))) (by simp [results, Tryz.results32, go_sem, *]) rfl ?_
              refine ⟨by rw [HRF.out, HV9.out], HK5.out, fun h => ?_⟩
              rw [HRF.out] at h
              cases h
            · obtain ⟨S2, h1, rfl, h3⟩ := hon
              rw [errV_zero]
              have HRF : Hid (pinPaths l bl q.data.toList (contains p.data.toList dots) ((lstF n5 L5).drop (k + 1)) (S2.map pinT) = RES) := Lib.hid (by
                rw [← HRD.out]
                exact (pinPaths_on (by rw [HPC.out]) (by rw [HPV.out]; exact h1)).symm)
              have HK5 := Lib.hid (HJ3.out.trans hk5)
              have HT5 := Lib.hid h3
              clear h1 h3 hk5 hwi1 hpi1
              go_wp2_with fail
              go_roundw
              case rel => exact ⟨k + 1, S2, by omega, by go_num, HT5, HK5, HRF⟩
              case measure => simp [intOf]; omega
          · have HRF : Hid (RES = (pc, [])) := Lib.hid (by
              rw [← HRD.out, pinPaths_bad (by rw [HPC.out]; exact hc), HPC.out])
            have HVP : Hid (errV A pc = .iface 328 (.pointer (some (A pc)))) := Lib.hid (errV_pos A hc)
            have HC := Lib.hid hc
            rw [HVP.out]
            clear hc
            go_wp2_with fail
            refine bodyPost_ret (v := .iface 328 (.pointer (some (A pc)))) (by simp [results, Tryz.results32, go_sem, *]) rfl ?_
            refine ⟨by rw [HRF.out, HVP.out], HK3.out, fun h => ?_⟩
            rw [HRF.out] at h
            exact absurd h HC.out
      · obtain rfl : k = n5 := by omega
        have hnk : ¬ (k : Int) < (k : Int) := by omega
        have HRF : Hid (RES = (0, S'.map pinT)) := Lib.hid (by
          rw [← HRk.out, List.drop_of_length_le (by rw [lstF_length]; exact Nat.le_refl _)]
          rfl)
        have HKE := Lib.hid (HK1.out.trans HKr.out)
        clear hlt hk HRk
        go_wp2_with fail
        refine bodyPost_ret (v := .nilIface) (by simp [results, Tryz.results32, go_sem, *]) rfl ?_
        refine ⟨by rw [HRF.out]; rfl, HKE.out, fun _ => ⟨S', HT.out, by rw [HRF.out]⟩⟩
  · have hR := HR1.out he
    have HRF := Lib.hid hR
    have HVP : Hid (errV A PE = .iface 328 (.pointer (some (A PE)))) := Lib.hid (errV_pos A he)
    have HC := Lib.hid he
    rw [HVP.out]
    clear HR1 HR2 hR he e5
    go_wp2_with fail
    refine bodyPost_ret (v := .iface 328 (.pointer (some (A PE)))) (by simp [results, Tryz.results32, go_sem, *]) rfl ?_
    refine ⟨by rw [HRF.out, HVP.out], HK1.out, fun h => ?_⟩
    rw [HRF.out] at h
    exact absurd h HC.out
end Go.Proofs.Pw

namespace Go.Proofs.Pw
open Go.RowKit
open Go.Proofs Go.Sort
open Go.Lib hiding intOf
abbrev RB := ByteArray × ByteArray
def tRB (x : RB) : Md := (x.1.data.toList, x.2.data.toList)
def encRB (x : RB) : List Value := [.string x.1, .string x.2]
def cmpRB (x y : RB) : Int := pathCmp (tRB x) (tRB y)
theorem cmpRB_ord : Ord3 cmpRB := pathCmp_ord.comap tRB
theorem encRB_len (x : RB) : (encRB x).length = 2 := rfl
theorem encRB_one (x : RB) : ∀ v ∈ encRB x, v.oneCell' = true := by
  intro v hv
  simp [encRB] at hv
  rcases hv with rfl | rfl <;> rfl
theorem below_sortWB {B : Nat} {w0 w : World} (h : Below B w0 w) (hB : B ≤ w0.heap.size) {blk : Nat} (hb : B ≤ blk) (off m : Nat) (d : Array RB) (os : Array Obj) : Below B w0 (sortWorldK encRB 2 w blk off m d os) := by
  have hBs := h.size
  refine h.trans ⟨rfl, rfl, rfl, ?_, fun k hk => ?_⟩
  · simp [sortWorldK, grow, putRowK, putRow, mapBlock, Sort.ahead]
  · simp only [sortWorldK, grow, putRowK, putRow, mapBlock, Sort.ahead]
    by_cases hk2 : k < w.heap.size
    · rw [Array.getElem?_append_left (by simpa using hk2), Array.getElem?_modify, if_neg (by omega)]
    · exact absurd (Nat.lt_of_lt_of_le hk (Nat.le_trans hB hBs)) hk2
theorem mdVs_getB {d : Array RB} {j : Nat} (hj : j < d.size * 2) : (mdVs d.toList)[j]? = some ((encRB d[j / 2]!)[j % 2]!) := by
  have hget : d.toList[j / 2]? = some d[j / 2]! := by
    have h2 : j / 2 < d.size := by omega
    rw [List.getElem?_eq_getElem (by simpa using h2), getElem!_pos d _ h2]
    simp
  obtain ⟨q0, q1⟩ := mdVs_get hget
  rcases Nat.mod_two_eq_zero_or_one j with h2 | h2
  · rw [show j / 2 * 2 = j by omega] at q0
    rw [q0, h2]; rfl
  · rw [show j / 2 * 2 + 1 = j by omega] at q1
    rw [q1, h2]; rfl
theorem holds_ownB {w : World} {base e g cap : Nat} {d : Array RB} (h : w.ownsRow base e 2 (.slice (some ⟨g, 0, none⟩) d.size cap) d.size (mdVs d.toList)) : HoldsK encRB 2 w g 0 d := by
  rcases h.2 with ⟨h2, _⟩ | ⟨g', c', cur, e1, _, hg, hn, _, hcs, ht⟩
  · cases h2
  · injection e1 with e1 _ e2
    injection e1 with e1
    injection e1 with e1
    subst e1 e2
    intro j hj
    rw [size_flatK] at hj
    have hcur : j < cur.size := by rw [hcs]; omega
    have e3 : cur[j]? = (mdVs d.toList)[j]? := by
      rw [← ht, List.getElem?_take, if_pos (by omega)]
      simp
    rw [get_flatK _ _ _ _ hj]
    refine ⟨?_, ?_⟩
    · rw [Nat.zero_add, cell_of_row w g j cur e (0, 0) hg, e3, mdVs_getB hj]; rfl
    · simp [World.frozen?, hg]
theorem own_of_holdsB {w : World} {base e g cap : Nat} {d : Array RB} {cur : Array Value} (hg : w.heap[g]? = some (.cells cur e (0, 0))) (hs : cur.size = cap * 2) (hH : HoldsK encRB 2 w g 0 d) (hb : base ≤ g) (hc : d.size ≤ cap) (hm : cap ≤ maxLen) :
    w.ownsRow base e 2 (.slice (some ⟨g, 0, none⟩) d.size cap) d.size (mdVs d.toList) := by
  have hl : (mdVs d.toList).length = d.size * 2 := by rw [mdVs_length]; simp
  refine ⟨hl, .inr ⟨g, cap, cur, rfl, hb, hg, hc, hm, hs, ?_⟩⟩
  apply List.ext_getElem?
  intro j
  by_cases hj : j < d.size * 2
  · rw [List.getElem?_take, if_pos hj]
    have h1 := (hH j (by rw [size_flatK]; exact hj)).1
    rw [get_flatK _ _ _ _ hj, Nat.zero_add, cell_of_row w g j cur e (0, 0) hg] at h1
    rw [mdVs_getB hj, Array.getElem?_toList]
    exact h1
  · rw [List.getElem?_take, if_neg hj, List.getElem?_eq_none (by omega)]
theorem Tryz.enters_caps1 : ∀ args w, (callFunc 145 args).run Tryz.prog w = .ok (.enter 145 args) w := Go.Proofs.enters_of Tryz.func145 (by kernel_rfl) rfl
theorem caps1_calls (p v q u : ByteArray) (w : World) :
    Calls Tryz.prog 145 #[.agg #[.string p, .string v], .agg #[.string q, .string u]] w fun e w' => e = .returned (.int .i64 (compareBytes p.data.toList q.data.toList)) ∧ Bel w.heap.size w w' := by
  have hb1 := below_alloc w (.cells #[.string p, .string v] 47)
  have hb2 := below_alloc (w.alloc (.cells #[.string p, .string v] 47)) (.cells #[.string q, .string u] 47)
  have hB := bel_step (bel_alloc w (.cells #[.string p, .string v] 47)) (bel_alloc (w.alloc (.cells #[.string p, .string v] 47)) (.cells #[.string q, .string u] 47))
  obtain ⟨m0, m1, _⟩ := (box2_alloc w (.string p) (.string v) 47).below hb2
  obtain ⟨f0, f1, _⟩ := box2_alloc (w.alloc (.cells #[.string p, .string v] 47)) (.string q) (.string u) 47
  simp only [World.size_alloc] at f0 f1
  have hS := Tryz.strings_Compare p q
  replace hS := Lib.hid hS
  go_enter Tryz.func145, Tryz.ntmps145
  go_wp2_with fail
  refine (hS.out _).mono ?_
  rintro e w' ⟨rfl, rfl⟩
  go_wp2_with fail
  go_ret
  exact ⟨rfl, hB⟩
theorem sortP_calls (w0 w : World) (base : Nat) (x : Value) (L : List RB) (hB : Below w0.heap.size w0 w) (hb : w0.heap.size ≤ base) (ho : w.ownsRow base 47 2 x L.length (mdVs L)) (hsz : L.length ≤ 1000000) :
    Calls Tryz.prog 66 #[x, .func (.func 145) #[] #[]] w fun e w' => e = .returned (.tuple #[]) ∧ (∃ L' : List RB, L'.length = L.length ∧ w'.ownsRow base 47 2 x L'.length (mdVs L') ∧ (mdTs L').Perm (mdTs L) ∧ (mdTs L').Pairwise fun a b => pathCmp a b ≤ 0) ∧ Below w0.heap.size w0 w' := by
  rcases ho.2 with ⟨rfl, h0⟩ | ⟨g, cap, cur, rfl, hbg, hg, hn, hm, hcs, ht⟩
  · have : L = [] := List.eq_nil_of_length_eq_zero h0
    subst this
    refine (AnyF.slices_SortFunc_none laysSortM none 0 _ w).mono ?_
    rintro e w' ⟨rfl, rfl⟩
    exact ⟨rfl, ⟨[], rfl, World.ownsRow_nil _ _ _ _, List.Perm.refl _, List.Pairwise.nil⟩, hB⟩
  · obtain ⟨m, hd⟩ : ∃ m : Array RB, m.toList = L := ⟨L.toArray, rfl⟩
    subst hd
    simp only [Array.length_toList] at ho hsz hn ht ⊢
    have hH := holds_ownB ho
    have hgw : g < w.heap.size := (Array.getElem?_eq_some_iff.1 hg).1
    have hcmp : CmpLays Tryz.prog 145 #[] encRB 2 cmpRB g 0 m.size w := by
      intro n os dk hs a b
      refine (caps1_calls a.1 a.2 b.1 b.2 _).mono ?_
      rintro e w' ⟨rfl, hb⟩
      exact ⟨rfl, hb.grown⟩
    have h := AnyQ.slices_SortFunc laysSortM 2 Tryz.isAgg47 Tryz.sizeOf47 encRB encRB_len encRB_one cmpRB (swo_of cmpRB_ord) 145 #[] g 0 cap m w (Tryz.enters_caps1) hcmp hH hgw (by omega)
    refine h.mono ?_
    rintro e w' ⟨rfl, d', n, os, hp, hs, rfl⟩
    obtain ⟨hp1, _, hp3⟩ := hp
    have hH2 : HoldsK encRB 2 (sortWorldK encRB 2 w g 0 n d' os) g 0 d' := holdsK_sortWorldK_c encRB 2 w g 0 m d' n os hH hgw hp1
    have hrowg : ∃ cur', (sortWorldK encRB 2 w g 0 n d' os).heap[g]? = some (.cells cur' 47 (0, 0)) ∧ cur'.size = cap * 2 := by
      refine ⟨Go.Sort.putCells id 0 (flatK encRB 2 d') cur, ?_, by unfold Go.Sort.putCells; rw [Array.size_mapIdx]; exact hcs⟩
      have h1 : (Go.Sort.mapBlock (Go.Sort.ahead w n) g (Go.Sort.putCells id 0 (flatK encRB 2 d'))).heap[g]? = some (.cells (Go.Sort.putCells id 0 (flatK encRB 2 d') cur) 47 (0, 0)) := by
        show ((w.heap).modify g _)[g]? = _
        rw [Array.getElem?_modify, if_pos rfl, hg]
        rfl
      exact row_grow h1
    obtain ⟨cur', hg', hcs'⟩ := hrowg
    have hts : ∀ D : Array RB, mdTs D.toList = D.toList.map tRB := fun D => rfl
    refine ⟨rfl, ⟨d'.toList, by simp [hp1], ?_, ?_, ?_⟩, below_sortWB hB (Nat.le_refl _) (by omega) 0 n d' os⟩
    · have := own_of_holdsB (base := base) hg' hcs' hH2 hbg (by omega) hm
      rw [Array.length_toList]
      rw [hp1] at this ⊢
      exact this
    · rw [hts, hts]
      have hpm := hp3
      rw [Array.extract_eq_self_of_le (show d'.size ≤ m.size by omega), Array.extract_eq_self_of_le (Nat.le_refl _)] at hpm
      exact hpm.map tRB
    · rw [hts, List.pairwise_map, List.pairwise_iff_getElem]
      intro i j hi hj hij
      have hj' : j < d'.size := by simpa using hj
      have h1 := hs i j (Nat.zero_le _) hij (by omega)
      unfold ltOf at h1
      rw [decide_eq_false_iff_not, getElem!_pos d' i (by omega), getElem!_pos d' j hj'] at h1
      have := cmpRB_ord.anti d'[i] d'[j]
      have := cmpRB_ord.anti d'[j] d'[i]
      show cmpRB d'.toList[i] d'.toList[j] ≤ 0
      rw [Array.getElem_toList, Array.getElem_toList]
      omega
end Go.Proofs.Pw

namespace Go.Proofs.Pw
open Go.RowKit
open Go.Lib hiding intOf
end Go.Proofs.Pw

namespace Go.Proofs.Pw
open Go.RowKit
open Go.Lib hiding intOf
structure FS (base b : Nat) (w : World) (p : ByteArray) (R X : List (ByteArray × ByteArray)) (rv xv : Value) : Prop where
  box : Box3f w b (.string p) rv xv
  le : base ≤ b
  r : w.ownsRow base 47 2 rv R.length (mdVs R)
  x : w.ownsRow base 47 2 xv X.length (mdVs X)
  nr : rv.ownBlock ≠ some b
  nx : xv.ownBlock ≠ some b
  ap : ∀ k, rv.ownBlock = some k → xv.ownBlock ≠ some k
theorem FS.below {base b : Nat} {w w' : World} {p : ByteArray} {R X : List (ByteArray × ByteArray)} {rv xv : Value} (h : FS base b w p R X rv xv) (hb : Below w.heap.size w w') : FS base b w' p R X rv xv :=
  ⟨h.box.below hb, h.le, ownsRow_kept h.r hb, ownsRow_kept h.x hb, h.nr, h.nx, h.ap⟩
theorem Box3f.set0 {w : World} {b : Nat} {v0 v1 v2 : Value} (h : Box3f w b v0 v1 v2) (v : Value) : Box3f (w.setCell ⟨b, 0, none⟩ v) b v v1 v2 :=
  ⟨set_same v h.c0, by rw [set_off v (by decide)]; exact h.c1, by rw [set_off v (by decide)]; exact h.c2, fun i => by simp [h.fz i]⟩
end Go.Proofs.Pw

namespace Go.Proofs.Pw
open Go.RowKit
open Go.Lib hiding intOf
theorem Box3f.belowd {w w' : World} {b : Nat} {v0 v1 v2 : Value} (h : Box3f w b v0 v1 v2) (hb : Below w.drew.heap.size w.drew w') : Box3f w' b v0 v1 v2 :=
  Box3f.below (w := w.drew) ⟨h.c0, h.c1, h.c2, h.fz⟩ hb
theorem own_base {w : World} {base base' e k n : Nat} {v : Value} {xs : List Value} (h : w.ownsRow base' e k v n xs) (hb : base ≤ base') : w.ownsRow base e k v n xs := by
  refine ⟨h.1, ?_⟩
  rcases h.2 with h2 | ⟨g, c, cur, rfl, h2, h3⟩
  · exact .inl h2
  · exact .inr ⟨g, c, cur, rfl, by omega, h3⟩
def CopyOut (base : Nat) (p : ByteArray) (R X : List Md) (w : World) (e : Ending) (w' : World) : Prop :=
  (∃ v1 v2 L1 L2, e = .returned (.agg #[.string p, v1, v2]) ∧ R = mdTs L1 ∧ X = mdTs L2 ∧ w'.ownsRow base 47 2 v1 L1.length (mdVs L1) ∧ w'.ownsRow base 47 2 v2 L2.length (mdVs L2) ∧ (∀ b, v1.ownBlock = some b → v2.ownBlock ≠ some b)) ∧ Below base w w'
set_option maxHeartbeats 2000000 in
set_option maxRecDepth 100000 in
theorem fileCopy_calls (p : ByteArray) (rv xv : Value) (R X : List Md) (w : World) (hr : ModsAt w rv R) (hx : ModsAt w xv X) (hR : R.length ≤ 1000000) (hX : X.length ≤ 1000000) :
    Calls Tryz.prog 82 #[.agg #[.string p, rv, xv]] w (CopyOut w.heap.size p R X w) := by
  have hb1 := below_alloc w (.cells #[.string p, rv, xv] 25)
  have hb2 := below_alloc (w.alloc (.cells #[.string p, rv, xv] 25)) (.cells #[.string ⟨#[]⟩, .slice none 0 0, .slice none 0 0] 25)
  have hB := below_step hb1 hb2
  have hz := (box3f_alloc w (.string p) rv xv 25).below hb2
  have hy := box3f_alloc (w.alloc (.cells #[.string p, rv, xv] 25)) (.string ⟨#[]⟩) (.slice none 0 0) (.slice none 0 0) 25
  simp only [World.size_alloc] at hy
  have ho1 := fun W hb => cloneM_calls rv R W (hr.below hb) hR
  have ho2 := fun W hb => cloneM_calls xv X W (hx.below hb) hX
  obtain ⟨a1, n1, c1, _, _, rfl, _⟩ := id hr
  obtain ⟨a3, n3, c3, _, _, rfl, _⟩ := id hx
  replace ho1 := Lib.hid ho1
  replace ho2 := Lib.hid ho2
  clear hb1 hb2 hr hx
  obtain ⟨z0, z1, z2, zf⟩ := id hz
  go_enter Tryz.func82, Tryz.ntmps82
  go_wp2_with fail
  generalize hw2 : (w.alloc (.cells #[.string p, .slice a1 n1 c1, .slice a3 n3 c3] 25)).alloc (.cells #[.string ⟨#[]⟩, .slice none 0 0, .slice none 0 0] 25) = w2 at *
  have hsz : w2.heap.size = w.heap.size + 2 := by rw [← hw2]; simp
  clear hw2
  go_region_with (first
    | (go_at_call_of 151 (Value.slice a1 n1 c1); refine (ho1.out _ ?_).mono ?_; exact hB.drew; rintro e w3 ⟨v1, L1, rfl, hL1, hw3, hb⟩; replace hz := hz.belowd hb; replace hy := hy.belowd hb; replace hB := below_step hB.drew hb; obtain ⟨a5, n5, c5, rfl⟩ := own_form hw3; clear z0 z1 z2 zf; obtain ⟨z0, z1, z2, zf⟩ := id hz)
    | (go_at_call_of 151 (Value.slice a3 n3 c3); refine (ho2.out _ ?_).mono ?_; exact hB; rintro e w4 ⟨v2, L2, rfl, hL2, hw4, hb⟩; replace hz := hz.below hb; replace hy := hy.below hb; replace hB := below_step hB hb; obtain ⟨a6, n6, c6, rfl⟩ := own_form hw4; clear z0 z1 z2 zf; obtain ⟨z0, z1, z2, zf⟩ := id hz))
  all_goals
    have hne12 : ∀ b, (Value.slice a5 n5 c5).ownBlock = some b → (Value.slice a6 n6 c6).ownBlock ≠ some b := fun b h1 => own_ne hw4 (hw3.lt b h1).2
    have hb1 : w.heap.size < w2.drew.heap.size := by simp; omega
    have hb2 : w.heap.size + 1 < w2.drew.heap.size := by simp; omega
    have hs3 := hb.size
    have hs2 : w2.drew.heap.size ≤ w3.heap.size := (by assumption : Below w2.drew.heap.size w2.drew w3).size
    have hrow1 := ownsRow_kept hw3 hb
    have hfin : ∀ u0 u1 u2 u3 u4, CopyOut w.heap.size p R X w (.returned (.agg #[.string p, .slice a5 n5 c5, .slice a6 n6 c6])) (((((w4.setCell ⟨w.heap.size, 1, none⟩ u0).setCell ⟨w.heap.size, 2, none⟩ u1).setCell ⟨w.heap.size + 1, 0, none⟩ u2).setCell ⟨w.heap.size + 1, 1, none⟩ u3).setCell ⟨w.heap.size + 1, 2, none⟩ u4) := fun u0 u1 u2 u3 u4 =>
      ⟨⟨_, _, L1, L2, rfl, hL1, hL2, own_base (ownsRow_set (ownsRow_set (ownsRow_set (ownsRow_set (ownsRow_set hrow1 (own_ne hw3 hb1) u0) (own_ne hw3 hb1) u1) (own_ne hw3 hb2) u2) (own_ne hw3 hb2) u3) (own_ne hw3 hb2) u4) (by omega),
        own_base (ownsRow_set (ownsRow_set (ownsRow_set (ownsRow_set (ownsRow_set hw4 (own_ne hw4 (by omega)) u0) (own_ne hw4 (by omega)) u1) (own_ne hw4 (by omega)) u2) (own_ne hw4 (by omega)) u3) (own_ne hw4 (by omega)) u4) (by omega), hne12⟩,
        ((((hB.setCell (p := ⟨w.heap.size, 1, none⟩) (Nat.le_refl _) u0).setCell (p := ⟨w.heap.size, 2, none⟩) (Nat.le_refl _) u1).setCell (p := ⟨w.heap.size + 1, 0, none⟩) (Nat.le_succ _) u2).setCell (p := ⟨w.heap.size + 1, 1, none⟩) (Nat.le_succ _) u3).setCell (p := ⟨w.heap.size + 1, 2, none⟩) (Nat.le_succ _) u4⟩
    obtain ⟨y0, y1, y2, yf⟩ := id hy
    replace hfin := Lib.hid hfin
    clear hne12 hs3 hs2 hb1 hb2 hrow1 hw3 hw4 hy hz ho1 ho2
    go_wp2_with fail
    refine bodyPost_ret (v := .agg #[.string p, .slice a5 n5 c5, .slice a6 n6 c6]) (by simp [results, Tryz.results82, go_sem, *]) rfl ?_
    exact hfin.out _ _ _ _ _
end Go.Proofs.Pw

namespace Go.Proofs.Pw
open Go.RowKit
open Go.Lib hiding intOf
def capB (p : PinB) : RB := (p.1, p.2.1)
theorem capB_ts (D : List PinB) : mdTs (D.map capB) = (D.map pinT).map fun x => (x.path, x.ver) := by
  unfold mdTs
  rw [List.map_map, List.map_map]
  rfl
theorem Below.iter {B : Nat} {a w w' : World} {r : Nat} (h : Below B a w) (hg : w.grownBy w' (some r)) (hB : B ≤ w.heap.size) (hr : B ≤ r) : Below B a w' := h.grown hg hB (fun k e => by rw [← Option.some.inj e]; exact hr)
set_option maxHeartbeats 8000000 in
set_option maxRecDepth 100000 in
theorem getCaps_calls (bg b : Nat) (S : List PinB) (w : World) (g2 : w.cell? ⟨bg, 2, none⟩ = some (.map (some b))) (hP : PinTab w b S) (hl : S.length ≤ 1000000) :
    Calls Tryz.prog 75 #[.pointer (some ⟨bg, 0, none⟩)] w fun e w' => (∃ v L, e = .returned v ∧ w'.ownsRow w.heap.size 47 2 v L.length (mdVs L) ∧ mdTs L = capsL (S.map pinT)) ∧ Below w.heap.size w w' := by
  obtain ⟨i0, hi, hz0, hz1, hz2⟩ := info_parts Tryz.infoMod
  have HND := Lib.hid hP.nodup
  obtain ⟨es, clock, hp⟩ := id hP
  have hrun := run_range_map (P := Tryz.prog) w 69 9 123 b es clock Tryz.underlying69 hp.blk
  have hst := rangeP_start hp
  have hb0 := below_alloc w (.mapIter (some b) clock #[] clock)
  have HLEN : Hid (es.size = S.length) := Lib.hid hp.len
  have hbl := hP.lt
  obtain ⟨w1, hW1⟩ : ∃ W, w.alloc (.mapIter (some b) clock #[] clock) = W := ⟨_, rfl⟩
  have hsz1 : w1.heap.size = w.heap.size + 1 := by rw [← hW1]; simp
  rw [hW1] at hst hb0 hrun
  have HST := Lib.hid hst
  have HB0 := Lib.hid hb0
  have HL := Lib.hid hl
  have HSZ := Lib.hid hsz1
  have HBL := Lib.hid hbl
  have hso := fun (W : World) (x : Value) (L : List RB) (hB : Below w.heap.size w W) (ho : W.ownsRow w.heap.size 47 2 x L.length (mdVs L)) (hL : L.length ≤ 1000000) => sortP_calls w W w.heap.size x L hB (Nat.le_refl _) ho hL
  replace hso := Lib.hid hso
  clear hp hst hb0 hW1 hP hl hsz1 hbl
  go_enter Tryz.func75, Tryz.ntmps75
  go_wp2_with fail
  go_loopw [3, 4, 5, 12] (fun o _ _ _ wr => ∃ (D : List PinB) (left : Nat) (L : List RB), Hid (RangeP wr b w.heap.size S D left) ∧ Hid (L = D.map capB) ∧ Hid (wr.ownsRow (w.heap.size + 1) 47 2 o L.length (mdVs L)) ∧ Hid (Below w.heap.size w wr) ∧ Hid (L.length + left ≤ S.length) ∧ Hid (w1.heap.size ≤ wr.heap.size)) (fun _ _ _ _ wr => wr.rangeLeft b w.heap.size)
  case atStart => exact ⟨[], es.size, [], HST, Lib.hid rfl, Lib.hid (World.ownsRow_nil _ _ _ _), HB0, Lib.hid (by simp [HLEN.out]), Lib.hid (Nat.le_refl _)⟩
  case round =>
    obtain ⟨D, left, L, HR, HLD, HO, HB, HLL, HS1⟩ := hrel
    obtain ⟨ao, no, co, rfl⟩ := own_form HO.out
    go_wp2_with (at_next; refine wpList_next_pins _ rfl _ rfl b w.heap.size S D left rfl HR.out ?_ ?_)
    · intro h0
      subst h0
      have hpm := HR.out.perm
      have HC : Hid ((mdTs L).Perm ((S.map pinT).map fun x => (x.path, x.ver))) := Lib.hid (by rw [HLD.out, capB_ts]; exact (hpm.map pinT).map _)
      have hso1 := hso.out wr _ L HB.out (own_base HO.out (Nat.le_succ _)) (by have := HLL.out; have := HL.out; omega)
      have HW0 := Lib.hid HB.out
      replace hso1 := Lib.hid hso1
      clear hpm HR HLD HLL HS1 HB HO
      go_wp2_with fail
      refine hso1.out.mono ?_
      rintro e w8 ⟨rfl, ⟨L', hlL, hO', hpm, hpw⟩, hB8⟩
      have HF : Hid (mdTs L' = capsL (S.map pinT)) := Lib.hid (capsL_of HND.out (hpm.trans HC.out) hpw)
      have HO8 := Lib.hid hO'
      have HB8 := Lib.hid hB8
      clear hlL hO' hpm hpw hB8 hso1
      go_wp2_with fail
      go_ret
      exact ⟨⟨_, L', rfl, HO8.out, HF.out⟩, HB8.out⟩
    · intro p w2 left' hlt hpS hrg hgr hsz hen
      obtain ⟨hbl2, hrl2, hrb⟩ := hrg.lt
      obtain ⟨⟨pk, pv, pw⟩⟩ := p
      simp only [pinV] at hpS hrg hen ⊢
      have hB2 := Below.iter HB.out hgr HB.out.size (Nat.le_refl _)
      have hO2 : w2.ownsRow (w.heap.size + 1) 47 2 (.slice ao no co) L.length (mdVs L) := HO.out.kept hgr (by
        rcases Classical.em ((Value.slice ao no co).ownBlock = none) with h | h
        · exact .inl h
        · refine .inr fun e => ?_
          have := (HO.out.lt _ e).1
          omega)
      have hba := below_alloc w2 (.cells #[.string pv, .bool pw] 123)
      obtain ⟨y0, y1, _⟩ := box2_alloc w2 (.string pv) (.bool pw) 123
      have hO3 := hO2.below hba
      have hB3 := hB2.alloc hB2.size (.cells #[.string pv, .bool pw] 123)
      have hR3 := hrg.below hba
      have hsz3 : (w2.alloc (.cells #[.string pv, .bool pw] 123)).heap.size = w2.heap.size + 1 := by simp
      obtain ⟨w3, hW3⟩ : ∃ W, w2.alloc (.cells #[.string pv, .bool pw] 123) = W := ⟨_, rfl⟩
      rw [hW3] at y0 y1 hO3 hB3 hR3 hsz3
      have HO3 := Lib.hid hO3
      have HB3 := Lib.hid hB3
      have HR3 := Lib.hid hR3
      have HZ3 : Hid (w1.heap.size ≤ w3.heap.size) := Lib.hid (by have := HS1.out; omega)
      have HNL : Hid (L.length + 1 ≤ 1000000) := Lib.hid (by have := HLL.out; have := HL.out; omega)
      have HNN : Hid (L.length + 1 + left' ≤ S.length) := Lib.hid (by have := HLL.out; omega)
      have HLT := Lib.hid (And.intro hlt HR.out.left_eq)
      have HDN : Hid (L ++ [(pk, pv)] = (D ++ [(pk, pv, pw)]).map capB) := Lib.hid (by rw [HLD.out]; simp [capB])
      clear hrg hgr hsz hbl2 hrl2 hB2 hO2 hba hO3 hB3 hR3 hsz3 hpS hlt HR HLD HO HB HLL HS1
      go_wp2_with (at_builtin; refine wpList_append_own _ rfl _ _ 23 rfl (w.heap.size + 1) 47 i0 (.agg #[.string ⟨#[]⟩, .string ⟨#[]⟩]) 2 32 Tryz.underlying23 hi hz0 hz1 hz2 rfl (by decide) _ _ _ rfl (HO3.out.alloc _) ⟨w3.heap.size, 0, none⟩ 1 1 [.string pk, .string pv] rfl rfl (cell_two_new _ _ _ _) (by intro u hu; simp at hu; rcases hu with rfl | rfl <;> rfl) (by unfold maxLen; have := HNL.out; omega) (by have := HNL.out; omega) (by have := HZ3.out; have := HSZ.out; simp; omega) ?_; intro o' w4 hown4 hgrow4 _)
      go_roundw
      case rel =>
        have hge := fun q (e : (Value.slice ao no co).ownBlock = some q) => (HO3.out.lt q e).1
        have hR4 : RangeP w4 b w.heap.size S (D ++ [(pk, pv, pw)]) left' := by
          have h1 := (HR3.out.below (below_alloc w3 (.cells #[.string pk, .string pv] 47)))
          refine h1.kept hgrow4 (fun e => ?_) (fun e => ?_)
          · have := hge b e.symm; have := HBL.out; omega
          · have := hge _ e.symm; omega
        refine ⟨D ++ [(pk, pv, pw)], left', L ++ [(pk, pv)], Lib.hid hR4, HDN, Lib.hid ?_, Lib.hid ?_, Lib.hid (by rw [List.length_append, List.length_singleton]; exact HNN.out), Lib.hid ?_⟩
        · rw [List.length_append, List.length_singleton, ← mdVs_snoc]
          exact hown4
        · exact (HB3.out.alloc HB3.out.size _).grown hgrow4 (by have := HB3.out.size; simp; omega) (fun q e => by have := hge q e; omega)
        · have h1 := hgrow4.size
          have := HZ3.out
          simp at h1
          omega
      case measure =>
        have hge := fun q (e : (Value.slice ao no co).ownBlock = some q) => (HO3.out.lt q e).1
        have hR4 : RangeP w4 b w.heap.size S (D ++ [(pk, pv, pw)]) left' := by
          have h1 := (HR3.out.below (below_alloc w3 (.cells #[.string pk, .string pv] 47)))
          refine h1.kept hgrow4 (fun e => ?_) (fun e => ?_)
          · have := hge b e.symm; have := HBL.out; omega
          · have := hge _ e.symm; omega
        rw [hR4.left_eq, HLT.out.2]
        exact HLT.out.1
end Go.Proofs.Pw
