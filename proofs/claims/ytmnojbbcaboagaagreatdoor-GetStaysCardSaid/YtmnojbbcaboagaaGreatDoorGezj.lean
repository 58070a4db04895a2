/- Ge: walks and plain laws, joined: DnToO SlDelKM GetNext. Conditions: at each theorem. -/
import Derived.Test.YtmnojbbcaboagaaGreatDoorGeza
import Derived.Test.YtmnojbbcaboagaaGreatDoorGez
import Derived.Test.YtmnojbbcaboagaaGreatDoorGezd
import Derived.Test.YtmnojbbcaboagaaGreatDoorGezi
import Derived.Test.YtmnojbbcaboagaaGreatDoorGey
import Derived.Test.YtmnojbbcaboagaaGreatDoorGezc

namespace Go.Proofs.Pw
open Go.RowKit
open Go.Lib hiding intOf
set_option maxHeartbeats 8000000 in
set_option maxRecDepth 100000 in
theorem toO_in (ks : List Nat) (A : Nat → Addr) (hks : IdxKs ks) (a : Option Addr) (n cap : Nat) (P V : Nat → ByteArray) (R : Nat → List Md) (K : Nat → List Str) (B : Nat → Bool) (Rv Kv : Nat → Value) (rv cv : Value) (roots caps : List Md) (w : World) (hE : EnvP ks A w) (h : EntsIn w a n cap P V R K B Rv Kv) (hs : ShortI (enF n P V R K B)) (hr : ModsAt w rv roots) (hl : roots.length ≤ 10000) (hrs : Short roots) (hc : ModsAt w cv caps) (hsc : Short caps) :
    Calls Tryz.prog 76 #[.slice a n cap, rv, cv] w fun e w' => (∃ x ev, e = .returned (.tuple #[x, ev]) ∧ FaultAt A w' ev (toErr (enF n P V R K B) roots caps) ∧ ((toErr (enF n P V R K B) roots caps).1 = 0 → ∃ L, w'.ownsRow w.heap.size 47 2 x L.length (mdVs L) ∧ ToP (enF n P V R K B) caps roots (mdTs L)) ∧ ((toErr (enF n P V R K B) roots caps).1 ≠ 0 → x = .slice none 0 0)) ∧ Below w.heap.size w w' := by
  obtain ⟨i0, hi, hz0, hz1, hz2⟩ := info_parts Tryz.infoMod
  have hbad := bad_in ks A hks a n cap P V R K B Rv Kv cv caps w hE h hs hc hsc
  have hre := fun W (hW : Below w.heap.size w W) => grReach_in ks A hks a n cap P V R K B Rv Kv rv roots W (hE.below hW) (h.below hW) hs (hr.below hW) (by omega)
  have hlo := fun W (hW : Below w.heap.size w W) (g : Nat) (M : Nat → Bool) (p q : ByteArray) (hrow : MarkRow W g n M) (hq : q.size ≤ 1000000) => lower_in ks A a n cap P V R K B Rv Kv g M p q W (hE.below hW) (h.below hW) hs hrow hq
  have H := Lib.hid h
  have HSH := Lib.hid hs
  have HE := Lib.hid hE
  have HT0 : Hid (toErr (enF n P V R K B) roots caps = orE (badErr (enF n P V R K B) caps) (rootsErr (enF n P V R K B) roots)) := Lib.hid rfl
  obtain ⟨ar, rn, rc, Q, U, rfl, hrE, hrnc, hrcap, hrc⟩ := hr
  have HRL : Hid (∀ j, j < rn → (U j).size ≤ 1000000) := Lib.hid (fun j hj => by
    rw [hrE] at hrs
    exact ((short_F hrs).2 j hj).2)
  have hrn : rn ≤ 10000 := by rw [hrE, mdF_length] at hl; exact hl
  have HRE := Lib.hid hrE
  obtain ⟨ac, cn, cc, _, _, rfl, _⟩ := id hc
  replace hbad := Lib.hid hbad
  replace hre := Lib.hid hre
  replace hlo := Lib.hid hlo
  replace hrc := Lib.hid hrc
  clear h hs hE hrs hsc hc hl hrE
  go_enter Tryz.func76, Tryz.ntmps76
  go_wp2_with fail
  refine hbad.out.mono ?_
  rintro e w1 ⟨⟨x1, ev1, rfl, hf1, hx1, hx1n⟩, hB⟩
  rcases fault_form hf1 with ⟨h0, rfl⟩ | ⟨h0, ty, q, rfl⟩
  · obtain ⟨g, M, rfl, hrow, hM⟩ := hx1 h0
    rw [enF_length] at hrow hM
    have HROW := Lib.hid hrow
    have HM := Lib.hid hM
    have HB0 := Lib.hid h0
    have hre1 := hre.out w1 hB
    rw [enF_length]
    replace hre1 := Lib.hid hre1
    clear hf1 hx1 hx1n h0 hrow hM hbad hre
    go_wp2_with fail
    refine hre1.out.mono ?_
    rintro e w2 ⟨⟨x2, ev2, rfl, hf2, _⟩, hb2⟩
    have hB2 := below_step hB hb2
    have HSE : Hid (toErr (enF n P V R K B) roots caps = startErr (enF n P V R K B) roots ∧ (idxErr (enF n P V R K B)).1 = 0) := Lib.hid (by
      have h1 := HB0.out
      unfold badErr at h1
      rw [orE_zero] at h1
      refine ⟨?_, h1.1⟩
      rw [HT0.out]
      unfold startErr orE
      rw [if_neg (by rw [HB0.out]; simp), if_neg (by rw [h1.1]; simp)])
    have HROW2 := Lib.hid (HROW.out.below hb2)
    clear hb2 HROW hre1
    rcases fault_form hf2 with ⟨h0, rfl⟩ | ⟨h0, ty, q, rfl⟩
    · have HG := Lib.hid (rightG_of h0)
      have HS0 := Lib.hid (startErr_at h0)
      have hn : n ≤ 100 := by have := HG.out.idx.len; rwa [enF_length] at this
      clear hf2 h0
      go_wp2_with fail
      go_loopw [12, 16, 37] (fun o _ x wr => ∃ (k : Nat) (L : List (ByteArray × ByteArray)), k ≤ rn ∧ x = .int .i64 k ∧ Hid (wr.ownsRow w2.heap.size 47 2 o L.length (mdVs L)) ∧ L.length ≤ k ∧ Hid (mdTs L = lowsF (enF n P V R K B) M ((mdF rn Q U).take k)) ∧ Below w2.heap.size w2 wr) (fun _ _ x _ => rn - (intOf x).toNat)
      case atStart => exact ⟨0, [], Nat.zero_le _, rfl, Lib.hid (World.ownsRow_nil _ _ _ _), Nat.le_refl _, Lib.hid (by simp [mdTs, lowsF]), Below.refl _ _⟩
      case round =>
        obtain ⟨k, L, hk, rfl, hO, hLk, hT, hBr⟩ := hrel
        obtain ⟨ao, no, co, rfl⟩ := own_form hO.out
        by_cases hlt : k < rn
        · have hkn : (k : Int) < (rn : Int) := by omega
          obtain ⟨b1, o1, ea, c0, c1⟩ := hrc.out k hlt
          replace c0 := Below.cell_some (below_step hB2 hBr) c0
          replace c1 := Below.cell_some (below_step hB2 hBr) c1
          have hba := below_alloc wr (.cells #[.string (Q k), .string (U k)] 47)
          obtain ⟨y0, y1, _⟩ := box2_alloc wr (.string (Q k)) (.string (U k)) 47
          have hB3 := below_step hBr hba
          have hlo3 := hlo.out _ (below_step hB2 hB3) g M (Q k) (U k) (HROW2.out.below hB3) (HRL.out k hlt)
          have hO3 := Lib.hid (hO.out.below hba)
          have hTk : lowsF (enF n P V R K B) M ((mdF rn Q U).take (k + 1)) = lowsF (enF n P V R K B) M ((mdF rn Q U).take k) ++ ((lowF (enF n P V R K B) M ((Q k).data.toList, (U k).data.toList)).map fun v => ((Q k).data.toList, v)).toList := by
            rw [List.take_add_one, mdF_get rn Q U k hlt]
            exact lowsF_snoc _ _ _ _
          have HTK := Lib.hid hTk
          subst ea
          replace hlo3 := Lib.hid hlo3
          clear hTk hba hO
          go_wp2_with fail
          generalize wr.alloc (.cells #[.string (Q k), .string (U k)] 47) = w3 at *
          refine hlo3.out.mono ?_
          rintro e w4 ⟨⟨v, b, rfl, hlow⟩, hb4⟩
          have hba2 := below_alloc w4 (.cells #[.string (if b = true then Q k else ⟨#[]⟩), .string v] 47)
          obtain ⟨u0, u1, _⟩ := box2_alloc w4 (.string (if b = true then Q k else ⟨#[]⟩)) (.string v) 47
          have hO4 := Lib.hid ((ownsRow_kept hO3.out hb4).below hba2)
          have hB4 := below_step (below_step hB3 hb4) hba2
          have HLOW := Lib.hid hlow
          clear hlow hlo3 hb4 hba2 c0 c1 y0 y1 hO3 hB3
          cases b with
          | false =>
            have HN : Hid (mdTs L = lowsF (enF n P V R K B) M ((mdF rn Q U).take (k + 1))) := Lib.hid (by
              rw [HTK.out, ← HLOW.out, hT.out]
              simp)
            clear hT HTK HLOW
            simp only [Bool.false_eq_true, if_false] at u0 u1 hO4 hB4
            go_wp2_with fail
            go_roundw
            case rel => exact ⟨k + 1, L, by omega, by go_num, hO4, by omega, HN, hB4⟩
            case measure => simp [intOf]; omega
          | true =>
            have HN : Hid (mdTs (L ++ [(Q k, v)]) = lowsF (enF n P V R K B) M ((mdF rn Q U).take (k + 1))) := Lib.hid (by
              rw [HTK.out, ← HLOW.out, mdTs_sn, hT.out]
              simp)
            clear hT HTK HLOW
            simp only [if_true] at u0 u1 hO4 hB4
            obtain ⟨w5, hW⟩ : ∃ W, w4.alloc (.cells #[.string (Q k), .string v] 47) = W := ⟨_, rfl⟩
            rw [hW] at u0 u1 hO4 hB4
            have hown := Lib.hid (fun q (e : (Value.slice ao no co).ownBlock = some q) => (hO4.out.lt q e).1)
            go_wp2_with (at_builtin; refine wpList_append_own _ rfl _ _ 23 rfl w2.heap.size 47 i0 (.agg #[.string ⟨#[]⟩, .string ⟨#[]⟩]) 2 32 Tryz.underlying23 hi hz0 hz1 hz2 rfl (by decide) _ _ _ rfl (hO4.out.alloc _) ⟨w5.heap.size, 0, none⟩ 1 1 [.string (Q k), .string v] rfl rfl (cell_two_new _ _ _ _) (by intro u hu; simp at hu; rcases hu with rfl | rfl <;> rfl) (by unfold maxLen; omega) (by omega) (by have := hB4.size; simp; omega) ?_; intro o' w7 hown4 hgrow4 _)
            go_roundw
            case rel =>
              refine ⟨k + 1, L ++ [(Q k, v)], by omega, by go_num, Lib.hid ?_, by simp; omega, HN, ?_⟩
              · rw [List.length_append, List.length_singleton, ← mdVs_snoc]
                exact hown4
              · exact (hB4.alloc hB4.size _).grown hgrow4 (by have := hB4.size; simp; omega) hown.out
            case measure => simp [intOf]; omega
        · obtain rfl : rn = k := by omega
          have hTL : mdTs L = lowsF (enF n P V R K B) M (mdF rn Q U) := by
            rw [hT.out, List.take_of_length_le (by rw [mdF_length]; exact Nat.le_refl _)]
          have hOK : ∀ m ∈ L, OkM m := fun m hm => by
            have h1 : (m.1.data.toList, m.2.data.toList) ∈ lowsF (enF n P V R K B) M (mdF rn Q U) := by rw [← hTL]; exact List.mem_map.2 ⟨m, hm, rfl⟩
            obtain ⟨h2, e, he, h3⟩ := lowsF_mem h1
            have h4 := (HSH.out.mds e he).2
            rw [h3] at h4
            refine ⟨h2, ?_⟩
            rw [size_eq]
            have h5 : m.2.data.toList.length ≤ 1000000 := h4
            omega
          have hB9 := below_step hB2 hBr
          have hso := sortMO_calls ks A w wr HE.out w.heap.size _ L hB9 (Nat.le_refl _) (hO.out.mono (base' := w.heap.size) hB2.size) hOK (by omega)
          have HTL := Lib.hid hTL
          have hnk : ¬ (rn : Int) < (rn : Int) := by omega
          replace hso := Lib.hid hso
          clear hTL hOK hT hlt hk
          go_wp2_with fail
          refine hso.out.mono ?_
          rintro e w8 ⟨rfl, ⟨L', hlL, hO', hpm, hpw⟩, hB8⟩
          have hco := compM_calls w.heap.size _ L' w8 hO' hB8.size (by omega)
          have HP := Lib.hid (And.intro hpm hpw)
          replace hco := Lib.hid hco
          clear hpm hpw hO' hso hlL hLk
          go_wp2_with fail
          refine hco.out.mono ?_
          rintro e w9 ⟨⟨v9, rfl, hO9⟩, hb9⟩
          have hM9 := modsAt_own hO9
          have HM9 := Lib.hid hO9
          obtain ⟨a9, n9, c9, rfl⟩ := own_form hO9
          clear hM9 hO9 hco
          go_wp2_with fail
          go_ret2
          rw [HSE.out.1, HS0.out]
          refine ⟨⟨_, _, rfl, .inl ⟨rfl, rfl, rfl⟩, fun _ => ⟨_, HM9.out, M, fun j hj => HM.out j (by rwa [enF_length] at hj), ?_, fun m => ?_⟩, fun h => absurd rfl h⟩, hB8.trans hb9⟩
          · refine ddB_rises HP.out.2 (fun m hm => ?_)
            have h1 := HP.out.1.mem_iff.1 hm
            rw [HTL.out] at h1
            obtain ⟨_, e, he, h3⟩ := lowsF_mem h1
            rw [← h3]
            exact HG.out.idx.mds e he
          · rw [mem_mdTs_ddB, HP.out.1.mem_iff, HTL.out, HRE.out]
    · have HV := Lib.hid hf2
      have H0 := Lib.hid h0
      clear hf2 h0
      go_wp2_with fail
      go_ret2
      rw [HSE.out.1]
      exact ⟨⟨_, _, rfl, HV.out, fun h => absurd h H0.out, fun _ => rfl⟩, hB2⟩
  · have HV := Lib.hid hf1
    have H0 := Lib.hid h0
    have HTE : Hid (toErr (enF n P V R K B) roots caps = badErr (enF n P V R K B) caps) := Lib.hid (by
      rw [HT0.out]; unfold orE; rw [if_pos h0])
    clear hf1 hx1 hx1n h0
    go_wp2_with fail
    go_ret2
    rw [HTE.out]
    exact ⟨⟨_, _, rfl, HV.out, fun h => absurd h H0.out, fun _ => rfl⟩, hB⟩
end Go.Proofs.Pw

namespace Go.Proofs.Pw
open Go.RowKit
open Go.Lib hiding intOf
theorem grown_kept {w w' : World} {g : Nat} (h : Kept g w w') : w.grownBy w' (some g) := ⟨h.os, h.tape, h.output, h.size, fun k hk hn => h.all k hk (fun e => hn (by rw [e]))⟩
theorem kept_grown {w w' : World} {g : Nat} (h : w.grownBy w' (some g)) : Kept g w w' := ⟨h.os, h.tape, h.output, h.size, fun k hk hn => h.block k hk (fun e => hn (Option.some.inj e))⟩
set_option maxHeartbeats 4000000 in
set_option maxRecDepth 100000 in
theorem deleteFuncKM_calls (g : Nat) (lb : Array Value) (eg : ∀ args w, (callFunc g args).run Tryz.prog w = .ok (.enter g args) w) (p : Md → Bool) (base : Nat) (v : Value) (L : List (ByteArray × ByteArray)) (w : World) (hown : w.ownsRow base 47 2 v L.length (mdVs L)) (hbase : base ≤ w.heap.size) (hl : L.length ≤ 1000000) (hT : TestsL g lb p L base w) :
    Calls Tryz.prog 77 #[v, .func (.func g) #[] lb] w fun e w' => (∃ v', e = .returned v' ∧ w'.ownsRow base 47 2 v' (L.filter fun m => !pOf p m).length (mdVs (L.filter fun m => !pOf p m))) ∧ Below base w w' ∧ ∀ gk, v.ownBlock = some gk ∨ v.ownBlock = none → Kept gk w w' := by
  have hm := modsAt_own hown
  obtain ⟨a0, n0, cap0, P, V, e0, e1, hnc, hcap, hc⟩ := id hm
  have hn0 : n0 = L.length := by have := congrArg List.length e1; rw [mdF_length, mdTs_length] at this; exact this.symm
  subst hn0
  have hPV : ∀ j, j < L.length → (P j, V j) ∈ L := fun j hj => by
    have h1 := mdF_get L.length P V j hj
    rw [← e1] at h1
    unfold mdTs at h1
    rw [List.getElem?_map, List.getElem?_eq_getElem hj] at h1
    have h2 := Option.some.inj h1
    have h3 := bytes_pair.1 h2
    rw [← h3.1, ← h3.2]
    exact List.getElem_mem hj
  have hIF := indexFuncM_calls g lb eg p a0 L.length cap0 base P V w hl hbase hc (fun W hW j hj => hT W hW _ _ (hPV j hj))
  rw [← e1] at hIF
  subst e0
  clear hc hPV e1 hm hnc
  rcases findI_list p L with ⟨h1, hall⟩ | ⟨k0, x0, h1, hk0, ht, hall⟩
  · rw [h1] at hIF
    have hF : L.filter (fun m => !pOf p m) = L := List.filter_eq_self.2 (fun m hm => by rw [hall m hm]; rfl)
    rw [hF]
    have HO := Lib.hid hown
    clear hT hall hF h1 hown
    go_enter Tryz.func77, Tryz.ntmps77
    go_wp2_with fail
    refine hIF.mono ?_
    rintro e w1 ⟨rfl, hb1⟩
    go_wp2_with fail
    go_ret
    exact ⟨⟨_, rfl, ownsRow_kept HO.out hb1⟩, hb1.mono hbase, fun gk _ => Kept.of gk hb1⟩
  · rw [h1] at hIF
    have hkl : k0 < L.length := (List.getElem?_eq_some_iff.1 hk0).1
    have hI0 : DelInv (fun m => !pOf p m) L L k0 (k0 + 1) := DelInv.start hk0 (by rw [ht]; rfl) (fun y hy => by rw [hall y hy]; rfl)
    have hne1 : ((k0 : Int) == -1) = false := beq_eq_false_iff_ne.2 (by omega)
    rcases hown.2 with ⟨_, h2⟩ | ⟨g0, c0, cur, e1, hbg, hg, hn2, hm2, hcs, htk⟩
    · omega
    · injection e1 with e1 _ e3
      subst e1 e3
      have zr := Tryz.zeroValue47
      have HO := Lib.hid hown
      have HT := Lib.hid hT
      have HI := Lib.hid hI0
      have hgw : g0 < w.heap.size := (Array.getElem?_eq_some_iff.1 hg).1
      generalize hnL : L.length = n at *
      replace hnL := Lib.hid hnL
      clear hall h1 ht hk0 hT hown hI0 hg htk hcs
      go_enter Tryz.func77, Tryz.ntmps77
      go_wp2_with fail
      refine hIF.mono ?_
      rintro e w1 ⟨rfl, hb1⟩
      go_wp2_with fail
      go_loopg [5, 6, 7] n (fun gg s5 s6 _ wr => ∃ (i j : Nat) (M : List (ByteArray × ByteArray)), s5 = .int .i64 i ∧ s6 = .int .i64 j ∧ j ≤ n ∧ n - j ≤ gg ∧ Kept g0 w wr ∧ Hid (wr.ownsRow base 47 2 (.slice (some ⟨g0, 0, none⟩) n cap0) M.length (mdVs M)) ∧ Hid (DelInv (fun m => !pOf p m) L M i j))
      case atStart => exact ⟨k0, k0 + 1, L, rfl, by go_num, by omega, by omega, Kept.of g0 hb1, Lib.hid (by rw [hnL.out]; exact ownsRow_kept HO.out hb1), HI⟩
      case round =>
        obtain ⟨i, j, M, rfl, rfl, hjd, hgg, hK, hOM, hI⟩ := hrel
        have hB := hK.below hbg hbase
        have hij := hI.out.lt
        have hML := hI.out.len
        have hBs := hB.size
        by_cases hlt : j < n
        · have hltz : (j : Int) < (n : Int) := by omega
          obtain ⟨⟨x, y⟩, hxy⟩ : ∃ m, L[j]? = some m := ⟨_, List.getElem?_eq_getElem (by have := hnL.out; omega)⟩
          obtain ⟨cx, cy, -⟩ := own_cells hOM.out (hI.out.get.trans hxy)
          have hba := below_alloc wr (.cells #[.string x, .string y] 47)
          obtain ⟨z0, z1, _⟩ := box2_alloc wr (.string x) (.string y) 47
          have hcall := HT.out (wr.alloc (.cells #[.string x, .string y] 47)) (hB.trans (hba.mono (Nat.le_trans hbase hBs))) x y (List.mem_of_getElem? hxy)
          have hOa := ownsRow_kept hOM.out hba
          have hBa := hB.trans (hba.mono (Nat.le_trans hbase hBs))
          have hKa := hK.step hba
          have hin : (i : Int) < (n : Int) := by omega
          have HJ := Lib.hid (And.intro hI.out (And.intro hxy (And.intro hij hML)))
          obtain ⟨⟨u, s⟩, hus⟩ : ∃ m, M[i]? = some m := ⟨_, List.getElem?_eq_getElem (by have := hnL.out; omega)⟩
          have HOA := Lib.hid (And.intro hOa hus)
          cases hq : p (x.data.toList, y.data.toList) with
          | false =>
            rw [hq] at hcall
            have HQ : Hid (pOf p (x, y) = false) := Lib.hid hq
            clear hq hOa hus hI hxy hij hML hOM
            go_wp2_with (go_at_fn g; refine hcall.mono ?_; rintro e w2 ⟨rfl, hb2⟩; (have hO2 := Lib.hid (ownsRow_kept HOA.out.1 hb2)); (have hB2 := hBa.trans (hb2.mono (Nat.le_trans hbase (Nat.le_trans hBs hba.size)))); (have hK2 := hKa.step hb2); (replace z0 := Below.cell_some hb2 z0); (replace z1 := Below.cell_some hb2 z1); (obtain ⟨d0, d1, -⟩ := own_cells (i := i) hO2.out HOA.out.2); (have f0 := own_frozen (j := i * 2) hO2.out); (have f1 := own_frozen (j := i * 2 + 1) hO2.out); (have s1 : (w2.setCell ⟨g0, i * 2, none⟩ (.string x)).cell? ⟨g0, i * 2 + 1, none⟩ = some (.string s) := by rw [set_off _ (by omega)]; exact d1); (have s2 : (w2.setCell ⟨g0, i * 2, none⟩ (.string x)).frozen? ⟨g0, i * 2 + 1, none⟩ = false := by simpa using f1))
            go_roundg (n - (j + 1))
            case measure => omega
            case rel =>
              refine ⟨i + 1, j + 1, M.set i (x, y), by go_num, by go_num, by omega, Nat.le_refl _, (hK2.set _ _).set _ _, Lib.hid (own_put (i := i) hO2.out x y), Lib.hid (HJ.out.1.keep HJ.out.2.1 (by rw [HQ.out]; rfl))⟩
          | true =>
            rw [hq] at hcall
            have HQ : Hid (pOf p (x, y) = true) := Lib.hid hq
            clear hq hOa hus hI hxy hij hML hOM
            go_wp2_with (go_at_fn g; refine hcall.mono ?_; rintro e w2 ⟨rfl, hb2⟩)
            go_roundg (n - (j + 1))
            case measure => omega
            case rel => exact ⟨i, j + 1, M, rfl, by go_num, by omega, Nat.le_refl _, hKa.step hb2, Lib.hid (ownsRow_kept HOA.out.1 hb2), Lib.hid (HJ.out.1.skip HJ.out.2.1 (by rw [HQ.out]; rfl))⟩
        · obtain rfl : j = n := by omega
          have hltz : ¬ (j : Int) < (j : Int) := by omega
          have hfl := filter_len (q := fun m => !pOf p m) (L := L) (M := M) (i := i) (by rw [hnL.out]; exact hI.out)
          have hMn : M.length = j := by rw [hML]; exact hnL.out
          have hlen : (M.take i).length = i := by rw [List.length_take]; omega
          have HFL : Hid (L.filter (fun m => !pOf p m) = M.take i ∧ (M.take i).length = i) := Lib.hid ⟨hfl.1, hlen⟩
          rcases hOM.out.2 with ⟨h2, _⟩ | ⟨g5, c5, cur5, e5, _, hg5, _, _, hcs5, htk5⟩
          · cases h2
          · injection e5 with e5 e7 e6
            clear e7
            injection e5 with e5
            injection e5 with e5
            subst e5 e6
            have hfit : i * 2 + (j - i) * 2 ≤ cur5.toList.length := by rw [Array.length_toList, hcs5]; omega
            have hg5' : wr.heap[g0]? = some (.cells cur5.toList.toArray 47 (0, 0)) := by rw [Array.toArray_toList]; exact hg5
            have hzl := zeroCells_len (Value.agg #[.string ⟨#[]⟩, .string ⟨#[]⟩]).cells rfl (j - i)
            have hz1c : ∀ u ∈ (Builtin.zeroCells (Value.agg #[.string ⟨#[]⟩, .string ⟨#[]⟩]).cells (j - i)).toList, u.oneCell' = true := zeroMd_one (j - i)
            have hmv : (mdVs M).take (i * 2) = mdVs (M.take i) := (mdVs_take M i).symm
            have htk6 : cur5.toList.take (i * 2) = mdVs (M.take i) := by
              rw [← hmv, ← htk5, List.take_take]
              congr 1
              omega
            have HF := Lib.hid (And.intro hfit (And.intro hzl (And.intro htk6 hcs5)))
            have HG := Lib.hid hg5'
            have HZ := Lib.hid hz1c
            have hi1 : (i : Int) ≤ (j : Int) := by omega
            have hi2 : ¬ (cap0 = i) := by omega
            have hi3 : i ≤ cap0 := by omega
            have hi4 : (i : Int) ≤ (cap0 : Int) := by omega
            have hi5 : (j : Int) ≤ (cap0 : Int) := by omega
            have hzv : ∀ w, (zeroValue 47).run Tryz.prog w = .ok (.agg #[.string ⟨#[]⟩, .string ⟨#[]⟩]) w := Tryz.zeroValue47
            clear hfl hMn hlen hOM hg5 hg5' hfit hzl hz1c hmv htk6 htk5 hcs5 hI hML
            go_wp2_with (refine wpList_clearK rfl _ 23 rfl 47 (.agg #[.string ⟨#[]⟩, .string ⟨#[]⟩]) (j - i) Tryz.underlying23 hzv HF.out.2.1 HZ.out g0 (i * 2) _ (by omega) rfl _ 47 HG.out HF.out.1 base w hB hbg ?_; intro w5 hg5 hb15 hc15)
            go_ret
            have hg5 := hg5.out
            refine ⟨⟨_, rfl, ?_⟩, hb15, fun gk e => by
              rcases e with e | e
              · obtain rfl : g0 = gk := Option.some.inj e
                exact hK.trans (kept_grown hc15.out)
              · cases e⟩
            rw [HFL.out.1, HFL.out.2]
            refine ⟨by rw [mdVs_length, HFL.out.2], .inr ⟨g0, cap0, _, rfl, hbg, hg5, by omega, hm2, ?_, ?_⟩⟩
            · have h1 := splice_length (L := cur5.toList) (cs := (Builtin.zeroCells (Value.agg #[.string ⟨#[]⟩, .string ⟨#[]⟩]).cells (j - i)).toList) (o := i * 2) (by rw [HF.out.2.1]; exact HF.out.1)
              rw [List.size_toArray, h1, Array.length_toList]
              exact HF.out.2.2.2
            · have h2 := splice_take (L := cur5.toList) (cs := (Builtin.zeroCells (Value.agg #[.string ⟨#[]⟩, .string ⟨#[]⟩]).cells (j - i)).toList) (o := i * 2) (by rw [HF.out.2.1]; exact HF.out.1)
              rw [List.toList_toArray, h2]
              exact HF.out.2.2.1
end Go.Proofs.Pw

namespace Go.Proofs.Pw
open Go.RowKit
open Go.Lib hiding intOf
theorem step_append_run {P : Program} {ops : Array Oper} {o : Oper} {a : Act} {w : World} {K : Act → World → Prop} {Q : Exit → Act → World → Prop} {E : Prop} (hgd : o.guard = none) (s x : Operand) (t : TypeId)
    (ho : o.op = .call { callee := .builtin .append, args := #[s, x], argTypes := #[t, t] }) (v y : Value) (hs : a.eval s = v) (hx : a.eval x = y) (v' : Value) (w' : World)
    (hr : (Builtin.append_ #[t, t] o.type #[v, y]).run P w = .ok v' w') (h : K (a.put o.dst v') w') :
    if Region.wanted o (yielded ops a.tmps) = true then Oper.wp P o a w K Q else E := by
  have hw : Region.wanted o (yielded ops a.tmps) = true := by simp [Region.wanted, hgd]
  rw [if_pos hw]
  unfold Oper.wp execOp
  simp only [ho, resolve, invoke, builtin, Sem.run_bind, Sem.run_pure, Result.andThen_ok, List.map_toArray, List.map_cons, List.map_nil, hs, hx, hr]
  exact h
theorem Tryz.enters_next1 : ∀ args w, (callFunc 78 args).run Tryz.prog w = .ok (.enter 78 args) w := Go.Proofs.enters_of Tryz.func78 (by kernel_rfl) rfl
def isNone (m : Md) : Bool := decide (m.2 = noneS)
theorem next1_calls (p v : ByteArray) (w : World) :
    Calls Tryz.prog 78 #[.agg #[.string p, .string v]] w fun e w' => e = .returned (.bool (isNone (p.data.toList, v.data.toList))) ∧ Below w.heap.size w w' := by
  have hb1 := below_alloc w (.cells #[.string p, .string v] 47)
  obtain ⟨m0, m1, _⟩ := box2_alloc w (.string p) (.string v) 47
  have HD : Hid (isNone (p.data.toList, v.data.toList) = (v.toList == [110, 111, 110, 101])) := Lib.hid (by
    unfold isNone
    rw [toList_data, Bool.eq_iff_iff, decide_eq_true_iff, beq_iff_eq]
    rfl)
  go_enter Tryz.func78, Tryz.ntmps78
  go_wp2_with fail
  go_ret
  rw [HD.out]
  exact ⟨rfl, hb1⟩
theorem live_filter (L : List RB) : mdTs (L.filter fun m => !pOf isNone m) = liveL (mdTs L) := by
  have h := mdTs_filter L (fun m => !isNone m)
  have e : pOf (fun m => !isNone m) = fun m => !pOf isNone m := rfl
  rw [e] at h
  rw [h]
  unfold liveL
  congr 1
  funext m
  unfold isNone
  rw [decide_not]
theorem own_off {w : World} {base e k n g : Nat} {v : Value} {xs : List Value} (h : w.ownsRow base e k v n xs) (hg : g < base) : v.ownBlock = none ∨ v.ownBlock ≠ some g := by
  refine Classical.or_iff_not_imp_left.2 fun _ e => ?_
  have := (h.lt g e).1
  omega
theorem toErr_idx {l : List En} {roots caps : List Md} (h : (toErr l roots caps).1 = 0) : RightI l := by
  unfold toErr badErr at h
  rw [orE_zero, orE_zero] at h
  exact rightI_of h.1.1
theorem toT_len {l : List En} {roots caps : List Md} (hR : RightI l) : (toT l caps roots).length ≤ l.length := by
  have h := toT_is hR caps roots
  have hr : Rises modCmp (toT l caps roots) := h.choose_spec.2.1
  have h1 := List.Nodup.length_le_of_subset (l₁ := toT l caps roots) (l₂ := l.map (·.md)) (hr.imp fun {x y} h e => by subst e; rw [modCmp_ord.self] at h; omega) (fun m hm => by
    obtain ⟨⟨e, he, rfl⟩, _⟩ := toP_mem hR h hm
    exact List.mem_map.2 ⟨e, he, rfl⟩)
  rwa [List.length_map] at h1
set_option maxHeartbeats 8000000 in
set_option maxRecDepth 100000 in
theorem getNext_in (ks : List Nat) (A : Nat → Addr) (hks : IdxKs ks) (a : Option Addr) (n cap : Nat) (P V : Nat → ByteArray) (R : Nat → List Md) (K : Nat → List Str) (Bk : Nat → Bool) (Rv Kv : Nat → Value) (bv : Value) (bl : List Md) (bg b : Nat) (S : List PinB) (w : World) (hG : GetW ks A a n cap P V R K Bk Rv Kv bv bl bg b w) (hP : PinTab w b S) (hs : ShortI (enF n P V R K Bk)) (hB1 : bl.length ≤ 10000) (hB2 : Short bl) (hl : S.length ≤ 10000) (hsc : Short (capsL (S.map pinT))) :
    Calls Tryz.prog 33 #[.pointer (some ⟨bg, 0, none⟩)] w fun e w' => (∃ x ev, e = .returned (.tuple #[x, ev]) ∧ FaultAt A w' ev (nextErr (enF n P V R K Bk) bl (capsL (S.map pinT))) ∧ ((nextErr (enF n P V R K Bk) bl (capsL (S.map pinT))).1 = 0 → ModsAt w' x (nextB (enF n P V R K Bk) bl (capsL (S.map pinT))))) ∧ Below w.heap.size w w' := by
  have hca := getCaps_calls bg b S w hG.g2 hP (by omega)
  have hto := fun W (hW : Below w.heap.size w W) cv (hc : ModsAt W cv (capsL (S.map pinT))) => toO_in ks A hks a n cap P V R K Bk Rv Kv bv cv bl (capsL (S.map pinT)) W (hG.below hW).env (hG.below hW).ents hs (hG.below hW).build hB1 hB2 hc hsc
  have hbu := fun W (hW : Below w.heap.size w W) rv roots (hr : ModsAt W rv roots) (hl : roots.length ≤ 100000) => mvsBuild_in ks A hks a n cap P V R K Bk Rv Kv rv roots W (hG.below hW).env (hG.below hW).ents hs hr hl
  have z0 := hG.g0
  have z1 := hG.g1
  have HBG := Lib.hid (lt_of_cell z0)
  have HZ0 := Lib.hid z0
  have HCL : Hid ((capsL (S.map pinT)).length ≤ 10000) := Lib.hid (by have := capsL_len (S.map pinT); rw [List.length_map] at this; omega)
  obtain ⟨l, hll⟩ : ∃ x, enF n P V R K Bk = x := ⟨_, rfl⟩
  simp only [hll] at hto hbu ⊢
  obtain ⟨C, hC⟩ : ∃ x, capsL (S.map pinT) = x := ⟨_, rfl⟩
  simp only [hC] at hca hto HCL ⊢
  obtain ⟨ab, nb, cb, _, _, rfl, _⟩ := id hG.build
  have HN1 : Hid ((toErr l bl C).1 ≠ 0 → nextErr l bl C = toErr l bl C) := Lib.hid (fun h => by unfold nextErr orE; rw [if_pos h])
  have HN2 : Hid ((toErr l bl C).1 = 0 → nextErr l bl C = startErr l (toT l C bl ++ liveL C)) := Lib.hid (fun h => by unfold nextErr orE; rw [if_neg (by simp [h])])
  have HNB : Hid (nextB l bl C = buildL l (toT l C bl ++ liveL C)) := Lib.hid rfl
  generalize nextErr l bl C = NE at *
  generalize nextB l bl C = NB at *
  replace hca := Lib.hid hca
  replace hto := Lib.hid hto
  replace hbu := Lib.hid hbu
  clear hG hP hs hB1 hB2 hl hsc hll hC
  go_enter Tryz.func33, Tryz.ntmps33
  go_wp2_with fail
  refine hca.out.mono ?_
  rintro e w1 ⟨⟨v1, L1, rfl, ho1, hL1⟩, hb1⟩
  have hM1 := modsAt_own ho1
  rw [hL1] at hM1
  obtain ⟨a1, n1, c1, rfl⟩ := own_form ho1
  replace z0 := Below.cell_some hb1 z0
  replace z1 := Below.cell_some hb1 z1
  have HO1 := Lib.hid ho1
  have HL1 := Lib.hid hL1
  have HB1 := Lib.hid hb1
  have hbW := (Below.refl w1.heap.size w1).drew
  have hto1 := hto.out w1.drew (below_step hb1 hbW) (.slice a1 n1 c1) (hM1.below hbW)
  have hzz : w1.drew.cell? ⟨bg, 0, none⟩ = some (.slice a n cap) ∧ w1.drew.cell? ⟨bg, 1, none⟩ = some (.slice ab nb cb) := ⟨z0, z1⟩
  replace hto1 := Lib.hid hto1
  clear hca hto hM1 ho1 hL1 hb1 z0 z1
  go_wp2_with fail
  go_region_held2 (fun W => W.cell? ⟨bg, 0, none⟩ = some (.slice a n cap) ∧ W.cell? ⟨bg, 1, none⟩ = some (.slice ab nb cb)) (exact hzz) (first
    | (go_at_call 76; refine hto1.out.mono ?_; rintro e w3 ⟨⟨x3, ev3, rfl, hf3, hx3, hn3⟩, hb3⟩; replace hzz := And.intro (Below.cell_some hb3 hzz.1) (Below.cell_some hb3 hzz.2); replace hbW := below_step hbW hb3))
  all_goals
    rcases fault_form hf3 with ⟨h0, rfl⟩ | ⟨h0, ty, q, rfl⟩
    · obtain ⟨L3, ho3, hT3⟩ := hx3 h0
      have HR := Lib.hid (toErr_idx h0)
      have HT3 : Hid (toT l C bl = mdTs L3) := Lib.hid (toT_of HR.out hT3)
      have HN := Lib.hid (HN2.out h0)
      obtain ⟨a3, n3, c3, rfl⟩ := own_form ho3
      have HO3 := Lib.hid ho3
      have HBW := Lib.hid hbW
      have hbX := (Below.refl w3.heap.size w3).drew
      have hoc : w3.drew.ownsRow w.heap.size 47 2 (.slice a1 n1 c1) L1.length (mdVs L1) := (HO1.out.below hbW).drew
      have hdl := deleteFuncKM_calls 78 #[] Tryz.enters_next1 isNone w.heap.size (.slice a1 n1 c1) L1 w3.drew hoc (by have := HB1.out.size; have := hbW.size; simp; omega) (by have := HCL.out; rw [← HL1.out, mdTs_length] at this; omega) (fun W hW x y hxy => next1_calls x y W)
      replace hdl := Lib.hid hdl
      have hz0 : w3.drew.cell? ⟨bg, 0, none⟩ = some (.slice a n cap) := hzz.1
      have hs3 : w1.heap.size ≤ w3.heap.size := by have := hbW.size; simpa using this
      have HL3 : Hid (L3.length ≤ 100 ∧ (liveL C).length ≤ 10000) := Lib.hid (by
        have h1 := toT_len (caps := C) (roots := bl) HR.out
        rw [HT3.out, mdTs_length] at h1
        exact ⟨Nat.le_trans h1 HR.out.len, Nat.le_trans (List.length_filter_le _ _) HCL.out⟩)
      have HLT : Hid (∃ gk, ((Value.slice a1 n1 c1).ownBlock = some gk ∨ (Value.slice a1 n1 c1).ownBlock = none) ∧ gk < w1.heap.size) := Lib.hid (by
        cases e : (Value.slice a1 n1 c1).ownBlock with
        | none => exact ⟨bg, .inr rfl, Nat.lt_of_lt_of_le HBG.out HB1.out.size⟩
        | some gk => exact ⟨gk, .inl rfl, (HO1.out.lt gk e).2⟩)
      obtain ⟨gk, hgk, hgl⟩ := HLT.out
      have HGK := Lib.hid (And.intro hgk hgl)
      clear h0 hf3 hx3 hn3 ho3 hT3 hbW hto1 HN1 HN2 hzz hoc hgk hgl
      have hdl2 : Calls Tryz.prog 77 #[.slice a1 n1 c1, .func (.func 78) #[] #[]] w3.drew fun e w4 => ∃ v4 o5 w5 L5, e = .returned v4 ∧ w4.cell? ⟨bg, 0, none⟩ = some (.slice a n cap) ∧ (Builtin.append_ #[23, 23] 23 #[.slice a3 n3 c3, v4]).run Tryz.prog w4 = .ok o5 w5 ∧ Below w.heap.size w w5 ∧ w5.cell? ⟨bg, 0, none⟩ = some (.slice a n cap) ∧ ModsAt w5 o5 (mdTs L5) ∧ mdTs L5 = mdTs L3 ++ liveL C ∧ (mdTs L5).length ≤ 100000 := by
        refine hdl.mono ?_
        rintro e w4 ⟨⟨v4, rfl, ho4⟩, hB4, hk4⟩
        have hz4 : w4.cell? ⟨bg, 0, none⟩ = some (.slice a n cap) := (World.cell?_of_block (hB4.block bg HBG.out)).trans hz0
        have hK4 := hk4 gk HGK.out.1
        have hM4 := modsAt_own ho4
        rw [live_filter, HL1.out] at hM4
        have hs4 : w3.heap.size ≤ w4.heap.size := hK4.size
        have hO4 : w4.ownsRow w1.heap.size 47 2 (.slice a3 n3 c3) L3.length (mdVs L3) := HO3.out.drew.kept (grown_kept hK4) (own_off HO3.out HGK.out.2)
        obtain ⟨o5, w5, hap, ⟨L5, hL5, ho5⟩, hg5⟩ := app_mods w4 w1.heap.size (by omega) (.slice a3 n3 c3) v4 L3 (liveL C) hO4 hM4 (by have := HL3.out.1; omega) (by have := HL3.out.2; omega)
        have hB5 : Below w.heap.size w w5 := ((below_step HB1.out HBW.out).drew.trans hB4).grown hg5 (by have := HB1.out.size; omega) (fun q hq => by have := (hO4.lt q hq).1; have := HB1.out.size; omega)
        have hz5 : w5.cell? ⟨bg, 0, none⟩ = some (.slice a n cap) := (World.cell?_of_block (hB5.block bg HBG.out)).trans HZ0.out
        have hM5 := modsAt_own ho5
        have hl5 : (mdTs L5).length ≤ 100000 := (by rw [hL5, List.length_append, mdTs_length]; have := HL3.out; omega)
        exact ⟨_, o5, w5, L5, rfl, hz4, hap, hB5, hz5, hM5, hL5, hl5⟩
      replace hdl2 := Lib.hid hdl2
      clear hdl
      go_wp2_with fail
      go_region_held2 (fun W => W.cell? ⟨bg, 0, none⟩ = some (.slice a n cap)) (first | exact hz6 | exact hz5 | exact hz4 | exact hz0) (first
        | (go_at_call 77; refine hdl2.out.mono ?_; rintro e w4 ⟨v4, o5, w5, L5, rfl, hz4, hap, hB5, hz5, hM5, hL5, hl5⟩)
        | (refine step_append_run rfl (.tmp 29) (.tmp 31) 23 rfl (.slice a3 n3 c3) v4 (by simp [Act.eval]) (by simp [Act.eval]) _ _ hap ?_)
        | (go_at_call 10; refine (hbu.out w5 hB5 o5 (mdTs L5) hM5 hl5).mono ?_; rintro e w6 ⟨⟨x6, ev6, rfl, hf6, hx6⟩, hb6⟩; have hB6 := below_step hB5 hb6; have hz6 := Below.cell_some hb6 hz5))
      all_goals
        rw [hL5, ← HT3.out] at hf6 hx6
        rw [← HN.out] at hf6
        go_wp2_with fail
        go_ret2
        refine ⟨⟨_, _, rfl, hf6, fun hz => ?_⟩, hB6⟩
        rw [HNB.out]
        have hz2 := hz
        rw [HN.out] at hz2
        unfold buildR at hx6
        rw [if_pos hz2] at hx6
        exact hx6
    · have HN := Lib.hid (HN1.out h0)
      have HV := Lib.hid hf3
      have H0 := Lib.hid h0
      have HBF := Lib.hid (below_step HB1.out hbW)
      clear h0 hf3 hx3 hn3 hto1 HN1 HN2 hzz hbW
      go_wp2_with fail
      go_ret2
      rw [HN.out]
      exact ⟨⟨_, _, rfl, HV.out, fun h => absurd h H0.out⟩, HBF.out⟩
end Go.Proofs.Pw
