/- Da: walks and plain laws, joined: DnBad LatestMath SlDel SortLayS Bel. Conditions: at each theorem. -/
import Derived.Test.YtnanklfbmmionaaGreatDoorDah
import Derived.Test.YtnanklfbmmionaaGreatDoorDaj
import Derived.Test.YtnanklfbmmionaaGreatDoorDak
import Derived.Test.YtnanklfbmmionaaGreatDoorDao
import Derived.Test.YtnanklfbmmionaaGreatDoorDaf
import Derived.Test.YtnanklfbmmionaaGreatDoorDab
import Derived.Lib.SlKept
import Derived.Lib.SliceRun
import Derived.LoopTactic
import Derived.Sort.EncStr
import Derived.Deep.LoopGhost
import Derived.Shelf.Abstract
import Derived.RegionTactic
import Derived.BigRegion
import Derived.WalkKit
import Derived.Test.YtnanklfbmmionaaGreatDoorProg
import Derived.Shelf.SlSortCmp.NoneTotal
import Derived.Test.YtnanklfbmmionaaGreatDoorDae

namespace Go.Proofs.Pw
open Go.RowKit
open Go.Lib hiding intOf
def BadAt (w : World) (x : Value) (l : List En) (caps : List Md) : Prop :=
  ∃ (g : Nat) (M : Nat → Bool), x = .slice (some ⟨g, 0, none⟩) l.length l.length ∧ MarkRow w g l.length M ∧ ∀ j, j < l.length → (M j = true ↔ BadP l caps (enAt l j).md)
theorem BadAt.below {w w' : World} {x : Value} {l : List En} {caps : List Md} (h : BadAt w x l caps) (hb : Below w.heap.size w w') : BadAt w' x l caps :=
  let ⟨g, M, e, h1, h2⟩ := h; ⟨g, M, e, h1.below hb, h2⟩
theorem row_box (w : World) (g n : Nat) (M : Nat → Bool) (_h : MarkRow w g n M) {b : Nat} {v : Value} (z : w.cell? ⟨b, 0, none⟩ = some v) (hne : b ≠ g) (k : Nat) : (w.setCell ⟨g, k, none⟩ (.bool true)).cell? ⟨b, 0, none⟩ = some v := by
  rw [set_blk _ hne]; exact z
set_option maxHeartbeats 8000000 in
set_option maxRecDepth 100000 in
theorem bad_in (ks : List Nat) (A : Nat → Addr) (hks : IdxKs ks) (a : Option Addr) (n cap : Nat) (P V : Nat → ByteArray) (R : Nat → List Md) (K : Nat → List Str) (B : Nat → Bool) (Rv Kv : Nat → Value) (cv : Value) (caps : List Md) (w : World) (hE : EnvP ks A w) (h : EntsIn w a n cap P V R K B Rv Kv) (hs : ShortI (enF n P V R K B)) (hr : ModsAt w cv caps) (hsc : Short caps) :
    Calls Tryz.prog 34 #[.slice a n cap, cv] w fun e w' => (∃ x ev, e = .returned (.tuple #[x, ev]) ∧ FaultAt A w' ev (badErr (enF n P V R K B) caps) ∧ ((badErr (enF n P V R K B) caps).1 = 0 → BadAt w' x (enF n P V R K B) caps) ∧ ((badErr (enF n P V R K B) caps).1 ≠ 0 → x = .slice none 0 0)) ∧ Below w.heap.size w w' := by
  have hb0 := below_alloc w (.cells #[.slice a n cap] 22)
  have z1 : (w.alloc (.cells #[.slice a n cap] 22)).cell? ⟨w.heap.size, 0, none⟩ = some (.slice a n cap) := by simp
  obtain ⟨ca, cn, cc, _, _, rfl, _⟩ := id hr
  have H := Lib.hid h
  have HSH := Lib.hid hs
  have HE := Lib.hid hE
  have HR0 := Lib.hid hr
  have HSC := Lib.hid hsc
  have hck := idxCheck_in ks A hks a n cap P V R K B Rv Kv (w.alloc (.cells #[.slice a n cap] 22)) (hE.below hb0) (h.below hb0) hs
  have hdc := fun (W : World) (hW : Below w.heap.size w W) => downCheck_calls ks A hks (.slice ca cn cc) caps W (hE.below hW) (hr.below hW) hsc
  have hab := fun (p q : ByteArray) (W : World) (hW : Below w.heap.size w W) (hq : q.size ≤ 1000000000) => above_calls ks A (.slice ca cn cc) caps p q W (hE.below hW) (hr.below hW) hsc.1 (fun m hm => by have := (hsc.2 m hm).2; omega) hq
  replace hck := Lib.hid hck
  replace hdc := Lib.hid hdc
  replace hab := Lib.hid hab
  clear hs hE hr hsc h
  have hBE : Hid (badErr (enF n P V R K B) caps = orE (idxErr (enF n P V R K B)) (capsErr caps)) := Lib.hid rfl
  go_enter Tryz.func34, Tryz.ntmps34
  go_wp2_with fail
  generalize hw1 : w.alloc (.cells #[.slice a n cap] 22) = w1 at *
  clear hw1
  refine hck.out.mono ?_
  rintro e w2 ⟨⟨v2, rfl, hv2⟩, hb2⟩
  have hb12 := hb2
  rcases fault_form hv2 with ⟨h0, rfl⟩ | ⟨h0, ty, q, rfl⟩
  · have HI : Hid ((idxErr (enF n P V R K B)).1 = 0) := Lib.hid h0
    have hdc2 := hdc.out w2 (below_step hb0 hb2)
    replace hdc2 := Lib.hid hdc2
    clear hv2 h0 hck
    go_wp2_with fail
    refine hdc2.out.mono ?_
    rintro e w3 ⟨⟨v3, rfl, hv3⟩, hb3⟩
    replace hb12 := below_step hb12 hb3
    clear hb3 hb2 hdc2 hdc
    rcases fault_form hv3 with ⟨h0, rfl⟩ | ⟨h0, ty, q, rfl⟩
    · have HR := Lib.hid (rightI_of HI.out)
      have HF : Hid (badErr (enF n P V R K B) caps = (0, -1)) := Lib.hid (by
        rw [hBE.out]
        unfold orE
        rw [if_neg (by rw [HI.out]; simp)]
        rcases hv3 with h | h | h
        · exact Prod.ext h.1 h.2.1
        · exact absurd h0 h.1
        · exact absurd h0 h.1)
      have hn : n ≤ 100 := by have := HR.out.len; rwa [enF_length] at this
      have hmk := run_make_row' (P := Tryz.prog) 64 4 (.bool false) 1 Tryz.underlying64 Tryz.infoBool rfl .i64 .i64 n (by omega) (by omega)
      have hba := below_alloc w3 (.cells (madeCells #[.bool false] n) 4)
      have hrow : MarkRow (w3.alloc (.cells (madeCells #[.bool false] n) 4)) w3.heap.size n (fun _ => false) := World.rowIs_made w3 (.bool false) n 4
      have hbb := below_alloc (w3.alloc (.cells (madeCells #[.bool false] n) 4)) (.cells #[.slice (some ⟨w3.heap.size, 0, none⟩) n n] 64)
      have z8 : ((w3.alloc (.cells (madeCells #[.bool false] n) 4)).alloc (.cells #[.slice (some ⟨w3.heap.size, 0, none⟩) n n] 64)).cell? ⟨w3.heap.size + 1, 0, none⟩ = some (.slice (some ⟨w3.heap.size, 0, none⟩) n n) := by simp
      replace hrow := hrow.below hbb
      have hB1 := below_step (below_step hb12 hba) hbb
      have hg : w1.heap.size ≤ w3.heap.size := hb12.size
      have z2 := Below.cell_some hb12 z1
      clear hv3 h0 hba hbb hb12
      go_wp2_with fail
      clear hmk
      generalize (w3.alloc (.cells (madeCells #[.bool false] n) 4)).alloc (.cells #[.slice (some ⟨w3.heap.size, 0, none⟩) n n] 64) = w5 at *
      generalize w3.heap.size = g at *
      obtain ⟨l, hl⟩ : ∃ l, enF n P V R K B = l := ⟨_, rfl⟩
      have HEN : Hid (∀ j, j < n → enAt l j = ⟨((P j).data.toList, (V j).data.toList), R j, K j, B j⟩) := Lib.hid (fun j hj => by rw [← hl]; exact enAt_enF hj)
      have HLEN : Hid (l.length = n) := Lib.hid (by rw [← hl, enF_length])
      have HLE := Lib.hid hl
      simp only [hl] at HR HF
      have HZ := Lib.hid z8
      have HRow := Lib.hid hrow
      clear z2 z8 hrow hl hBE HI
      go_loopw [9] (fun x wr => ∃ (b : Bool) (M : Nat → Bool), x = .bool b ∧ Hid (MarkRow wr g n M) ∧ Hid (wr.cell? ⟨g + 1, 0, none⟩ = some (.slice (some ⟨g, 0, none⟩) n n)) ∧ Below w1.heap.size w1 wr ∧ Hid (SoundB l caps M) ∧ Hid (b = false → ∀ i, i < n → ClosedB l caps M i)) (fun x W => 2 * leftW W g n + bitOf x)
      case atStart => exact ⟨true, _, rfl, HRow, HZ, hB1, Lib.hid (fun j _ h => by cases h), Lib.hid (fun h => by cases h)⟩
      case round =>
        clear HRow HZ hB1
        obtain ⟨b0, M0, rfl, HRow, HZ, hB1, HS, HC⟩ := hrel
        have HMS : Hid (leftW wr g n = leftM n M0) := Lib.hid (leftW_row HRow.out)
        cases b0 with
        | false =>
          have HD : Hid (∀ j, j < n → (M0 j = true ↔ BadP l caps (enAt l j).md)) := Lib.hid (fun j hj => bad_done HR.out HS.out (fun i hi => HC.out rfl i (by rw [← HLEN.out]; exact hi)) (by rw [HLEN.out]; exact hj))
          have z8 := HZ.out
          clear HC HMS
          go_wp2_with fail
          go_ret2
          rw [HLE.out, HF.out]
          refine ⟨⟨_, _, rfl, .inl ⟨rfl, rfl, rfl⟩, fun _ => ?_, fun h => absurd rfl h⟩, below_step hb0 hB1⟩
          unfold BadAt
          rw [HLEN.out]
          exact ⟨g, M0, rfl, HRow.out, HD.out⟩
        | true =>
          clear HC
          have y2 := Below.cell_some hB1 z1
          go_wp2_with fail
          generalize hwo : wr = wo at *
          clear y2
          go_loopw [9, 10, 12, 29] (fun y _ _ x wr => ∃ (q : Nat) (b : Bool) (M : Nat → Bool), q ≤ n ∧ x = .int .i64 q ∧ y = .bool b ∧ Hid (MarkRow wr g n M) ∧ Hid (wr.cell? ⟨g + 1, 0, none⟩ = some (.slice (some ⟨g, 0, none⟩) n n)) ∧ Below w1.heap.size w1 wr ∧ Hid (SoundB l caps M) ∧ Hid (∀ j, M0 j = true → M j = true) ∧ Hid (b = true → leftM n M < leftM n M0) ∧ Hid (b = false → M = M0 ∧ ∀ i, i < q → ClosedB l caps M i)) (fun _ _ _ x _ => n - (intOf x).toNat)
          case atStart => exact ⟨0, false, M0, Nat.zero_le _, rfl, rfl, HRow, HZ, hB1, HS, Lib.hid (fun _ h => h), Lib.hid (fun h => by cases h), Lib.hid (fun _ => ⟨rfl, fun i hi => absurd hi (Nat.not_lt_zero _)⟩)⟩
          case round =>
            clear HRow HZ hB1 HS
            obtain ⟨q, b1, M1, hq, rfl, rfl, HRow, HZ, hB1, HS, HM, HLT, HC⟩ := hrel
            by_cases hlt : q < n
            · have hkn : (q : Int) < (n : Int) := by omega
              obtain ⟨bb, oo, ea, hcell⟩ := H.out.at_ q hlt
              obtain ⟨a1, n1, s1, a2, n2, s2, e1, e2⟩ := H.out.forms hlt
              have hM := H.out.reqs q hlt
              obtain ⟨_, hp1, hv1, hsr, _, _⟩ := HSH.out.at_ hlt
              rw [e1] at hM
              rw [e1, e2] at hcell
              have hRq : (enAt l q).reqs = R q := by rw [HEN.out q hlt]
              have hba := below_alloc wr (.cells #[.string (P q), .string (V q), .slice a1 n1 s1, .slice a2 n2 s2, .bool (B q)] 37)
              have hz := box5_alloc wr (.string (P q)) (.string (V q)) (.slice a1 n1 s1) (.slice a2 n2 s2) (.bool (B q)) 37
              replace hcell := (hcell.below hb0).below hB1
              have hab1 := hab.out (P q) (V q) (wr.alloc (.cells #[.string (P q), .string (V q), .slice a1 n1 s1, .slice a2 n2 s2, .bool (B q)] 37)) (below_step hb0 (below_step hB1 hba)) (by omega)
              cases hA : aboveB caps ((P q).data.toList, (V q).data.toList) with
              | true =>
                rw [hA] at hab1
                have HT : Hid ((aboveB caps ((P q).data.toList, (V q).data.toList) || anyB l M1 (R q)) = true) := Lib.hid (by rw [hA, Bool.true_or])
                replace hab1 := Lib.hid hab1
                obtain ⟨d0, d1, d2, d3, d4⟩ := id hcell
                obtain ⟨c0, c1, c2, c3, c4⟩ := id hz
                subst ea
                have hB2 := below_step hB1 hba
                have HZ0 := Lib.hid (Below.cell_some hba HZ.out)
                have HRow0 := Lib.hid (HRow.out.below hba)
                clear hA hM hsr hp1 hv1 e1 e2 hcell hz hB1 HRow HZ
                go_wp2_with fail
                generalize wr.alloc (.cells #[.string (P q), .string (V q), .slice a1 n1 s1, .slice a2 n2 s2, .bool (B q)] 37) = wq at *
                refine hab1.out.mono ?_
                rintro e w7 ⟨rfl, hb⟩
                have hB1 := below_step hB2 hb
                have HZ := Lib.hid (Below.cell_some hb HZ0.out)
                have HRow := Lib.hid (HRow0.out.below hb)
                have g0 := HRow.out.cell hlt
                have z8 := HZ.out
                clear hb HZ0 HRow0 hab1 c0 c1 c2 c3 c4 d0 d1 d2 d3 d4 hB2
                cases hMq : M1 q with
                | true =>
                  rw [hMq] at g0
                  have HC' : Hid (b1 = false → M1 = M0 ∧ ∀ i, i < q + 1 → ClosedB l caps M1 i) := Lib.hid (fun h => ⟨(HC.out h).1, fun i hi => by
                    by_cases e : i = q
                    · subst e; exact fun _ => hMq
                    · exact (HC.out h).2 i (by omega)⟩)
                  clear hMq HC HT
                  go_wp2_with fail
                  go_roundw
                  case rel => exact ⟨q + 1, b1, M1, by omega, by go_num, rfl, HRow, HZ, hB1, HS, HM, HLT, HC'⟩
                  case measure => simp [intOf]; omega
                | false =>
                  rw [hMq] at g0
                  have HS' : Hid (SoundB l caps (setM M1 q)) := Lib.hid (soundB_set HR.out HS.out (by rw [HLEN.out]; exact hlt) (by rw [HEN.out q hlt]; exact HT.out))
                  have HM' : Hid (∀ j, M0 j = true → setM M1 q j = true) := Lib.hid (fun j hj => setM_of q (HM.out j hj))
                  have HLT' : Hid (leftM n (setM M1 q) < leftM n M0) := Lib.hid (by
                    have h1 := leftM_set hlt hMq
                    have h2 := leftM_le (n := n) HM.out
                    omega)
                  have df := HRow.out.fz q
                  have HRow3 := Lib.hid (HRow.out.set q)
                  have HZ3 := Lib.hid (row_box _ _ _ _ HRow.out HZ.out (Nat.succ_ne_self g) q)
                  have hB3 := hB1.setCell (p := ⟨g, q, none⟩) hg (.bool true)
                  clear hMq HC HLT
                  go_wp2_with fail
                  go_roundw
                  case rel => exact ⟨q + 1, true, _, by omega, by go_num, rfl, HRow3, HZ3, hB3, HS', HM', Lib.hid (fun _ => HLT'.out), Lib.hid (fun h => by cases h)⟩
                  case measure => simp [intOf]; omega
              | false =>
                rw [hA] at hab1
                have HA := Lib.hid hA
                replace hab1 := Lib.hid hab1
                obtain ⟨_, _, _, P1, V1, e3, e4, hnc1, _, hc1⟩ := hM
                injection e3 with e3 e5 e6
                subst e3 e5 e6
                have hn1 : n1 ≤ 1000000 := by have := hsr.1; rw [e4, mdF_length] at this; exact this
                have hq7 : ∀ j, j < n1 → ∃ k, k < n ∧ findE l ((P1 j).data.toList, (V1 j).data.toList) = (k : Int) := fun j hj => by
                  have hmem : ((P1 j).data.toList, (V1 j).data.toList) ∈ (enAt l q).reqs := by rw [hRq, e4]; exact List.mem_of_getElem? (mdF_get n1 P1 V1 j hj)
                  obtain ⟨e0, he0, he1⟩ := HR.out.all _ (enAt_mem (by rw [HLEN.out]; exact hlt)) _ hmem
                  obtain ⟨h4, h5, _⟩ := HR.out.at_ he0 he1
                  rw [HLEN.out] at h4
                  exact ⟨_, h4, h5⟩
                obtain ⟨d0, d1, d2, d3, d4⟩ := id hcell
                obtain ⟨c0, c1, c2, c3, c4⟩ := id hz
                subst ea
                have hB2 := below_step hB1 hba
                have HZ0 := Lib.hid (Below.cell_some hba HZ.out)
                have HRow0 := Lib.hid (HRow.out.below hba)
                have hc2 : ∀ j, j < n1 → ∃ b o, a1 = some ⟨b, o, none⟩ ∧ w1.cell? ⟨b, o + j * 2, none⟩ = some (.string (P1 j)) ∧ w1.cell? ⟨b, o + j * 2 + 1, none⟩ = some (.string (V1 j)) := fun j hj =>
                  let ⟨b, o, e, h1, h2⟩ := hc1 j hj; ⟨b, o, e, Below.cell_some hb0 h1, Below.cell_some hb0 h2⟩
                have HX := Lib.hid (And.intro hq7 (And.intro hc2 (And.intro hn1 (And.intro e4 hRq))))
                clear hA hsr hp1 hv1 e1 e2 hcell hz hB1 HRow HZ hq7 hc1 hc2 hn1 e4 hRq hnc1
                go_wp2_with fail
                generalize wr.alloc (.cells #[.string (P q), .string (V q), .slice a1 n1 s1, .slice a2 n2 s2, .bool (B q)] 37) = wq at *
                refine hab1.out.mono ?_
                rintro e w7 ⟨rfl, hb⟩
                have hB1 := below_step hB2 hb
                have HZ := Lib.hid (Below.cell_some hb HZ0.out)
                have HRow := Lib.hid (HRow0.out.below hb)
                replace c2 := Below.cell_some hb c2
                have hcf := containsMf_calls 98 #[.pointer (some ⟨g + 1, 0, none⟩), .pointer (some ⟨w.heap.size, 0, none⟩)] Tryz.enters_bad1 (fun r => M1 (findE l r).toNat) a1 n1 s1 w7.heap.size P1 V1 w7 HX.out.2.2.1 (Nat.le_refl _)
                  (fun j hj => let ⟨b, o, e, h1, h2⟩ := HX.out.2.1 j hj; ⟨b, o, e, Below.cell_some hB1 h1, Below.cell_some hB1 h2⟩)
                  (fun W hW j hj => by
                    obtain ⟨k, hk, hk2⟩ := HX.out.1 j hj
                    have h9 := bad1_calls _ n cap P V R K B Rv Kv (g + 1) w.heap.size g M1 (P1 j) (V1 j) W ((H.out.below hb0).below (below_step hB1 hW)) (by omega) (Below.cell_some hW HZ.out) (Below.cell_some (below_step hB1 hW) z1) (HRow.out.below hW) k hk (by rw [HLE.out]; exact hk2)
                    have h8 : (findE l ((P1 j).data.toList, (V1 j).data.toList)).toNat = k := by rw [hk2]; rfl
                    show Calls _ _ _ _ fun e w'' => e = .returned (.bool (M1 (findE l ((P1 j).data.toList, (V1 j).data.toList)).toNat)) ∧ _
                    rw [h8]
                    exact h9)
                have HAN : Hid (anyB l M1 (R q) = (mdF n1 P1 V1).any (fun r => M1 (findE l r).toNat)) := Lib.hid (by unfold anyB; rw [HX.out.2.2.2.1])
                generalize (mdF n1 P1 V1).any (fun r => M1 (findE l r).toNat) = Y at hcf HAN
                replace hcf := Lib.hid hcf
                have HZ7 := HZ
                have HRow7 := HRow
                clear hb HZ0 HRow0 hab1 c0 c1 c3 c4 d0 d1 d2 d3 d4 hB2 HRow HZ
                go_wp2_with fail
                refine hcf.out.mono ?_
                rintro e w8 ⟨rfl, hb⟩
                replace hB1 := below_step hB1 hb
                have HZ := Lib.hid (Below.cell_some hb HZ7.out)
                have HRow := Lib.hid (HRow7.out.below hb)
                have g0 := HRow.out.cell hlt
                have z8 := HZ.out
                clear hb HZ7 HRow7 hcf c2
                cases Y with
                | true =>
                  have HT : Hid ((aboveB caps ((P q).data.toList, (V q).data.toList) || anyB l M1 (R q)) = true) := Lib.hid (by rw [HAN.out, Bool.or_true])
                  cases hMq : M1 q with
                  | true =>
                    rw [hMq] at g0
                    have HC' : Hid (b1 = false → M1 = M0 ∧ ∀ i, i < q + 1 → ClosedB l caps M1 i) := Lib.hid (fun h => ⟨(HC.out h).1, fun i hi => by
                      by_cases e : i = q
                      · subst e; exact fun _ => hMq
                      · exact (HC.out h).2 i (by omega)⟩)
                    clear hMq HC HT
                    go_wp2_with fail
                    go_roundw
                    case rel => exact ⟨q + 1, b1, M1, by omega, by go_num, rfl, HRow, HZ, hB1, HS, HM, HLT, HC'⟩
                    case measure => simp [intOf]; omega
                  | false =>
                    rw [hMq] at g0
                    have HS' : Hid (SoundB l caps (setM M1 q)) := Lib.hid (soundB_set HR.out HS.out (by rw [HLEN.out]; exact hlt) (by rw [HEN.out q hlt]; exact HT.out))
                    have HM' : Hid (∀ j, M0 j = true → setM M1 q j = true) := Lib.hid (fun j hj => setM_of q (HM.out j hj))
                    have HLT' : Hid (leftM n (setM M1 q) < leftM n M0) := Lib.hid (by
                      have h1 := leftM_set hlt hMq
                      have h2 := leftM_le (n := n) HM.out
                      omega)
                    have df := HRow.out.fz q
                    have HRow3 := Lib.hid (HRow.out.set q)
                    have HZ3 := Lib.hid (row_box _ _ _ _ HRow.out HZ.out (Nat.succ_ne_self g) q)
                    have hB3 := hB1.setCell (p := ⟨g, q, none⟩) hg (.bool true)
                    clear hMq HC HLT
                    go_wp2_with fail
                    go_roundw
                    case rel => exact ⟨q + 1, true, _, by omega, by go_num, rfl, HRow3, HZ3, hB3, HS', HM', Lib.hid (fun _ => HLT'.out), Lib.hid (fun h => by cases h)⟩
                    case measure => simp [intOf]; omega
                | false =>
                  have HC' : Hid (b1 = false → M1 = M0 ∧ ∀ i, i < q + 1 → ClosedB l caps M1 i) := Lib.hid (fun h => ⟨(HC.out h).1, fun i hi => by
                    by_cases e : i = q
                    · subst e
                      unfold ClosedB
                      rw [HEN.out i hlt]
                      show (aboveB caps ((P i).data.toList, (V i).data.toList) || anyB l M1 (R i)) = true → _
                      rw [HA.out, HAN.out]
                      intro h; cases h
                    · exact (HC.out h).2 i (by omega)⟩)
                  clear HC HA HAN HX
                  go_wp2_with fail
                  go_roundw
                  case rel => exact ⟨q + 1, b1, M1, by omega, by go_num, rfl, HRow, HZ, hB1, HS, HM, HLT, HC'⟩
                  case measure => simp [intOf]; omega
            · have HC' : Hid (b1 = false → ∀ i, i < n → ClosedB l caps M1 i) := Lib.hid (fun h i hi => (HC.out h).2 i (by omega))
              have HMS2 : Hid (2 * leftW wr g n + bitOf (.bool b1) < 2 * leftW wo g n + bitOf (.bool true)) := Lib.hid (by
                rw [HMS.out, leftW_row HRow.out]
                cases b1 with
                | true => have := HLT.out rfl; omega
                | false =>
                  have := leftM_le (n := n) HM.out
                  show 2 * leftM n M1 + 0 < 2 * leftM n M0 + 1
                  omega)
              have hnq : ¬ (q : Int) < (n : Int) := by omega
              clear hlt hq HC HLT
              go_wp2_with fail
              go_roundw
              case rel => exact ⟨b1, M1, rfl, HRow, HZ, hB1, HS, HC'⟩
              case measure =>
                have := HMS2.out
                rw [← hwo] at this
                simpa [bitOf] using this
    · have HV := Lib.hid hv3
      have HF : Hid (badErr (enF n P V R K B) caps = capsErr caps) := Lib.hid (by
        rw [hBE.out]
        unfold orE
        rw [if_neg (by rw [HI.out]; simp)])
      have H0 := Lib.hid h0
      clear hv3 h0
      go_wp2_with fail
      go_ret2
      rw [HF.out]
      exact ⟨⟨_, _, rfl, HV.out, fun h => absurd h H0.out, fun _ => rfl⟩, below_step hb0 hb12⟩
  · have HV := Lib.hid hv2
    have HF : Hid (badErr (enF n P V R K B) caps = idxErr (enF n P V R K B)) := Lib.hid (by
      rw [hBE.out]
      unfold orE
      rw [if_pos h0])
    have H0 := Lib.hid h0
    clear hv2 h0
    go_wp2_with fail
    go_ret2
    rw [HF.out]
    exact ⟨⟨_, _, rfl, HV.out, fun h => absurd h H0.out, fun _ => rfl⟩, below_step hb0 hb2⟩
end Go.Proofs.Pw

namespace Go.Proofs.Pw
open Go.Lib hiding intOf
def versL (l : List En) (p : Str) : List Str := (l.filter fun e => decide (e.md.1 = p)).map (·.md.2)
theorem versL_mem {l : List En} {p v : Str} : v ∈ versL l p ↔ ∃ e ∈ l, e.md = (p, v) := by
  unfold versL
  rw [List.mem_map]
  constructor
  · rintro ⟨e, he, rfl⟩
    exact ⟨e, (List.mem_filter.1 he).1, by rw [← of_decide_eq_true (List.mem_filter.1 he).2]⟩
  · rintro ⟨e, he, e1⟩
    refine ⟨e, List.mem_filter.2 ⟨he, decide_eq_true (by rw [e1])⟩, by rw [e1]⟩
theorem vsort_len (l : List Str) : (vsort l).length ≤ l.length := List.Nodup.length_le_of_subset (by
  have := vsort_rises l
  unfold Rises at this
  exact this.imp fun {x y} h e => by subst e; rw [verCmp_ord.self] at h; omega) (fun m hm => ((vsort_mem l m).1 hm).1)
theorem versL_snoc (l : List En) (e : En) (p : Str) : versL (l ++ [e]) p = versL l p ++ (if e.md.1 = p then [e.md.2] else []) := by
  unfold versL
  rw [List.filter_append, List.map_append]
  congr 1
  by_cases h : e.md.1 = p
  · simp [h]
  · simp [h]
theorem versL_len (l : List En) (p : Str) : (versL l p).length ≤ l.length := by
  unfold versL
  rw [List.length_map]
  exact List.length_filter_le _ _
end Go.Proofs.Pw

namespace Go.Proofs.Pw
open Go.RowKit Go.Sort
open Go.Lib hiding intOf
theorem holds_below {w w' : World} {blk off : Nat} {d : Array Str} (h : Holds encStr w blk off d) (hb : Below w.heap.size w w') (hblk : blk < w.heap.size) : Holds encStr w' blk off d :=
  fun j hj => ⟨Below.cell_some hb (h j hj).1, (hb.frozen (p := ⟨blk, off + j, none⟩) hblk).trans (h j hj).2⟩
theorem holds_setCell {w : World} {blk off : Nat} {d : Array Str} (h : Holds encStr w blk off d) {i : Nat} (hi : i < d.size) (u : Str) : Holds encStr (w.setCell ⟨blk, off + i, none⟩ (encStr u)) blk off (d.setIfInBounds i u) := by
  intro j hj
  have hj' : j < d.size := by simpa using hj
  refine ⟨?_, by simp [(h j hj').2]⟩
  by_cases e : j = i
  · subst e
    rw [getElem!_set_same d j u hj', World.cell?_setCell_same _ _ _ (h j hj').1]
  · rw [getElem!_set_other d i j u e, World.cell?_setCell_other _ _ _ _ (by intro h2; injection h2 with _ h3 _; omega)]
    exact (h j hj').1
theorem below_putRow {B : Nat} {w w' : World} (h : Below B w w') {blk : Nat} (hb : B ≤ blk) (off : Nat) (d : Array Str) : Below B w (putRow encStr w' blk off d) := by
  refine h.trans ⟨rfl, rfl, rfl, by simp [putRow, mapBlock], fun k hk => ?_⟩
  simp only [putRow, mapBlock, Array.getElem?_modify]
  rw [if_neg (by omega)]
def TestsB (g : Nat) (lb : Array Value) (p : Str → Bool) (l : List Str) (base : Nat) (w : World) : Prop :=
  ∀ W, Below base w W → ∀ s ∈ l, Calls Tryz.prog g (#[encStr s] ++ lb) W fun e w'' => e = .returned (.bool (p s)) ∧ Below W.heap.size W w''
theorem mem_arr {d : Array Str} {j : Nat} (hj : j < d.size) : d[j]! ∈ d.toList ∧ d.toList[j]? = some d[j]! := by
  have e : d[j]! = d[j] := getElem!_pos d j hj
  rw [e]
  exact ⟨by simp, by simp [hj]⟩
set_option maxHeartbeats 400000 in
theorem indexFuncS_calls (g : Nat) (lb : Array Value) (eg : ∀ args w, (callFunc g args).run Tryz.prog w = .ok (.enter g args) w) (p : Str → Bool) (blk off cap base : Nat) (d : Array Str) (w : World) (hn : d.size ≤ 4000000001)
    (hbase : base ≤ w.heap.size) (_hblk : blk < w.heap.size) (hH : Holds encStr w blk off d) (hT : TestsB g lb p d.toList base w) :
    Calls Tryz.prog 170 #[.slice (some ⟨blk, off, none⟩) d.size cap, .func (.func g) #[] lb] w fun e w' => e = .returned (.int .i64 (findI p d.toList)) ∧ Below w.heap.size w w' := by
  replace hH := Lib.hid hH
  replace hT := Lib.hid hT
  go_enter Tryz.func170, Tryz.ntmps170
  go_wp2_with fail
  go_loopw [8] (fun i wr => ∃ k : Nat, k ≤ d.size ∧ i = .int .i64 k ∧ Below w.heap.size w wr ∧ Hid (∀ j, j < k → p d[j]! = false)) (fun i _ => d.size - (intOf i).toNat)
  case atStart => exact ⟨0, by omega, rfl, Below.refl _ _, Lib.hid (fun j hj => absurd hj (Nat.not_lt_zero _))⟩
  case round =>
    obtain ⟨k, hk, rfl, hb, HA⟩ := hrel
    by_cases hlt : k < d.size
    · have hck := Below.cell_some hb (hH.out k hlt).1
      have hcall := hT.out wr (hb.mono hbase) _ (mem_arr hlt).1
      have HF := Lib.hid (mem_arr hlt).2
      generalize hs : d[k]! = s at hck hcall HF
      have HS := Lib.hid hs
      clear hs
      cases hq : p s with
      | true =>
        rw [hq] at hcall
        have HR : Hid (findI p d.toList = k) := Lib.hid (findI_hit HF.out hq (fun j y hj hy => by
          have := (mem_arr (d := d) (j := j) (by omega)).2
          rw [hy] at this
          injection this with this
          rw [this]
          exact HA.out j hj))
        clear hq
        go_wp2_with (go_at_fn g; refine hcall.mono ?_; rintro e w' ⟨rfl, hb2⟩)
        go_ret
        rw [HR.out]
        exact ⟨rfl, below_step hb hb2⟩
      | false =>
        rw [hq] at hcall
        have HQ := Lib.hid hq
        clear hq
        go_wp2_with (go_at_fn g; refine hcall.mono ?_; rintro e w' ⟨rfl, hb2⟩)
        go_roundw
        case rel =>
          refine ⟨k + 1, by omega, by go_num, below_step hb hb2, Lib.hid (fun j hj => ?_)⟩
          by_cases e : j = k
          · subst e; rw [HS.out]; exact HQ.out
          · exact HA.out j (by omega)
        case measure => simp [intOf]; omega
    · obtain rfl : k = d.size := by omega
      have HR : Hid (findI p d.toList = -1) := Lib.hid (findI_none (fun j y hy => by
        have hj : j < d.size := by have := (List.getElem?_eq_some_iff.1 hy).1; simpa using this
        have := (mem_arr (d := d) hj).2
        rw [hy] at this
        injection this with this
        rw [this]
        exact HA.out j hj))
      go_wp2_with fail
      go_ret
      rw [HR.out]
      exact ⟨rfl, hb⟩
theorem findI_cases (p : Str → Bool) (d : Array Str) : (findI p d.toList = -1 ∧ ∀ j, j < d.size → p d[j]! = false) ∨ ∃ k, k < d.size ∧ findI p d.toList = (k : Int) ∧ p d[k]! = true ∧ ∀ j, j < k → p d[j]! = false := by
  cases h : d.toList.findIdx? p with
  | none =>
    left
    refine ⟨by unfold findI; rw [h], fun j hj => ?_⟩
    rw [List.findIdx?_eq_none_iff] at h
    exact h _ (mem_arr hj).1
  | some k =>
    right
    rw [List.findIdx?_eq_some_iff_getElem] at h
    obtain ⟨hk, h1, h2⟩ := h
    have hk' : k < d.size := by simpa using hk
    have e : ∀ j (hj : j < d.size), d.toList[j]'(by simpa using hj) = d[j]! := fun j hj => by rw [getElem!_pos d j hj]; simp
    refine ⟨k, hk', ?_, by rw [← e k hk']; exact h1, fun j hj => ?_⟩
    · exact findI_hit (mem_arr hk').2 (by rw [← e k hk']; exact h1) (fun j y hj hy => by
        have hjd : j < d.size := by omega
        have h3 := h2 j hj
        rw [e j hjd] at h3
        have := (mem_arr (d := d) hjd).2
        rw [hy] at this
        injection this with this
        rw [this]
        simpa using h3)
    · have h3 := h2 j hj
      rw [e j (by omega)] at h3
      simpa using h3
theorem holds_take {w : World} {blk off : Nat} {l m : List Str} (h : Holds encStr w blk off (l ++ m).toArray) : Holds encStr w blk off l.toArray := by
  intro j hj
  have hj' : j < l.length := by simpa using hj
  have := h j (by simp; omega)
  have e : (l ++ m).toArray[j]! = l.toArray[j]! := by
    rw [getElem!_pos _ j (by simp; omega), getElem!_pos _ j (by simpa using hj)]
    simp [List.getElem_append_left hj']
  rw [e] at this
  exact this
set_option maxHeartbeats 2000000 in
set_option maxRecDepth 100000 in
theorem deleteFunc_calls (g : Nat) (lb : Array Value) (eg : ∀ args w, (callFunc g args).run Tryz.prog w = .ok (.enter g args) w) (p : Str → Bool) (blk off cap base : Nat) (d : Array Str) (w : World) (hn : d.size ≤ 4000000001) (hcap : d.size ≤ cap)
    (hbase : base ≤ blk) (hblk : blk < w.heap.size) (hH : Holds encStr w blk off d) (hT : TestsB g lb p d.toList base w) :
    Calls Tryz.prog 111 #[.slice (some ⟨blk, off, none⟩) d.size cap, .func (.func g) #[] lb] w fun e w' =>
      e = .returned (.slice (some ⟨blk, off, none⟩) (d.toList.filter fun x => !p x).length cap) ∧ Below base w w' ∧ Holds encStr w' blk off (d.toList.filter fun x => !p x).toArray := by
  have hIF := indexFuncS_calls g lb eg p blk off cap base d w hn (by omega) hblk hH hT
  have hfil : (d.toList.filter fun x => !p x) = keptUpTo (fun j => !p d[j]!) d d.size := (keptUpTo_filter (fun x => !p x) d).symm
  obtain ⟨kp, HK⟩ : ∃ kp : Nat → Bool, Hid (kp = fun j => !p d[j]!) := ⟨_, Lib.hid rfl⟩
  rw [hfil, ← HK.out]
  clear hfil
  rcases findI_cases p d with ⟨e1, hall⟩ | ⟨k0, hk0, e1, ht, hall⟩
  · rw [e1] at hIF
    have e3 : keptUpTo kp d d.size = d.toList := by
      rw [keptUpTo_all kp d _ (fun j hj => by rw [HK.out]; show (!p d[j]!) = true; rw [hall j hj]; rfl)]
      apply List.ext_getElem?
      intro i
      by_cases hi : i < d.size
      · rw [(mem_arr hi).2]; simp [hi]
      · rw [List.getElem?_eq_none (by simp; omega), List.getElem?_eq_none (by simp; omega)]
    have E3 := Lib.hid e3
    replace hH := Lib.hid hH
    replace hT := Lib.hid hT
    clear hall e1 e3
    go_enter Tryz.func111, Tryz.ntmps111
    go_wp2_with fail
    refine hIF.mono ?_
    rintro e w1 ⟨rfl, hb1⟩
    go_wp2_with fail
    go_ret
    rw [E3.out]
    exact ⟨by simp, hb1.mono (by omega), by simpa using holds_below hH.out hb1 hblk⟩
  · rw [e1] at hIF
    have hI0 : KeptInv kp d (k0 + 1) k0 d := KeptInv.start (fun j hj => by rw [HK.out]; show (!p d[j]!) = true; rw [hall j hj]; rfl) (by rw [HK.out]; show (!p d[k0]!) = false; rw [ht]; rfl)
    have hne1 : ((k0 : Int) == -1) = false := beq_eq_false_iff_ne.2 (by omega)
    have zr := Tryz.zeroValue9
    replace hH := Lib.hid hH
    replace hT := Lib.hid hT
    replace hI0 := Lib.hid hI0
    clear hall e1 ht
    go_enter Tryz.func111, Tryz.ntmps111
    go_wp2_with fail
    refine hIF.mono ?_
    rintro e w1 ⟨rfl, hb1⟩
    go_wp2_with fail
    go_loopg [5, 6, 7] d.size (fun gg s5 s6 _ wr => ∃ (i j : Nat) (dk : Array Str), s5 = .int .i64 i ∧ s6 = .int .i64 j ∧ j ≤ d.size ∧ d.size - j ≤ gg ∧ Below base w wr ∧ Hid (Holds encStr wr blk off dk) ∧ Hid (KeptInv kp d j i dk))
    case atStart => exact ⟨k0, k0 + 1, d, rfl, by go_num, by omega, by omega, hb1.mono (by omega), Lib.hid (holds_below hH.out hb1 hblk), hI0⟩
    case round =>
      obtain ⟨i, j, dk, rfl, rfl, hjd, hgg, hB, hHk, hI⟩ := hrel
      have hij := hI.out.lt
      have hds := hI.out.size
      have hblkr : blk < wr.heap.size := Nat.lt_of_lt_of_le hblk hB.size
      by_cases hlt : j < d.size
      · have hltz : (j : Int) < (d.size : Int) := by omega
        obtain ⟨cj, _⟩ := hHk.out j (by omega)
        rw [hI.out.high j (by omega)] at cj
        have hcall := hT.out wr hB _ (mem_arr hlt).1
        have hfut : Hid (∀ w', Below wr.heap.size wr w' → w'.cell? ⟨blk, off + i, none⟩ = some (encStr dk[i]!) ∧ w'.frozen? ⟨blk, off + i, none⟩ = false) := Lib.hid (fun w' hb => (holds_below hHk.out hb hblkr) i (by omega))
        generalize hu : d[j]! = u at cj hcall
        have HU := Lib.hid hu
        generalize dk[i]! = old at hfut
        clear hu
        cases hq : p u with
        | false =>
          rw [hq] at hcall
          have HQ := Lib.hid hq
          have HDS := Lib.hid hds
          clear hq hds
          go_wp2_with (go_at_fn g; refine hcall.mono ?_; rintro e w' ⟨rfl, hb2⟩; obtain ⟨ci, fi⟩ := hfut.out w' hb2)
          go_roundg (d.size - (j + 1))
          case measure => omega
          case rel =>
            refine ⟨i + 1, j + 1, dk.setIfInBounds i u, by go_num, by go_num, by omega, Nat.le_refl _, ?_, Lib.hid ?_, Lib.hid ?_⟩
            · exact (hB.trans (hb2.mono (by omega))).setCell hbase _
            · exact holds_setCell (holds_below hHk.out hb2 hblkr) (by have := HDS.out; omega) u
            · have := hI.out.keep hlt (by rw [HK.out]; show (!p d[j]!) = true; rw [HU.out, HQ.out]; rfl)
              rwa [HU.out] at this
        | true =>
          rw [hq] at hcall
          have HQ := Lib.hid hq
          clear hq hds hfut
          go_wp2_with (go_at_fn g; refine hcall.mono ?_; rintro e w' ⟨rfl, hb2⟩)
          go_roundg (d.size - (j + 1))
          case measure => omega
          case rel => exact ⟨i, j + 1, dk, rfl, by go_num, by omega, Nat.le_refl _, hB.trans (hb2.mono (by omega)), Lib.hid (holds_below hHk.out hb2 hblkr), Lib.hid (hI.out.skip (by rw [HK.out]; show (!p d[j]!) = false; rw [HU.out, HQ.out]; rfl))⟩
      · obtain rfl : j = d.size := by omega
        have hltz : ¬ (d.size : Int) < (d.size : Int) := by omega
        have hcl : ∀ ty, (Builtin.clear_ #[35] ty #[.slice (some ⟨blk, off + i, none⟩) (d.size - i) (cap - i)]).run Tryz.prog wr = .ok (.tuple #[]) (wr.setCells blk (off + i) (List.replicate (d.size - i) (encStr []))) :=
          fun ty => Lib.run_clear_slice wr _ _ ty _ Tryz.underlying35 zr rfl rfl blk (off + i) _ _ (by omega) (fun t ht => by rw [show off + i + t = off + (i + t) by omega, (hHk.out (i + t) (by omega)).1]; rfl) (fun t ht => by rw [show off + i + t = off + (i + t) by omega]; exact (hHk.out (i + t) (by omega)).2)
        have HDS := Lib.hid hds
        clear hds
        go_wp2_with fail
        go_ret
        have hI := hI.out
        have hrow : wr.setCells blk (off + i) (List.replicate (d.size - i) (encStr [])) = putRow encStr wr blk off (keptUpTo kp d d.size ++ List.replicate (d.size - i) []).toArray := by
          rw [← hI.done [], ← putRow_setCells encStr wr blk off _ dk i (by simp; have := HDS.out; omega), putRow_self encStr wr blk off dk hHk.out, List.map_replicate]
        refine ⟨by rw [hI.len]; rfl, ?_, ?_⟩
        · show Below base w (wr.setCells blk (off + i) (List.replicate (d.size - i) (encStr [])))
          rw [hrow]
          exact below_putRow hB hbase _ _
        · show Holds encStr (wr.setCells blk (off + i) (List.replicate (d.size - i) (encStr []))) blk off _
          rw [hrow]
          apply holds_take (m := List.replicate (d.size - i) [])
          exact holds_putRow encStr wr blk off dk _ hHk.out (by simp [hI.len]; have := HDS.out; omega)
end Go.Proofs.Pw

namespace Go.Proofs.Pw
open Go.RowKit
def laysSortSR : Go.Shelf.Ren := ⟨fun | 6 => 167 | 14 => 225 | 15 => 158 | 20 => 272 | 21 => 273 | 22 => 274 | 23 => 275 | 24 => 276 | 25 => 277 | 26 => 278 | 27 => 279 | 28 => 220 | 29 => 221 | 46 => 299 | 47 => 267 | 48 => 268 | 49 => 300 | 50 => 301 | 57 => 308 | n => n,
  fun | 0 => 0 | 3 => 3 | 4 => 4 | 5 => 5 | 9 => 9 | 22 => 35 | 24 => 9 | 25 => 84 | 39 => 180 | 45 => 234 | 46 => 235 | 50 => 239 | 53 => 33 | 55 => 128 | 66 => 284 | 70 => 288 | 76 => 308 | 77 => 123 | n => n, fun n => n⟩
theorem laysSortS : Go.Proofs.SlLaysF.n6 Tryz.prog laysSortSR := {
  mixed := by kernel_rfl
  f6 := ⟨Tryz.f167.name, by decide, Tryz.func167.trans (congrArg some (by kernel_rfl))⟩
  f14 := ⟨Tryz.f225.name, by decide, Tryz.func225.trans (congrArg some (by kernel_rfl))⟩
  f15 := Tryz.func158.trans (congrArg some (by kernel_rfl))
  f20 := ⟨Tryz.f272.name, by decide, Tryz.func272.trans (congrArg some (by kernel_rfl))⟩
  f21 := ⟨Tryz.f273.name, by decide, Tryz.func273.trans (congrArg some (by kernel_rfl))⟩
  f22 := ⟨Tryz.f274.name, by decide, Tryz.func274.trans (congrArg some (by kernel_rfl))⟩
  f23 := ⟨Tryz.f275.name, by decide, Tryz.func275.trans (congrArg some (by kernel_rfl))⟩
  f24 := ⟨Tryz.f276.name, by decide, Tryz.func276.trans (congrArg some (by kernel_rfl))⟩
  f25 := ⟨Tryz.f277.name, by decide, Tryz.func277.trans (congrArg some (by kernel_rfl))⟩
  f26 := ⟨Tryz.f278.name, by decide, Tryz.func278.trans (congrArg some (by kernel_rfl))⟩
  f27 := ⟨Tryz.f279.name, by decide, Tryz.func279.trans (congrArg some (by kernel_rfl))⟩
  f28 := Tryz.func220.trans (congrArg some (by kernel_rfl))
  f29 := Tryz.func221.trans (congrArg some (by kernel_rfl))
  f46 := ⟨Tryz.f299.name, by decide, Tryz.func299.trans (congrArg some (by kernel_rfl))⟩
  f47 := Tryz.func267.trans (congrArg some (by kernel_rfl))
  f48 := Tryz.func268.trans (congrArg some (by kernel_rfl))
  f49 := ⟨Tryz.f300.name, by decide, Tryz.func300.trans (congrArg some (by kernel_rfl))⟩
  f50 := ⟨Tryz.f301.name, by decide, Tryz.func301.trans (congrArg some (by kernel_rfl))⟩
  f57 := ⟨Tryz.f308.name, by decide, Tryz.func308.trans (congrArg some (by kernel_rfl))⟩
  t0 := Tryz.underlying0
  a0 := Tryz.isAgg0
  z0 := Tryz.sizeOf0
  v0 := Tryz.zeroValue0
  t3 := Tryz.underlying3
  a3 := Tryz.isAgg3
  z3 := Tryz.sizeOf3
  v3 := Tryz.zeroValue3
  t4 := Tryz.underlying4
  a4 := Tryz.isAgg4
  z4 := Tryz.sizeOf4
  v4 := Tryz.zeroValue4
  t5 := Tryz.underlying5
  a5 := Tryz.isAgg5
  z5 := Tryz.sizeOf5
  v5 := Tryz.zeroValue5
  t9 := Tryz.underlying9
  a9 := Tryz.isAgg9
  z9 := Tryz.sizeOf9
  v9 := Tryz.zeroValue9
  t22 := Tryz.underlying35
  a22 := Tryz.isAgg35
  z22 := Tryz.sizeOf35
  v22 := Tryz.zeroValue35
  a24 := Tryz.isAgg9
  z24 := Tryz.sizeOf9
  t25 := Tryz.underlying84
  a25 := Tryz.isAgg84
  z25 := Tryz.sizeOf84
  v25 := Tryz.zeroValue84
  t39 := Tryz.underlying180
  a39 := Tryz.isAgg180
  z39 := Tryz.sizeOf180
  v39 := Tryz.zeroValue180
  t45 := Tryz.underlying234
  a45 := Tryz.isAgg234
  z45 := Tryz.sizeOf234
  v45 := Tryz.zeroValue234
  t46 := Tryz.underlying235
  a46 := Tryz.isAgg235
  z46 := Tryz.sizeOf235
  v46 := Tryz.zeroValue235
  t50 := Tryz.underlying239
  a50 := Tryz.isAgg239
  z50 := Tryz.sizeOf239
  v50 := Tryz.zeroValue239
  t53 := Tryz.underlying33
  a53 := Tryz.isAgg33
  z53 := Tryz.sizeOf33
  v53 := Tryz.zeroValue33
  t55 := Tryz.underlying128
  a55 := Tryz.isAgg128
  z55 := Tryz.sizeOf128
  v55 := Tryz.zeroValue128
  t66 := Tryz.underlying284
  a66 := Tryz.isAgg284
  z66 := Tryz.sizeOf284
  v66 := Tryz.zeroValue284
  t70 := Tryz.underlying288
  a70 := Tryz.isAgg288
  z70 := Tryz.sizeOf288
  v70 := Tryz.zeroValue288
  t76 := Tryz.underlying308
  a76 := Tryz.isAgg308
  z76 := Tryz.sizeOf308
  v76 := Tryz.zeroValue308
  t77 := Tryz.underlying123
  a77 := Tryz.isAgg123
  z77 := Tryz.sizeOf123
  v77 := Tryz.zeroValue123 }
end Go.Proofs.Pw

namespace Go.Proofs.Pw
open Go.RowKit
open Go.Sort (grow)
def Bel (B : Nat) (w w' : World) : Prop := Below B w w' ∧ w.drawn ≤ w'.drawn
theorem Bel.b {B : Nat} {w w' : World} (h : Bel B w w') : Below B w w' := h.1
theorem Bel.size {B : Nat} {w w' : World} (h : Bel B w w') : w.heap.size ≤ w'.heap.size := h.1.size
theorem Bel.refl (B : Nat) (w : World) : Bel B w w := ⟨Below.refl _ _, Nat.le_refl _⟩
theorem Bel.trans {B : Nat} {a b c : World} (h : Bel B a b) (k : Bel B b c) : Bel B a c := ⟨h.1.trans k.1, Nat.le_trans h.2 k.2⟩
theorem Bel.mono {B B' : Nat} {w w' : World} (h : Bel B w w') (hB : B' ≤ B) : Bel B' w w' := ⟨h.1.mono hB, h.2⟩
theorem Bel.alloc {B : Nat} {a w : World} (h : Bel B a w) (hB : B ≤ w.heap.size) (o : Obj) : Bel B a (w.alloc o) := ⟨h.1.alloc hB o, h.2⟩
theorem Bel.drewN {B : Nat} {a w : World} (h : Bel B a w) (n : Nat) : Bel B a (w.drewN n) := ⟨below_drewN h.1 n, Nat.le_trans h.2 (by show w.drawn ≤ w.drawn + n; omega)⟩
theorem Bel.drew {B : Nat} {a w : World} (h : Bel B a w) : Bel B a w.drew := ⟨h.1.drew, Nat.le_trans h.2 (by show w.drawn ≤ w.drawn + 1; omega)⟩
theorem drawn_setCell (w : World) (p : Addr) (u : Value) : (w.setCell p u).drawn = w.drawn := by
  unfold World.setCell
  first | rfl | (split <;> rfl) | (simp only []; split <;> rfl)
theorem Bel.setCell {B : Nat} {a w : World} (h : Bel B a w) {p : Addr} (hp : B ≤ p.block) (u : Value) : Bel B a (w.setCell p u) := ⟨h.1.setCell hp u, by rw [drawn_setCell]; exact h.2⟩
theorem bel_step {w w1 w2 : World} (h : Bel w.heap.size w w1) (h2 : Bel w1.heap.size w1 w2) : Bel w.heap.size w w2 := h.trans (h2.mono h.size)
theorem bel_alloc (w : World) (o : Obj) : Bel w.heap.size w (w.alloc o) := (Bel.refl _ _).alloc (Nat.le_refl _) _
theorem Bel.grown {w w' : World} (h : Bel w.heap.size w w') : ∃ q os, w' = grow (w.drewN q) os := by
  obtain ⟨⟨d, os⟩, rfl⟩ := patch_of_below h.1
  have h2 : w.drawn ≤ d := h.2
  refine ⟨d - w.drawn, os, ?_⟩
  show ({ w with heap := w.heap ++ os, drawn := d } : World) = { w with heap := w.heap ++ os, drawn := w.drawn + (d - w.drawn) }
  rw [Nat.add_sub_cancel' h2]
end Go.Proofs.Pw
