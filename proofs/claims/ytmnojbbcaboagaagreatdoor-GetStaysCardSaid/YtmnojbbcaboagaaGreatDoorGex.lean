/- Ge: walks and plain laws, joined: DnBad Box. Conditions: at each theorem. -/
import Derived.Test.YtmnojbbcaboagaaGreatDoorGev
import Derived.Test.YtmnojbbcaboagaaGreatDoorGew
import Derived.Test.YtmnojbbcaboagaaGreatDoorGep
import Derived.Test.YtmnojbbcaboagaaGreatDoorGei
import Derived.Test.YtmnojbbcaboagaaGreatDoorGeh

namespace Go.Proofs.Pw
open Go.RowKit
open Go.Lib hiding intOf
def BadAt (w : World) (x : Value) (l : List En) (caps : List Md) : Prop :=
  ∃ (g : Nat) (M : Nat → Bool), x = .slice (some ⟨g, 0, none⟩) l.length l.length ∧ MarkRow w g l.length M ∧ ∀ j, j < l.length → (M j = true ↔ BadP l caps (enAt l j).md)
theorem BadAt.below {w w' : World} {x : Value} {l : List En} {caps : List Md} (h : BadAt w x l caps) (hb : Below w.heap.size w w') : BadAt w' x l caps :=
  let ⟨g, M, e, h1, h2⟩ := h; ⟨g, M, e, h1.below hb, h2⟩
theorem row_box (w : World) (g n : Nat) (M : Nat → Bool) (_h : MarkRow w g n M) {b : Nat} {v : Value} (z : w.cell? ⟨b, 0, none⟩ = some v) (hne : b ≠ g) (k : Nat) : (w.setCell ⟨g, k, none⟩ (.bool true)).cell? ⟨b, 0, none⟩ = some v := by
  rw [set_blk _ hne]; exact z
set_option maxHeartbeats 8000000 in
set_option maxRecDepth 100000 in
theorem bad_in (ks : List Nat) (A : Nat → Addr) (hks : IdxKs ks) (a : Option Addr) (n cap : Nat) (P V : Nat → ByteArray) (R : Nat → List Md) (K : Nat → List Str) (B : Nat → Bool) (Rv Kv : Nat → Value) (cv : Value) (caps : List Md) (w : World) (hE : EnvP ks A w) (h : EntsIn w a n cap P V R K B Rv Kv) (hs : ShortI (enF n P V R K B)) (hr : ModsAt w cv caps) (hsc : Short caps) :
    Calls Tryz.prog 146 #[.slice a n cap, cv] w fun e w' => (∃ x ev, e = .returned (.tuple #[x, ev]) ∧ FaultAt A w' ev (badErr (enF n P V R K B) caps) ∧ ((badErr (enF n P V R K B) caps).1 = 0 → BadAt w' x (enF n P V R K B) caps) ∧ ((badErr (enF n P V R K B) caps).1 ≠ 0 → x = .slice none 0 0)) ∧ Below w.heap.size w w' := by
  have hb0 := below_alloc w (.cells #[.slice a n cap] 22)
  have z1 : (w.alloc (.cells #[.slice a n cap] 22)).cell? ⟨w.heap.size, 0, none⟩ = some (.slice a n cap) := by simp
  obtain ⟨ca, cn, cc, _, _, rfl, _⟩ := id hr
  have H := Lib.hid h
  have HSH := Lib.hid hs
  have HE := Lib.hid hE
  have HR0 := Lib.hid hr
  have HSC := Lib.hid hsc
  have hck := idxCheck_in ks A hks a n cap P V R K B Rv Kv (w.alloc (.cells #[.slice a n cap] 22)) (hE.below hb0) (h.below hb0) hs
  have hdc := fun (W : World) (hW : Below w.heap.size w W) => downCheck_calls ks A hks (.slice ca cn cc) caps W (hE.below hW) (hr.below hW) hsc
  have hab := fun (p q : ByteArray) (W : World) (hW : Below w.heap.size w W) (hq : q.size ≤ 1000000000) => above_calls ks A (.slice ca cn cc) caps p q W (hE.below hW) (hr.below hW) hsc.1 (fun m hm => by have := (hsc.2 m hm).2; omega) hq
  replace hck := Lib.hid hck
  replace hdc := Lib.hid hdc
  replace hab := Lib.hid hab
  clear hs hE hr hsc h
  have hBE : Hid (badErr (enF n P V R K B) caps = orE (idxErr (enF n P V R K B)) (capsErr caps)) := Lib.hid rfl
  go_enter Tryz.func146, Tryz.ntmps146
  go_wp2_with fail
  generalize hw1 : w.alloc (.cells #[.slice a n cap] 22) = w1 at *
  clear hw1
  refine hck.out.mono ?_
  rintro e w2 ⟨⟨v2, rfl, hv2⟩, hb2⟩
  have hb12 := hb2
  rcases fault_form hv2 with ⟨h0, rfl⟩ | ⟨h0, ty, q, rfl⟩
  · have HI : Hid ((idxErr (enF n P V R K B)).1 = 0) := Lib.hid h0
    have hdc2 := hdc.out w2 (below_step hb0 hb2)
    replace hdc2 := Lib.hid hdc2
    clear hv2 h0 hck
    go_wp2_with fail
    refine hdc2.out.mono ?_
    rintro e w3 ⟨⟨v3, rfl, hv3⟩, hb3⟩
    replace hb12 := below_step hb12 hb3
    clear hb3 hb2 hdc2 hdc
    rcases fault_form hv3 with ⟨h0, rfl⟩ | ⟨h0, ty, q, rfl⟩
    · have HR := Lib.hid (rightI_of HI.out)
      have HF : Hid (badErr (enF n P V R K B) caps = (0, -1)) := Lib.hid (by
        rw [hBE.out]
        unfold orE
        rw [if_neg (by rw [HI.out]; simp)]
        rcases hv3 with h | h | h
        · exact Prod.ext h.1 h.2.1
        · exact absurd h0 h.1
        · exact absurd h0 h.1)
      have hn : n ≤ 100 := by have := HR.out.len; rwa [enF_length] at this
      have hmk := run_make_row' (P := Tryz.prog) 174 4 (.bool false) 1 Tryz.underlying174 Tryz.infoBool rfl .i64 .i64 n (by omega) (by omega)
      have hba := below_alloc w3 (.cells (madeCells #[.bool false] n) 4)
      have hrow : MarkRow (w3.alloc (.cells (madeCells #[.bool false] n) 4)) w3.heap.size n (fun _ => false) := World.rowIs_made w3 (.bool false) n 4
      have hbb := below_alloc (w3.alloc (.cells (madeCells #[.bool false] n) 4)) (.cells #[.slice (some ⟨w3.heap.size, 0, none⟩) n n] 174)
      have z8 : ((w3.alloc (.cells (madeCells #[.bool false] n) 4)).alloc (.cells #[.slice (some ⟨w3.heap.size, 0, none⟩) n n] 174)).cell? ⟨w3.heap.size + 1, 0, none⟩ = some (.slice (some ⟨w3.heap.size, 0, none⟩) n n) := by simp
      replace hrow := hrow.below hbb
      have hB1 := below_step (below_step hb12 hba) hbb
      have hg : w1.heap.size ≤ w3.heap.size := hb12.size
      have z2 := Below.cell_some hb12 z1
      clear hv3 h0 hba hbb hb12
      go_wp2_with fail
      clear hmk
      generalize (w3.alloc (.cells (madeCells #[.bool false] n) 4)).alloc (.cells #[.slice (some ⟨w3.heap.size, 0, none⟩) n n] 174) = w5 at *
      generalize w3.heap.size = g at *
      obtain ⟨l, hl⟩ : ∃ l, enF n P V R K B = l := ⟨_, rfl⟩
      have HEN : Hid (∀ j, j < n → enAt l j = ⟨((P j).data.toList, (V j).data.toList), R j, K j, B j⟩) := Lib.hid (fun j hj => by rw [← hl]; exact enAt_enF hj)
      have HLEN : Hid (l.length = n) := Lib.hid (by rw [← hl, enF_length])
      have HLE := Lib.hid hl
      simp only [hl] at HR HF
      have HZ := Lib.hid z8
      have HRow := Lib.hid hrow
      clear z2 z8 hrow hl hBE HI
      go_loopw [9] (fun x wr => ∃ (b : Bool) (M : Nat → Bool), x = .bool b ∧ Hid (MarkRow wr g n M) ∧ Hid (wr.cell? ⟨g + 1, 0, none⟩ = some (.slice (some ⟨g, 0, none⟩) n n)) ∧ Below w1.heap.size w1 wr ∧ Hid (SoundB l caps M) ∧ Hid (b = false → ∀ i, i < n → ClosedB l caps M i)) (fun x W => 2 * leftW W g n + bitOf x)
      case atStart => exact ⟨true, _, rfl, HRow, HZ, hB1, Lib.hid (fun j _ h => by cases h), Lib.hid (fun h => by cases h)⟩
      case round =>
        clear HRow HZ hB1
        obtain ⟨b0, M0, rfl, HRow, HZ, hB1, HS, HC⟩ := hrel
        have HMS : Hid (leftW wr g n = leftM n M0) := Lib.hid (leftW_row HRow.out)
        cases b0 with
        | false =>
          have HD : Hid (∀ j, j < n → (M0 j = true ↔ BadP l caps (enAt l j).md)) := Lib.hid (fun j hj => bad_done HR.out HS.out (fun i hi => HC.out rfl i (by rw [← HLEN.out]; exact hi)) (by rw [HLEN.out]; exact hj))
          have z8 := HZ.out
          clear HC HMS
          go_wp2_with fail
          go_ret2
          rw [HLE.out, HF.out]
          refine ⟨⟨_, _, rfl, .inl ⟨rfl, rfl, rfl⟩, fun _ => ?_, fun h => absurd rfl h⟩, below_step hb0 hB1⟩
          unfold BadAt
          rw [HLEN.out]
          exact ⟨g, M0, rfl, HRow.out, HD.out⟩
        | true =>
          clear HC
          have y2 := Below.cell_some hB1 z1
          go_wp2_with fail
          generalize hwo : wr = wo at *
          clear y2
          go_loopw [9, 10, 12, 29] (fun y _ _ x wr => ∃ (q : Nat) (b : Bool) (M : Nat → Bool), q ≤ n ∧ x = .int .i64 q ∧ y = .bool b ∧ Hid (MarkRow wr g n M) ∧ Hid (wr.cell? ⟨g + 1, 0, none⟩ = some (.slice (some ⟨g, 0, none⟩) n n)) ∧ Below w1.heap.size w1 wr ∧ Hid (SoundB l caps M) ∧ Hid (∀ j, M0 j = true → M j = true) ∧ Hid (b = true → leftM n M < leftM n M0) ∧ Hid (b = false → M = M0 ∧ ∀ i, i < q → ClosedB l caps M i)) (fun _ _ _ x _ => n - (intOf x).toNat)
          case atStart => exact ⟨0, false, M0, Nat.zero_le _, rfl, rfl, HRow, HZ, hB1, HS, Lib.hid (fun _ h => h), Lib.hid (fun h => by cases h), Lib.hid (fun _ => ⟨rfl, fun i hi => absurd hi (Nat.not_lt_zero _)⟩)⟩
          case round =>
            clear HRow HZ hB1 HS
            obtain ⟨q, b1, M1, hq, rfl, rfl, HRow, HZ, hB1, HS, HM, HLT, HC⟩ := hrel
            by_cases hlt : q < n
            · have hkn : (q : Int) < (n : Int) := by omega
              obtain ⟨bb, oo, ea, hcell⟩ := H.out.at_ q hlt
              obtain ⟨a1, n1, s1, a2, n2, s2, e1, e2⟩ := H.out.forms hlt
              have hM := H.out.reqs q hlt
              obtain ⟨_, hp1, hv1, hsr, _, _⟩ := HSH.out.at_ hlt
              rw [e1] at hM
              rw [e1, e2] at hcell
              have hRq : (enAt l q).reqs = R q := by rw [HEN.out q hlt]
              have hba := below_alloc wr (.cells #[.string (P q), .string (V q), .slice a1 n1 s1, .slice a2 n2 s2, .bool (B q)] 62)
              have hz := box5_alloc wr (.string (P q)) (.string (V q)) (.slice a1 n1 s1) (.slice a2 n2 s2) (.bool (B q)) 62
              replace hcell := (hcell.below hb0).below hB1
              have hab1 := hab.out (P q) (V q) (wr.alloc (.cells #[.string (P q), .string (V q), .slice a1 n1 s1, .slice a2 n2 s2, .bool (B q)] 62)) (below_step hb0 (below_step hB1 hba)) (by omega)
              cases hA : aboveB caps ((P q).data.toList, (V q).data.toList) with
              | true =>
                rw [hA] at hab1
                have HT : Hid ((aboveB caps ((P q).data.toList, (V q).data.toList) || anyB l M1 (R q)) = true) := Lib.hid (by rw [hA, Bool.true_or])
                replace hab1 := Lib.hid hab1
                obtain ⟨d0, d1, d2, d3, d4⟩ := id hcell
                obtain ⟨c0, c1, c2, c3, c4⟩ := id hz
                subst ea
                have hB2 := below_step hB1 hba
                have HZ0 := Lib.hid (Below.cell_some hba HZ.out)
                have HRow0 := Lib.hid (HRow.out.below hba)
                clear hA hM hsr hp1 hv1 e1 e2 hcell hz hB1 HRow HZ
                go_wp2_with fail
                generalize wr.alloc (.cells #[.string (P q), .string (V q), .slice a1 n1 s1, .slice a2 n2 s2, .bool (B q)] 62) = wq at *
                refine hab1.out.mono ?_
                rintro e w7 ⟨rfl, hb⟩
                have hB1 := below_step hB2 hb
                have HZ := Lib.hid (Below.cell_some hb HZ0.out)
                have HRow := Lib.hid (HRow0.out.below hb)
                have g0 := HRow.out.cell hlt
                have z8 := HZ.out
                clear hb HZ0 HRow0 hab1 c0 c1 c2 c3 c4 d0 d1 d2 d3 d4 hB2
                cases hMq : M1 q with
                | true =>
                  rw [hMq] at g0
                  have HC' : Hid (b1 = false → M1 = M0 ∧ ∀ i, i < q + 1 → ClosedB l caps M1 i) := Lib.hid (fun h => ⟨(HC.out h).1, fun i hi => by
                    by_cases e : i = q
                    · subst e; exact fun _ => hMq
                    · exact (HC.out h).2 i (by omega)⟩)
                  clear hMq HC HT
                  go_wp2_with fail
                  go_roundw
                  case rel => exact ⟨q + 1, b1, M1, by omega, by go_num, rfl, HRow, HZ, hB1, HS, HM, HLT, HC'⟩
                  case measure => simp [intOf]; omega
                | false =>
                  rw [hMq] at g0
                  have HS' : Hid (SoundB l caps (setM M1 q)) := Lib.hid (soundB_set HR.out HS.out (by rw [HLEN.out]; exact hlt) (by rw [HEN.out q hlt]; exact HT.out))
                  have HM' : Hid (∀ j, M0 j = true → setM M1 q j = true) := Lib.hid (fun j hj => setM_of q (HM.out j hj))
                  have HLT' : Hid (leftM n (setM M1 q) < leftM n M0) := Lib.hid (by
                    have h1 := leftM_set hlt hMq
                    have h2 := leftM_le (n := n) HM.out
                    omega)
                  have df := HRow.out.fz q
                  have HRow3 := Lib.hid (HRow.out.set q)
                  have HZ3 := Lib.hid (row_box _ _ _ _ HRow.out HZ.out (Nat.succ_ne_self g) q)
                  have hB3 := hB1.setCell (p := ⟨g, q, none⟩) hg (.bool true)
                  clear hMq HC HLT
                  go_wp2_with fail
                  go_roundw
                  case rel => exact ⟨q + 1, true, _, by omega, by go_num, rfl, HRow3, HZ3, hB3, HS', HM', Lib.hid (fun _ => HLT'.out), Lib.hid (fun h => by cases h)⟩
                  case measure => simp [intOf]; omega
              | false =>
                rw [hA] at hab1
                have HA := Lib.hid hA
                replace hab1 := Lib.hid hab1
                obtain ⟨_, _, _, P1, V1, e3, e4, hnc1, _, hc1⟩ := hM
                injection e3 with e3 e5 e6
                subst e3 e5 e6
                have hn1 : n1 ≤ 1000000 := by have := hsr.1; rw [e4, mdF_length] at this; exact this
                have hq7 : ∀ j, j < n1 → ∃ k, k < n ∧ findE l ((P1 j).data.toList, (V1 j).data.toList) = (k : Int) := fun j hj => by
                  have hmem : ((P1 j).data.toList, (V1 j).data.toList) ∈ (enAt l q).reqs := by rw [hRq, e4]; exact List.mem_of_getElem? (mdF_get n1 P1 V1 j hj)
                  obtain ⟨e0, he0, he1⟩ := HR.out.all _ (enAt_mem (by rw [HLEN.out]; exact hlt)) _ hmem
                  obtain ⟨h4, h5, _⟩ := HR.out.at_ he0 he1
                  rw [HLEN.out] at h4
                  exact ⟨_, h4, h5⟩
                obtain ⟨d0, d1, d2, d3, d4⟩ := id hcell
                obtain ⟨c0, c1, c2, c3, c4⟩ := id hz
                subst ea
                have hB2 := below_step hB1 hba
                have HZ0 := Lib.hid (Below.cell_some hba HZ.out)
                have HRow0 := Lib.hid (HRow.out.below hba)
                have hc2 : ∀ j, j < n1 → ∃ b o, a1 = some ⟨b, o, none⟩ ∧ w1.cell? ⟨b, o + j * 2, none⟩ = some (.string (P1 j)) ∧ w1.cell? ⟨b, o + j * 2 + 1, none⟩ = some (.string (V1 j)) := fun j hj =>
                  let ⟨b, o, e, h1, h2⟩ := hc1 j hj; ⟨b, o, e, Below.cell_some hb0 h1, Below.cell_some hb0 h2⟩
                have HX := Lib.hid (And.intro hq7 (And.intro hc2 (And.intro hn1 (And.intro e4 hRq))))
                clear hA hsr hp1 hv1 e1 e2 hcell hz hB1 HRow HZ hq7 hc1 hc2 hn1 e4 hRq hnc1
                go_wp2_with fail
                generalize wr.alloc (.cells #[.string (P q), .string (V q), .slice a1 n1 s1, .slice a2 n2 s2, .bool (B q)] 62) = wq at *
                refine hab1.out.mono ?_
                rintro e w7 ⟨rfl, hb⟩
                have hB1 := below_step hB2 hb
                have HZ := Lib.hid (Below.cell_some hb HZ0.out)
                have HRow := Lib.hid (HRow0.out.below hb)
                replace c2 := Below.cell_some hb c2
                have hcf := containsMf_calls 212 #[.pointer (some ⟨g + 1, 0, none⟩), .pointer (some ⟨w.heap.size, 0, none⟩)] Tryz.enters_bad1 (fun r => M1 (findE l r).toNat) a1 n1 s1 w7.heap.size P1 V1 w7 HX.out.2.2.1 (Nat.le_refl _)
                  (fun j hj => let ⟨b, o, e, h1, h2⟩ := HX.out.2.1 j hj; ⟨b, o, e, Below.cell_some hB1 h1, Below.cell_some hB1 h2⟩)
                  (fun W hW j hj => by
                    obtain ⟨k, hk, hk2⟩ := HX.out.1 j hj
                    have h9 := bad1_calls _ n cap P V R K B Rv Kv (g + 1) w.heap.size g M1 (P1 j) (V1 j) W ((H.out.below hb0).below (below_step hB1 hW)) (by omega) (Below.cell_some hW HZ.out) (Below.cell_some (below_step hB1 hW) z1) (HRow.out.below hW) k hk (by rw [HLE.out]; exact hk2)
                    have h8 : (findE l ((P1 j).data.toList, (V1 j).data.toList)).toNat = k := by rw [hk2]; rfl
                    show Calls _ _ _ _ fun e w'' => e = .returned (.bool (M1 (findE l ((P1 j).data.toList, (V1 j).data.toList)).toNat)) ∧ _
                    rw [h8]
                    exact h9)
                have HAN : Hid (anyB l M1 (R q) = (mdF n1 P1 V1).any (fun r => M1 (findE l r).toNat)) := Lib.hid (by unfold anyB; rw [HX.out.2.2.2.1])
                generalize (mdF n1 P1 V1).any (fun r => M1 (findE l r).toNat) = Y at hcf HAN
                replace hcf := Lib.hid hcf
                have HZ7 := HZ
                have HRow7 := HRow
                clear hb HZ0 HRow0 hab1 c0 c1 c3 c4 d0 d1 d2 d3 d4 hB2 HRow HZ
                go_wp2_with fail
                refine hcf.out.mono ?_
                rintro e w8 ⟨rfl, hb⟩
                replace hB1 := below_step hB1 hb
                have HZ := Lib.hid (Below.cell_some hb HZ7.out)
                have HRow := Lib.hid (HRow7.out.below hb)
                have g0 := HRow.out.cell hlt
                have z8 := HZ.out
                clear hb HZ7 HRow7 hcf c2
                cases Y with
                | true =>
                  have HT : Hid ((aboveB caps ((P q).data.toList, (V q).data.toList) || anyB l M1 (R q)) = true) := Lib.hid (by rw [HAN.out, Bool.or_true])
                  cases hMq : M1 q with
                  | true =>
                    rw [hMq] at g0
                    have HC' : Hid (b1 = false → M1 = M0 ∧ ∀ i, i < q + 1 → ClosedB l caps M1 i) := Lib.hid (fun h => ⟨(HC.out h).1, fun i hi => by
                      by_cases e : i = q
                      · subst e; exact fun _ => hMq
                      · exact (HC.out h).2 i (by omega)⟩)
                    clear hMq HC HT
                    go_wp2_with fail
                    go_roundw
                    case rel => exact ⟨q + 1, b1, M1, by omega, by go_num, rfl, HRow, HZ, hB1, HS, HM, HLT, HC'⟩
                    case measure => simp [intOf]; omega
                  | false =>
                    rw [hMq] at g0
                    have HS' : Hid (SoundB l caps (setM M1 q)) := Lib.hid (soundB_set HR.out HS.out (by rw [HLEN.out]; exact hlt) (by rw [HEN.out q hlt]; exact HT.out))
                    have HM' : Hid (∀ j, M0 j = true → setM M1 q j = true) := Lib.hid (fun j hj => setM_of q (HM.out j hj))
                    have HLT' : Hid (leftM n (setM M1 q) < leftM n M0) := Lib.hid (by
                      have h1 := leftM_set hlt hMq
                      have h2 := leftM_le (n := n) HM.out
                      omega)
                    have df := HRow.out.fz q
                    have HRow3 := Lib.hid (HRow.out.set q)
                    have HZ3 := Lib.hid (row_box _ _ _ _ HRow.out HZ.out (Nat.succ_ne_self g) q)
                    have hB3 := hB1.setCell (p := ⟨g, q, none⟩) hg (.bool true)
                    clear hMq HC HLT
                    go_wp2_with fail
                    go_roundw
                    case rel => exact ⟨q + 1, true, _, by omega, by go_num, rfl, HRow3, HZ3, hB3, HS', HM', Lib.hid (fun _ => HLT'.out), Lib.hid (fun h => by cases h)⟩
                    case measure => simp [intOf]; omega
                | false =>
                  have HC' : Hid (b1 = false → M1 = M0 ∧ ∀ i, i < q + 1 → ClosedB l caps M1 i) := Lib.hid (fun h => ⟨(HC.out h).1, fun i hi => by
                    by_cases e : i = q
                    · subst e
                      unfold ClosedB
                      rw [HEN.out i hlt]
                      show (aboveB caps ((P i).data.toList, (V i).data.toList) || anyB l M1 (R i)) = true → _
                      rw [HA.out, HAN.out]
                      intro h; cases h
                    · exact (HC.out h).2 i (by omega)⟩)
                  clear HC HA HAN HX
                  go_wp2_with fail
                  go_roundw
                  case rel => exact ⟨q + 1, b1, M1, by omega, by go_num, rfl, HRow, HZ, hB1, HS, HM, HLT, HC'⟩
                  case measure => simp [intOf]; omega
            · have HC' : Hid (b1 = false → ∀ i, i < n → ClosedB l caps M1 i) := Lib.hid (fun h i hi => (HC.out h).2 i (by omega))
              have HMS2 : Hid (2 * leftW wr g n + bitOf (.bool b1) < 2 * leftW wo g n + bitOf (.bool true)) := Lib.hid (by
                rw [HMS.out, leftW_row HRow.out]
                cases b1 with
                | true => have := HLT.out rfl; omega
                | false =>
                  have := leftM_le (n := n) HM.out
                  show 2 * leftM n M1 + 0 < 2 * leftM n M0 + 1
                  omega)
              have hnq : ¬ (q : Int) < (n : Int) := by omega
              clear hlt hq HC HLT
              go_wp2_with fail
              go_roundw
              case rel => exact ⟨b1, M1, rfl, HRow, HZ, hB1, HS, HC'⟩
              case measure =>
                have := HMS2.out
                rw [← hwo] at this
                simpa [bitOf] using this
    · have HV := Lib.hid hv3
      have HF : Hid (badErr (enF n P V R K B) caps = capsErr caps) := Lib.hid (by
        rw [hBE.out]
        unfold orE
        rw [if_neg (by rw [HI.out]; simp)])
      have H0 := Lib.hid h0
      clear hv3 h0
      go_wp2_with fail
      go_ret2
      rw [HF.out]
      exact ⟨⟨_, _, rfl, HV.out, fun h => absurd h H0.out, fun _ => rfl⟩, below_step hb0 hb12⟩
  · have HV := Lib.hid hv2
    have HF : Hid (badErr (enF n P V R K B) caps = idxErr (enF n P V R K B)) := Lib.hid (by
      rw [hBE.out]
      unfold orE
      rw [if_pos h0])
    have H0 := Lib.hid h0
    clear hv2 h0
    go_wp2_with fail
    go_ret2
    rw [HF.out]
    exact ⟨⟨_, _, rfl, HV.out, fun h => absurd h H0.out, fun _ => rfl⟩, below_step hb0 hb2⟩
end Go.Proofs.Pw

namespace Go.Proofs.Pw
open Go.RowKit
open Go.Lib hiding intOf
theorem Box2.sto {w : World} {b : Nat} {u0 u1 : Value} (h : Box2 w b u0 u1) (v0 v1 : Value) : Box2 ((w.setCell ⟨b, 0, none⟩ v0).setCell ⟨b, 1, none⟩ v1) b v0 v1 := ⟨by rw [set_off _ (by decide)]; exact set_same _ h.c0, set_same _ (by rw [set_off _ (by decide)]; exact h.c1), fun j => by simp [h.fr j]⟩
theorem below_sto2 {B : Nat} {w W : World} (h : Below B w W) {b : Nat} (hb : B ≤ b) (u0 u1 : Value) : Below B w ((W.setCell ⟨b, 0, none⟩ u0).setCell ⟨b, 1, none⟩ u1) := (h.setCell (p := ⟨b, 0, none⟩) hb u0).setCell (p := ⟨b, 1, none⟩) hb u1
end Go.Proofs.Pw
